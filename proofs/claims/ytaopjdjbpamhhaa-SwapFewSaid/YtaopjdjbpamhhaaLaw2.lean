/- Proved: plain facts: where the root of a treap stands among its pairs; the messages of a mirror are few. No program. No condition. -/
import Derived.Test.YtaopjdjbpamhhaaLaw1
namespace Go.Proofs.Ytaopjdjbpamhhaa
open Go Go.RowKit
set_option linter.unusedVariables false
set_option linter.unusedSimpArgs false

section
variable {seed : Int}
theorem topTo_lo {l : List (Bts × Bts)} {c : Int} : ∀ n, (∀ i, i < n → ∀ h : i < l.length, coin seed 3 l[i].1 < c) → (topTo seed l n).1 < 0 ∨ (topTo seed l n).2 < c
  | 0, _ => by simp [topTo]
  | n + 1, h => by
    have ih := topTo_lo n fun i hi hl => h i (by omega) hl
    by_cases hn : n < l.length
    · rw [topTo_succ hn, topStep]
      split
      · exact .inr (h n (by omega) hn)
      · exact ih
    · rw [topTo, List.getElem?_eq_none (by omega)]; exact ih
theorem topTo_hi {l : List (Bts × Bts)} {m : Nat} (hm : m < l.length) (hlo : ∀ i, i < m → ∀ h : i < l.length, coin seed 3 l[i].1 < coin seed 3 l[m].1) (hhi : ∀ i, m < i → ∀ h : i < l.length, coin seed 3 l[i].1 ≤ coin seed 3 l[m].1) : ∀ n, n ≤ l.length → m < n → topTo seed l n = ((m : Int), coin seed 3 l[m].1)
  | 0, _, h => by omega
  | n + 1, hn, h => by
    rw [topTo_succ (by omega), topStep]
    by_cases e : m = n
    · subst e
      rw [if_pos (topTo_lo m hlo)]
    · rw [topTo_hi hm hlo hhi n (by omega) (by omega), if_neg]
      have := hhi n (by omega) (by omega)
      simp only
      omega
theorem Tr.top_pairs {l r : Tr} {k v : Bts} (h : (Tr.nd l k v r).good seed) : topI seed (Tr.nd l k v r).pairs = l.size := by
  obtain ⟨hl, hr, pl, pr⟩ := h
  have hlen := Tr.pairs_len l
  have hm : l.size < (Tr.nd l k v r).pairs.length := by simp [Tr.pairs]; omega
  have hat : (Tr.nd l k v r).pairs[l.size].1 = k := by simp [Tr.pairs, ← hlen]
  have := topTo_hi (seed := seed) hm (fun i hi h => by
    rw [hat]
    have hp : (Tr.nd l k v r).pairs[i] ∈ l.pairs := by
      simp only [Tr.pairs]
      rw [List.getElem_append_left (by omega)]
      exact List.getElem_mem _
    have a := aboveK_iff.1 (pl _ hp).2
    have := not_lt_of (pl _ hp).1
    omega) (fun i hi h => by
    rw [hat]
    have hp : (Tr.nd l k v r).pairs[i] ∈ r.pairs := by
      simp only [Tr.pairs]
      rw [List.getElem_append_right (by omega), List.getElem_cons, dif_neg (by omega)]
      exact List.getElem_mem _
    have a := aboveK_iff.1 (pr _ hp).2
    omega) _ (Nat.le_refl _) hm
  unfold topI
  rw [this]
end

theorem getK_mem : ∀ {l : List (Bts × Bts)} {k v : Bts}, getK l k = some v → (k, v) ∈ l
  | [], _, _, h => by simp [getK] at h
  | p :: l, k, v, h => by
    rw [getK] at h
    split at h
    · exact List.mem_cons_of_mem _ (getK_mem h)
    · split at h
      · next e =>
        have e := cmpB_zero e
        subst e
        rw [← Option.some.inj h]
        simp
      · cases h
theorem mem_getK : ∀ {l : List (Bts × Bts)} {p : Bts × Bts}, Srt l → p ∈ l → getK l p.1 = some p.2
  | q :: l, p, hs, h => by
    have hs' := List.pairwise_cons.1 hs
    rw [getK]
    rcases List.mem_cons.1 h with rfl | h
    · rw [if_neg (by rw [cmpB_self]; omega), if_pos (cmpB_self _)]
    · rw [if_pos (hs'.1 p h)]; exact mem_getK hs'.2 h
theorem srt_ext : ∀ {a b : List (Bts × Bts)}, Srt a → Srt b → (∀ p, p ∈ a ↔ p ∈ b) → a = b
  | [], [], _, _, _ => rfl
  | [], q :: b, _, _, h => absurd ((h q).2 (by simp)) (by simp)
  | p :: a, [], _, _, h => absurd ((h p).1 (by simp)) (by simp)
  | p :: a, q :: b, ha, hb, h => by
    have ha' := List.pairwise_cons.1 ha
    have hb' := List.pairwise_cons.1 hb
    have e : p = q := by
      rcases List.mem_cons.1 ((h p).1 (by simp)) with e | h1
      · exact e
      · rcases List.mem_cons.1 ((h q).2 (by simp)) with e | h2
        · exact e.symm
        · exact absurd (ha'.1 q h2) (not_lt_of (hb'.1 p h1)).1
    subst e
    rw [srt_ext ha'.2 hb'.2 fun x => ?_]
    constructor
    · intro hx
      rcases List.mem_cons.1 ((h x).1 (by simp [hx])) with e | h1
      · have := ha'.1 x hx; rw [e, cmpB_self] at this; omega
      · exact h1
    · intro hx
      rcases List.mem_cons.1 ((h x).2 (by simp [hx])) with e | h1
      · have := hb'.1 x hx; rw [e, cmpB_self] at this; omega
      · exact h1
theorem cmpB_next : ∀ (p k : Bts), cmpB p (k ++ [0]) < 0 ↔ ¬ cmpB k p < 0
  | [], [] => by simp [cmpB]
  | [], y :: u => by simp only [cmpB, List.length_cons, List.cons_append]; omega
  | x :: t, [] => by
    rw [List.nil_append, cmpB]
    have h2 : cmpB [] (x :: t) < 0 := by simp only [cmpB, List.length_cons]; omega
    have : ¬ (if x = 0 then cmpB t [] else (x.toNat : Int) - (0 : UInt8).toNat) < 0 := by
      split
      · cases t <;> simp [cmpB] <;> omega
      · have : (0 : UInt8).toNat = 0 := rfl
        omega
    exact ⟨fun h => absurd h this, fun h => absurd h2 h⟩
  | x :: t, y :: u => by
    have ih := cmpB_next t u
    rw [List.cons_append, cmpB, cmpB]
    by_cases e : x = y
    · rw [if_pos e, if_pos e.symm, ih]
    · rw [if_neg e, if_neg (fun h => e h.symm)]
      have : x.toNat ≠ y.toNat := fun h => e (UInt8.toNat_inj.1 h)
      omega
theorem cmpB_nil (p : Bts) : ¬ cmpB p [] < 0 := by cases p <;> simp only [cmpB, List.length_nil] <;> omega
theorem inS_all (p : Bts × Bts) : inS [] true [] false p = true := by simp [inS, cmpB_nil]

section
variable {seed : Int}
/-- Whether a span of the receiver is told to be the same. -/
def sameAt (seed : Int) (u t : Tr) (low high : Bts) (bd : Bool) : Bool := ((u.cut low true high bd).size == t.size) && ((u.cut low true high bd).dg seed == t.dg seed)
structure Msg where
  low : Bts
  high : Bts
  bd : Bool
  size : Nat
  dg : Int
  same : Bool
  prs : List (Bts × Bts)
/-- The messages about a span. -/
def talk (seed : Int) (u : Tr) : Tr → Bts → Bts → Bool → List Msg
  | .nil, low, high, bd => [⟨low, high, bd, 0, 0, sameAt seed u .nil low high bd, []⟩]
  | .nd l k v r, low, high, bd => if sameAt seed u (.nd l k v r) low high bd = true then [⟨low, high, bd, (Tr.nd l k v r).size, (Tr.nd l k v r).dg seed, true, []⟩] else ⟨low, high, bd, (Tr.nd l k v r).size, (Tr.nd l k v r).dg seed, false, [(k, v)]⟩ :: (talk seed u l low k true ++ talk seed u r (k ++ [0]) high bd)
def Tr.tall : Tr → Nat
  | nil => 0
  | nd l _ _ r => 1 + max l.tall r.tall
/-- How many keys of a span are different. -/
def diffS (F U : List (Bts × Bts)) (low high : Bts) (bd : Bool) : Nat :=
  F.countP (fun p => inS low true high bd p && getK U p.1 != some p.2) + U.countP (fun p => inS low true high bd p && !hasK F p.1)
theorem countP_two {α : Type} {p q s : α → Bool} (h1 : ∀ x, p x = true → q x = true → False) (h2 : ∀ x, p x = true → s x = true) (h3 : ∀ x, q x = true → s x = true) : ∀ l : List α, l.countP p + l.countP q ≤ l.countP s
  | [] => by simp
  | x :: l => by
    have ih := countP_two h1 h2 h3 l
    have a1 := h1 x
    have a2 := h2 x
    have a3 := h3 x
    rw [List.countP_cons, List.countP_cons, List.countP_cons]
    cases hp : p x <;> cases hq : q x <;> cases hs : s x <;> simp_all <;> omega
theorem span_parts {low high k : Bts} {bd : Bool} (hk : inS low true high bd (k, []) = true) (p : Bts × Bts) :
    inS low true k true p = (inS low true high bd p && decide (cmpB p.1 k < 0)) ∧ inS (k ++ [0]) true high bd p = (inS low true high bd p && decide (cmpB k p.1 < 0)) := by
  simp only [inS, Bool.not_true, Bool.false_or, Bool.and_eq_true, Bool.not_eq_true', decide_eq_false_iff_not, Bool.or_eq_true, decide_eq_true_eq] at hk
  obtain ⟨h1, h2⟩ := hk
  constructor
  · rw [Bool.eq_iff_iff]
    simp only [inS, Bool.not_true, Bool.false_or, Bool.and_eq_true, Bool.not_eq_true', decide_eq_false_iff_not, Bool.or_eq_true, decide_eq_true_eq]
    constructor
    · rintro ⟨a, b⟩
      refine ⟨⟨a, ?_⟩, b⟩
      rcases h2 with h2 | h2
      · exact .inl h2
      · exact .inr (cmpB_trans b h2)
    · rintro ⟨⟨a, _⟩, b⟩
      exact ⟨a, b⟩
  · rw [Bool.eq_iff_iff]
    simp only [inS, Bool.not_true, Bool.false_or, Bool.and_eq_true, Bool.not_eq_true', decide_eq_false_iff_not, Bool.or_eq_true, decide_eq_true_eq, cmpB_next]
    constructor
    · rintro ⟨a, b⟩
      have a := Decidable.not_not.1 a
      exact ⟨⟨fun e => h1 (cmpB_trans a e), b⟩, a⟩
    · rintro ⟨⟨_, b⟩, a⟩
      exact ⟨fun e => e a, b⟩
theorem diffS_parts {F U : List (Bts × Bts)} {low high k : Bts} {bd : Bool} (hk : inS low true high bd (k, []) = true) : diffS F U low k true + diffS F U (k ++ [0]) high bd ≤ diffS F U low high bd := by
  have h1 : ∀ f : (Bts × Bts) → Bool, ∀ l : List (Bts × Bts), l.countP (fun p => inS low true k true p && f p) + l.countP (fun p => inS (k ++ [0]) true high bd p && f p) ≤ l.countP (fun p => inS low true high bd p && f p) := by
    intro f l
    refine countP_two (fun x a b => ?_) (fun x a => ?_) (fun x a => ?_) l
    · rw [(span_parts hk x).1] at a
      rw [(span_parts hk x).2] at b
      simp only [Bool.and_eq_true, decide_eq_true_eq] at a b
      exact (not_lt_of a.1.2).1 b.1.2
    · rw [(span_parts hk x).1] at a
      simp only [Bool.and_eq_true, decide_eq_true_eq] at a ⊢
      exact ⟨a.1.1, a.2⟩
    · rw [(span_parts hk x).2] at a
      simp only [Bool.and_eq_true, decide_eq_true_eq] at a ⊢
      exact ⟨a.1.1, a.2⟩
  have a := h1 (fun p => getK U p.1 != some p.2) F
  have b := h1 (fun p => !hasK F p.1) U
  unfold diffS
  omega
theorem diffS_same {F : List (Bts × Bts)} {u t : Tr} {low high : Bts} {bd : Bool} (hF : Srt F) (hu : u.good seed) (ht : t.good seed) (h : t.pairs = F.filter (inS low true high bd)) (hd : diffS F u.pairs low high bd = 0) : sameAt seed u t low high bd = true := by
  obtain ⟨c1, c2⟩ := Tr.cut_good low true high bd hu
  have hU := Tr.good_srt hu
  unfold diffS at hd
  obtain ⟨d1, d2⟩ := Nat.add_eq_zero_iff.1 hd
  have d1 := List.countP_eq_zero.1 d1
  have d2 := List.countP_eq_zero.1 d2
  have e : u.cut low true high bd = t := by
    refine Tr.canon c1 ht ?_
    rw [c2, h]
    refine srt_ext (List.Pairwise.sublist List.filter_sublist hU) (List.Pairwise.sublist List.filter_sublist hF) fun p => ?_
    simp only [List.mem_filter]
    constructor
    · rintro ⟨hp, hi⟩
      have a : (getK F p.1).isSome = true := by
        have a := d2 p hp
        rw [hi, hasK_getK] at a
        cases h : (getK F p.1).isSome
        · rw [h] at a; simp at a
        · rfl
      obtain ⟨v, hv⟩ := Option.isSome_iff_exists.1 a
      have hm := getK_mem hv
      have b : getK u.pairs p.1 = some v := by
        have b := d1 _ hm
        have hi' : inS low true high bd (p.1, v) = true := hi
        rw [hi'] at b
        simpa using b
      rw [mem_getK hU hp] at b
      rw [← Option.some.inj b] at hm
      exact ⟨hm, hi⟩
    · rintro ⟨hp, hi⟩
      have b : getK u.pairs p.1 = some p.2 := by
        have b := d1 _ hp
        rw [hi] at b
        simpa using b
      exact ⟨getK_mem b, hi⟩
  simp [sameAt, e]
theorem Tr.parts_of {F : List (Bts × Bts)} {l r : Tr} {k v low high : Bts} {bd : Bool} (hg : (Tr.nd l k v r).good seed) (h : (Tr.nd l k v r).pairs = F.filter (inS low true high bd)) :
    inS low true high bd (k, []) = true ∧ l.pairs = F.filter (inS low true k true) ∧ r.pairs = F.filter (inS (k ++ [0]) true high bd) := by
  obtain ⟨hl, hr, pl, pr⟩ := hg
  have hk : inS low true high bd (k, v) = true := by
    have : (k, v) ∈ (Tr.nd l k v r).pairs := by simp [Tr.pairs]
    rw [h, List.mem_filter] at this
    exact this.2
  have hk' : inS low true high bd (k, []) = true := hk
  refine ⟨hk', ?_, ?_⟩
  · rw [List.filter_congr (fun x _ => (span_parts hk' x).1)]
    have : (F.filter (fun p => inS low true high bd p && decide (cmpB p.1 k < 0))) = (F.filter (inS low true high bd)).filter (fun p => decide (cmpB p.1 k < 0)) := by
      rw [List.filter_filter]; exact List.filter_congr fun x _ => Bool.and_comm _ _
    rw [this, ← h, Tr.pairs, List.filter_append, List.filter_cons, if_neg (by simp [cmpB_self]), List.filter_eq_self.2 (fun p hp => by simpa using (pl p hp).1), List.filter_eq_nil_iff.2 (fun p hp => by simpa using (not_lt_of (pr p hp).1).1), List.append_nil]
  · rw [List.filter_congr (fun x _ => (span_parts hk' x).2)]
    have : (F.filter (fun p => inS low true high bd p && decide (cmpB k p.1 < 0))) = (F.filter (inS low true high bd)).filter (fun p => decide (cmpB k p.1 < 0)) := by
      rw [List.filter_filter]; exact List.filter_congr fun x _ => Bool.and_comm _ _
    have n1 : l.pairs.filter (fun p => decide (cmpB k p.1 < 0)) = [] := List.filter_eq_nil_iff.2 fun p hp => by simpa using (not_lt_of (pl p hp).1).1
    have n2 : r.pairs.filter (fun p => decide (cmpB k p.1 < 0)) = r.pairs := List.filter_eq_self.2 fun p hp => by simpa using (pr p hp).1
    rw [this, ← h, Tr.pairs, List.filter_append, List.filter_cons, if_neg (by simp [cmpB_self]), n1, n2, List.nil_append]
theorem few_math {a b c d e m x y : Nat} (h1 : a ≤ 1 + 2 * (c * x)) (h2 : b ≤ 1 + 2 * (d * y)) (hx : x ≤ m) (hy : y ≤ m) (hd : c + d ≤ e) (he : 0 < e) : 1 + (a + b) ≤ 1 + 2 * (e * (1 + m)) := by
  have a1 : c * x ≤ c * m := Nat.mul_le_mul_left _ hx
  have a2 : d * y ≤ d * m := Nat.mul_le_mul_left _ hy
  have a3 : (c + d) * m ≤ e * m := Nat.mul_le_mul_right _ hd
  rw [Nat.add_mul] at a3
  rw [Nat.mul_add]
  omega
theorem talk_few {F : List (Bts × Bts)} {u : Tr} (hF : Srt F) (hu : u.good seed) : ∀ (t : Tr) (low high : Bts) (bd : Bool), t.good seed → t.pairs = F.filter (inS low true high bd) → (talk seed u t low high bd).length ≤ 1 + 2 * (diffS F u.pairs low high bd * t.tall)
  | .nil, low, high, bd, _, _ => by simp [talk]
  | .nd l k v r, low, high, bd, hg, h => by
    rw [talk]
    split
    · simp
    · next hs =>
      obtain ⟨hk, el, er⟩ := Tr.parts_of hg h
      have h1 := talk_few hF hu l low k true hg.1 el
      have h2 := talk_few hF hu r (k ++ [0]) high bd hg.2.1 er
      have h3 := diffS_parts (F := F) (U := u.pairs) hk
      have h4 : 0 < diffS F u.pairs low high bd := Nat.pos_of_ne_zero fun e => hs (diffS_same hF hu hg h e)
      rw [List.length_cons, List.length_append, Tr.tall, Nat.add_comm]
      exact few_math h1 h2 (Nat.le_max_left _ _) (Nat.le_max_right _ _) h3 h4
theorem talk_pos {u : Tr} (t : Tr) (low high : Bts) (bd : Bool) : 1 ≤ (talk seed u t low high bd).length := by
  cases t with
  | nil => simp [talk]
  | nd l k v r => rw [talk]; split <;> simp
end
end Go.Proofs.Ytaopjdjbpamhhaa
