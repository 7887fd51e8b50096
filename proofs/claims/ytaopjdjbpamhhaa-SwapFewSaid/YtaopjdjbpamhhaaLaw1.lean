/- Proved: plain facts on treaps: the order of keys, search trees that are heaps, what putting, dropping and cutting do to their pairs, and that there is one tree for each list of pairs. No program. No condition. -/
import Derived.Test.YtaopjdjbpamhhaaMap4
namespace Go.Proofs.Ytaopjdjbpamhhaa
open Go Go.RowKit
set_option linter.unusedVariables false
set_option linter.unusedSimpArgs false

theorem cmpB_neg : ∀ a b : Bts, cmpB b a = - cmpB a b
  | [], [] => by simp [cmpB]
  | [], y :: u => by simp [cmpB]
  | x :: t, [] => by simp [cmpB]
  | x :: t, y :: u => by
    have ih := cmpB_neg t u
    unfold cmpB
    by_cases h : x = y
    · rw [if_pos h, if_pos h.symm, ih]
    · rw [if_neg h, if_neg (fun e => h e.symm)]; omega
theorem cmpB_zero : ∀ {a b : Bts}, cmpB a b = 0 → a = b
  | [], [], _ => rfl
  | [], y :: u, h => by simp [cmpB] at h; omega
  | x :: t, [], h => by simp [cmpB] at h; omega
  | x :: t, y :: u, h => by
    unfold cmpB at h
    by_cases e : x = y
    · rw [if_pos e] at h; rw [e, cmpB_zero h]
    · rw [if_neg e] at h; exact absurd (UInt8.toNat_inj.1 (by omega)) e
theorem cmpB_self (a : Bts) : cmpB a a = 0 := by have := cmpB_neg a a; omega
theorem cmpB_iff {a b : Bts} : cmpB a b = 0 ↔ a = b := ⟨cmpB_zero, fun h => by rw [h, cmpB_self]⟩
theorem cmpB_trans : ∀ {a b c : Bts}, cmpB a b < 0 → cmpB b c < 0 → cmpB a c < 0
  | [], [], c, h, _ => by simp [cmpB] at h
  | x :: t, [], c, h, _ => by simp [cmpB] at h; omega
  | [], y :: u, [], _, k => by simp [cmpB] at k; omega
  | [], y :: u, z :: s, _, _ => by simp only [cmpB, List.length_cons]; omega
  | x :: t, y :: u, [], _, k => by simp [cmpB] at k; omega
  | x :: t, y :: u, z :: s, h, k => by
    unfold cmpB at h k ⊢
    by_cases e : x = y
    · subst e
      rw [if_pos rfl] at h
      by_cases f : x = z
      · rw [if_pos f] at k ⊢; exact cmpB_trans h k
      · rw [if_neg f] at k ⊢; exact k
    · rw [if_neg e] at h
      by_cases f : y = z
      · subst f; rw [if_neg e]; exact h
      · rw [if_neg f] at k; rw [if_neg (fun g => by subst g; omega)]; omega

section
variable {seed : Int}
theorem aboveK_iff {a b : Bts} : aboveK seed a b = true ↔ coin seed 3 b < coin seed 3 a ∨ coin seed 3 a = coin seed 3 b ∧ cmpB a b < 0 := by
  unfold aboveK
  by_cases h : coin seed 3 a = coin seed 3 b
  · rw [if_pos h, decide_eq_true_iff, h]; simp
  · rw [if_neg h, decide_eq_true_iff]; simp [h]
theorem aboveK_asymm {a b : Bts} (h : aboveK seed a b = true) : ¬ aboveK seed b a = true := by
  rw [aboveK_iff] at *
  have := cmpB_neg a b
  omega
theorem aboveK_self (a : Bts) : ¬ aboveK seed a a = true := fun h => aboveK_asymm h h
theorem aboveK_trans {a b c : Bts} (h : aboveK seed a b = true) (k : aboveK seed b c = true) : aboveK seed a c = true := by
  rw [aboveK_iff] at *
  rcases h with h | ⟨h, h'⟩ <;> rcases k with k | ⟨k, k'⟩
  · left; omega
  · left; omega
  · left; omega
  · exact .inr ⟨by omega, cmpB_trans h' k'⟩
theorem aboveK_total {a b : Bts} (h : ¬ cmpB a b = 0) : aboveK seed a b = true ∨ aboveK seed b a = true := by
  rw [aboveK_iff, aboveK_iff]
  have := cmpB_neg a b
  omega
end

/-- Pairs in the order of keys. -/
def Srt (l : List (Bts × Bts)) : Prop := l.Pairwise fun p q => cmpB p.1 q.1 < 0
def ins : List (Bts × Bts) → Bts → Bts → List (Bts × Bts)
  | [], k, v => [(k, v)]
  | p :: l, k, v => if cmpB p.1 k < 0 then p :: ins l k v else if cmpB p.1 k = 0 then (k, v) :: l else (k, v) :: p :: l
def del : List (Bts × Bts) → Bts → List (Bts × Bts)
  | [], _ => []
  | p :: l, k => if cmpB p.1 k < 0 then p :: del l k else if cmpB p.1 k = 0 then l else p :: l
def getK : List (Bts × Bts) → Bts → Option Bts
  | [], _ => none
  | p :: l, k => if cmpB p.1 k < 0 then getK l k else if cmpB p.1 k = 0 then some p.2 else none
theorem rank_cons (p : Bts × Bts) (l : List (Bts × Bts)) (k : Bts) : rank (p :: l) k = if cmpB p.1 k < 0 then rank l k + 1 else 0 := by
  unfold rank
  rw [List.takeWhile_cons]
  by_cases h : cmpB p.1 k < 0
  · simp [h]
  · simp [h]
theorem hasK_cons (p : Bts × Bts) (l : List (Bts × Bts)) (k : Bts) : hasK (p :: l) k = if cmpB p.1 k < 0 then hasK l k else cmpB p.1 k == 0 := by
  unfold hasK
  rw [rank_cons]
  by_cases h : cmpB p.1 k < 0
  · simp [h]
  · simp [h]
theorem putK_ins : ∀ (l : List (Bts × Bts)) (k v : Bts), putK l k v = ins l k v
  | [], k, v => by simp [putK, ins, rank]
  | p :: l, k, v => by
    have ih := putK_ins l k v
    unfold putK at ih ⊢
    rw [rank_cons, hasK_cons, ins]
    by_cases h : cmpB p.1 k < 0
    · rw [if_pos h, if_pos h, if_pos h, ← ih]
      split <;> simp
    · by_cases e : cmpB p.1 k = 0 <;> simp [h, e]
theorem dropK_del : ∀ (l : List (Bts × Bts)) (k : Bts), dropK l k = del l k
  | [], k => by simp [dropK, del, hasK, rank]
  | p :: l, k => by
    have ih := dropK_del l k
    unfold dropK at ih ⊢
    rw [rank_cons, hasK_cons, del]
    by_cases h : cmpB p.1 k < 0
    · rw [if_pos h, if_pos h, if_pos h, ← ih]
      split <;> simp
    · by_cases e : cmpB p.1 k = 0 <;> simp [h, e]
theorem hasK_getK : ∀ (l : List (Bts × Bts)) (k : Bts), hasK l k = (getK l k).isSome
  | [], k => by simp [hasK, getK]
  | p :: l, k => by
    rw [hasK_cons, getK, hasK_getK l k]
    by_cases h : cmpB p.1 k < 0
    · simp [h]
    · by_cases e : cmpB p.1 k = 0 <;> simp [h, e]
theorem rank_getK : ∀ {l : List (Bts × Bts)} {k v : Bts}, getK l k = some v → ∃ x, l[rank l k]? = some (x, v)
  | [], k, v, h => by simp [getK] at h
  | p :: l, k, v, h => by
    rw [getK] at h
    rw [rank_cons]
    by_cases c : cmpB p.1 k < 0
    · rw [if_pos c] at h
      obtain ⟨x, hx⟩ := rank_getK h
      exact ⟨x, by rw [if_pos c]; simpa using hx⟩
    · rw [if_neg c] at h
      rw [if_neg c]
      split at h
      · exact ⟨p.1, by simp [← Option.some.inj h]⟩
      · cases h

theorem mem_ins : ∀ {l : List (Bts × Bts)} {k v : Bts} {p : Bts × Bts}, p ∈ ins l k v → p = (k, v) ∨ p ∈ l
  | [], k, v, p, h => by simp [ins] at h; exact .inl h
  | q :: l, k, v, p, h => by
    rw [ins] at h
    split at h
    · rcases List.mem_cons.1 h with rfl | h
      · exact .inr (by simp)
      · exact (mem_ins h).imp id fun h => by simp [h]
    · split at h
      · rcases List.mem_cons.1 h with rfl | h
        · exact .inl rfl
        · exact .inr (by simp [h])
      · rcases List.mem_cons.1 h with rfl | h
        · exact .inl rfl
        · exact .inr h
theorem ins_lt : ∀ {a : List (Bts × Bts)} {k : Bts} (_ : ∀ p ∈ a, cmpB p.1 k < 0) (b : List (Bts × Bts)) (v : Bts), ins (a ++ b) k v = a ++ ins b k v
  | [], _, _, _, _ => rfl
  | p :: a, k, h, b, v => by rw [List.cons_append, ins, if_pos (h p (by simp)), ins_lt (fun q hq => h q (by simp [hq])), List.cons_append]
theorem not_lt_of {a b : Bts} (h : cmpB a b < 0) : ¬ cmpB b a < 0 ∧ ¬ cmpB b a = 0 := by have := cmpB_neg a b; omega
theorem ins_gt0 {b : List (Bts × Bts)} {k : Bts} (h : ∀ p ∈ b, cmpB k p.1 < 0) (v : Bts) : ins b k v = (k, v) :: b := by
  cases b with
  | nil => rfl
  | cons p b =>
    have := not_lt_of (h p (by simp))
    rw [ins, if_neg this.1, if_neg this.2]
theorem ins_gt : ∀ {a b : List (Bts × Bts)} {k : Bts} (_ : ∀ p ∈ b, cmpB k p.1 < 0) (v : Bts), ins (a ++ b) k v = ins a k v ++ b
  | [], b, k, h, v => by rw [List.nil_append, ins_gt0 h]; rfl
  | p :: a, b, k, h, v => by
    rw [List.cons_append, ins, ins, ins_gt h v]
    split
    · rfl
    · split <;> rfl
theorem del_lt : ∀ {a : List (Bts × Bts)} {k : Bts} (_ : ∀ p ∈ a, cmpB p.1 k < 0) (b : List (Bts × Bts)), del (a ++ b) k = a ++ del b k
  | [], _, _, _ => rfl
  | p :: a, k, h, b => by rw [List.cons_append, del, if_pos (h p (by simp)), del_lt (fun q hq => h q (by simp [hq])), List.cons_append]
theorem del_gt0 {b : List (Bts × Bts)} {k : Bts} (h : ∀ p ∈ b, cmpB k p.1 < 0) : del b k = b := by
  cases b with
  | nil => rfl
  | cons p b =>
    have := not_lt_of (h p (by simp))
    rw [del, if_neg this.1, if_neg this.2]
theorem del_gt : ∀ {a b : List (Bts × Bts)} {k : Bts} (_ : ∀ p ∈ b, cmpB k p.1 < 0), del (a ++ b) k = del a k ++ b
  | [], b, k, h => by rw [List.nil_append, del_gt0 h]; rfl
  | p :: a, b, k, h => by
    rw [List.cons_append, del, del, del_gt h]
    split
    · rfl
    · split <;> rfl
theorem getK_lt : ∀ {a : List (Bts × Bts)} {k : Bts} (_ : ∀ p ∈ a, cmpB p.1 k < 0) (b : List (Bts × Bts)), getK (a ++ b) k = getK b k
  | [], _, _, _ => rfl
  | p :: a, k, h, b => by rw [List.cons_append, getK, if_pos (h p (by simp)), getK_lt (fun q hq => h q (by simp [hq]))]
theorem getK_gt0 {b : List (Bts × Bts)} {k : Bts} (h : ∀ p ∈ b, cmpB k p.1 < 0) : getK b k = none := by
  cases b with
  | nil => rfl
  | cons p b =>
    have := not_lt_of (h p (by simp))
    rw [getK, if_neg this.1, if_neg this.2]
theorem getK_gt : ∀ {a b : List (Bts × Bts)} {k : Bts} (_ : ∀ p ∈ b, cmpB k p.1 < 0), getK (a ++ b) k = getK a k
  | [], b, k, h => by rw [List.nil_append, getK_gt0 h]; rfl
  | p :: a, b, k, h => by rw [List.cons_append, getK, getK, getK_gt h]
theorem srt_ins : ∀ {l : List (Bts × Bts)} {k v : Bts}, Srt l → Srt (ins l k v)
  | [], k, v, _ => by simp [ins, Srt]
  | p :: l, k, v, h => by
    have h' := List.pairwise_cons.1 h
    rw [ins]
    split
    · next c =>
      refine List.pairwise_cons.2 ⟨fun q hq => ?_, srt_ins h'.2⟩
      rcases mem_ins hq with rfl | hq
      · exact c
      · exact h'.1 q hq
    · next c =>
      split
      · next e =>
        have e := cmpB_zero e
        subst e
        exact List.pairwise_cons.2 ⟨h'.1, h'.2⟩
      · next e =>
        have c' : cmpB k p.1 < 0 := by have := cmpB_neg p.1 k; omega
        refine List.pairwise_cons.2 ⟨fun q hq => ?_, h⟩
        rcases List.mem_cons.1 hq with rfl | hq
        · exact c'
        · exact cmpB_trans c' (h'.1 q hq)
theorem del_sub : ∀ (l : List (Bts × Bts)) (k : Bts), (del l k).Sublist l
  | [], _ => List.Sublist.refl _
  | p :: l, k => by
    rw [del]
    split
    · exact (del_sub l k).cons_cons p
    · split
      · exact List.sublist_cons_self p l
      · exact List.Sublist.refl _
theorem srt_del {l : List (Bts × Bts)} {k : Bts} (h : Srt l) : Srt (del l k) := List.Pairwise.sublist (del_sub l k) h

/-- A search tree that is a heap. -/
def Tr.good (seed : Int) : Tr → Prop
  | nil => True
  | nd l k _ r => l.good seed ∧ r.good seed ∧ (∀ p ∈ l.pairs, cmpB p.1 k < 0 ∧ aboveK seed k p.1 = true) ∧ ∀ p ∈ r.pairs, cmpB k p.1 < 0 ∧ aboveK seed k p.1 = true
section
variable {seed : Int}
theorem Tr.good_srt : ∀ {t : Tr}, t.good seed → Srt t.pairs
  | nil, _ => List.Pairwise.nil
  | nd l k v r, ⟨hl, hr, pl, pr⟩ => by
    refine List.pairwise_append.2 ⟨good_srt hl, List.pairwise_cons.2 ⟨fun p hp => (pr p hp).1, good_srt hr⟩, fun a ha b hb => ?_⟩
    rcases List.mem_cons.1 hb with rfl | hb
    · exact (pl a ha).1
    · exact cmpB_trans (pl a ha).1 (pr b hb).1
theorem Tr.split_good {key : Bts} : ∀ {t : Tr}, t.good seed → (t.split key).1.good seed ∧ (t.split key).2.good seed ∧ (∀ p ∈ (t.split key).1.pairs, cmpB p.1 key < 0) ∧ ∀ p ∈ (t.split key).2.pairs, ¬ cmpB p.1 key < 0
  | nil, _ => by simp [Tr.split, Tr.good, Tr.pairs]
  | nd l k v r, ⟨hl, hr, pl, pr⟩ => by
    obtain ⟨l1, l2, l3, l4⟩ := split_good (key := key) hl
    obtain ⟨r1, r2, r3, r4⟩ := split_good (key := key) hr
    have el := Tr.split_pairs key l
    have er := Tr.split_pairs key r
    rw [Tr.split]
    split
    · next c =>
      refine ⟨⟨hl, r1, pl, fun p hp => pr p (by rw [← er]; simp [hp])⟩, r2, fun p hp => ?_, r4⟩
      simp only [Tr.pairs, List.mem_append, List.mem_cons] at hp
      rcases hp with hp | rfl | hp
      · exact cmpB_trans (pl p hp).1 c
      · exact c
      · exact r3 p hp
    · next c =>
      refine ⟨l1, ⟨l2, hr, fun p hp => pl p (by rw [← el]; simp [hp]), pr⟩, l3, fun p hp => ?_⟩
      simp only [Tr.pairs, List.mem_append, List.mem_cons] at hp
      rcases hp with hp | rfl | hp
      · exact l4 p hp
      · exact c
      · exact fun h => c (cmpB_trans (pr p hp).1 h)
theorem Tr.put_good {key val : Bts} : ∀ {t : Tr}, t.good seed → (t.put seed key val).good seed ∧ (t.put seed key val).pairs = ins t.pairs key val
  | nil, _ => by simp [Tr.put, Tr.good, Tr.pairs, ins]
  | nd l k v r, h => by
    obtain ⟨hl, hr, pl, pr⟩ := id h
    obtain ⟨gl, el⟩ := put_good (key := key) (val := val) hl
    obtain ⟨gr, er⟩ := put_good (key := key) (val := val) hr
    rw [Tr.put]
    split
    · next e =>
      have e := cmpB_zero e
      subst e
      refine ⟨⟨hl, hr, pl, pr⟩, ?_⟩
      rw [Tr.pairs, Tr.pairs, ins_lt (fun p hp => (pl p hp).1), ins, if_neg (by rw [cmpB_self]; omega), if_pos (cmpB_self _)]
    · next e =>
      split
      · next ha =>
        obtain ⟨s1, s2, s3, s4⟩ := Tr.split_good (key := key) h
        have hnew : ∀ p ∈ (Tr.nd l k v r).pairs, aboveK seed key p.1 = true := by
          intro p hp
          simp only [Tr.pairs, List.mem_append, List.mem_cons] at hp
          rcases hp with hp | rfl | hp
          · exact aboveK_trans ha (pl p hp).2
          · exact ha
          · exact aboveK_trans ha (pr p hp).2
        have es := Tr.split_pairs key (Tr.nd l k v r)
        have hgt : ∀ p ∈ ((Tr.nd l k v r).split key).2.pairs, cmpB key p.1 < 0 := by
          intro p hp
          have h1 := s4 p hp
          have h2 : ¬ cmpB p.1 key = 0 := fun e0 => by
            have h3 := hnew p (by rw [← es]; simp [hp])
            rw [cmpB_zero e0] at h3
            exact aboveK_self _ h3
          have := cmpB_neg p.1 key
          omega
        refine ⟨⟨s1, s2, fun p hp => ⟨s3 p hp, hnew p (by rw [← es]; simp [hp])⟩, fun p hp => ⟨hgt p hp, hnew p (by rw [← es]; simp [hp])⟩⟩, ?_⟩
        rw [← es, ins_lt s3, ins_gt0 hgt]
        rfl
      · next ha =>
        have hk : aboveK seed k key = true := (aboveK_total e).resolve_left ha
        split
        · next c =>
          refine ⟨⟨gl, hr, fun p hp => ?_, pr⟩, ?_⟩
          · rw [el] at hp
            rcases mem_ins hp with rfl | hp
            · exact ⟨c, hk⟩
            · exact pl p hp
          · rw [Tr.pairs, Tr.pairs, el, ins_gt]
            intro p hp
            rcases List.mem_cons.1 hp with rfl | hp
            · exact c
            · exact cmpB_trans c (pr p hp).1
        · next c =>
          have c' : cmpB k key < 0 := by have := cmpB_neg key k; omega
          refine ⟨⟨hl, gr, pl, fun p hp => ?_⟩, ?_⟩
          · rw [er] at hp
            rcases mem_ins hp with rfl | hp
            · exact ⟨c', hk⟩
            · exact pr p hp
          · rw [Tr.pairs, Tr.pairs, er, ins_lt (fun p hp => cmpB_trans (pl p hp).1 c'), ins, if_pos c']
theorem Tr.mergeN_good : ∀ (n : Nat) (a b : Tr), a.size + b.size < n → a.good seed → b.good seed → (∀ p ∈ a.pairs, ∀ q ∈ b.pairs, cmpB p.1 q.1 < 0) → (Tr.mergeN seed n a b).good seed
  | 0, _, _, h, _, _, _ => by omega
  | n + 1, nil, b, _, _, hb, _ => by rw [Tr.mergeN]; exact hb
  | n + 1, nd l k v r, nil, _, ha, _, _ => by rw [Tr.mergeN]; exact ha
  | n + 1, nd l1 k1 v1 r1, nd l2 k2 v2 r2, h, ha, hb, hab => by
    simp only [Tr.size] at h
    have hk : cmpB k1 k2 < 0 := hab (k1, v1) (by simp [Tr.pairs]) (k2, v2) (by simp [Tr.pairs])
    obtain ⟨a1, a2, a3, a4⟩ := id ha
    obtain ⟨b1, b2, b3, b4⟩ := id hb
    have s1 : r1.size + (Tr.nd l2 k2 v2 r2).size < n := by simp only [Tr.size]; omega
    have s2 : (Tr.nd l1 k1 v1 r1).size + l2.size < n := by simp only [Tr.size]; omega
    have h1 := mergeN_good n r1 (nd l2 k2 v2 r2) s1 a2 hb (fun p hp q hq => hab p (by simp [Tr.pairs, hp]) q hq)
    have h2 := mergeN_good n (nd l1 k1 v1 r1) l2 s2 ha b1 (fun p hp q hq => hab p hp q (by simp [Tr.pairs, hq]))
    rw [Tr.mergeN]
    split
    · next c =>
      refine ⟨a1, h1, a3, fun p hp => ?_⟩
      rw [Tr.mergeN_pairs seed n _ _ s1, List.mem_append] at hp
      rcases hp with hp | hp
      · exact a4 p hp
      · refine ⟨hab (k1, v1) (by simp [Tr.pairs]) p hp, ?_⟩
        simp only [Tr.pairs, List.mem_append, List.mem_cons] at hp
        rcases hp with hp | rfl | hp
        · exact aboveK_trans c (b3 p hp).2
        · exact c
        · exact aboveK_trans c (b4 p hp).2
    · next c =>
      have c' : aboveK seed k2 k1 = true := (aboveK_total (by omega : ¬ cmpB k1 k2 = 0)).resolve_left c
      refine ⟨h2, b2, fun p hp => ?_, b4⟩
      rw [Tr.mergeN_pairs seed n _ _ s2, List.mem_append] at hp
      rcases hp with hp | hp
      · refine ⟨hab p hp (k2, v2) (by simp [Tr.pairs]), ?_⟩
        simp only [Tr.pairs, List.mem_append, List.mem_cons] at hp
        rcases hp with hp | rfl | hp
        · exact aboveK_trans c' (a3 p hp).2
        · exact c'
        · exact aboveK_trans c' (a4 p hp).2
      · exact b3 p hp
theorem Tr.drop_good {key : Bts} : ∀ {t : Tr}, t.good seed → (t.drop seed key).good seed ∧ (t.drop seed key).pairs = del t.pairs key
  | nil, _ => by simp [Tr.drop, Tr.good, Tr.pairs, del]
  | nd l k v r, h => by
    obtain ⟨hl, hr, pl, pr⟩ := id h
    obtain ⟨gl, el⟩ := drop_good (key := key) hl
    obtain ⟨gr, er⟩ := drop_good (key := key) hr
    rw [Tr.drop]
    split
    · next e =>
      have e := cmpB_zero e
      subst e
      refine ⟨Tr.mergeN_good _ _ _ (by omega) hl hr (fun p hp q hq => cmpB_trans (pl p hp).1 (pr q hq).1), ?_⟩
      rw [Tr.mergeN_pairs seed _ _ _ (by omega), Tr.pairs, del_lt (fun p hp => (pl p hp).1), del, if_neg (by rw [cmpB_self]; omega), if_pos (cmpB_self _)]
    · next e =>
      split
      · next c =>
        refine ⟨⟨gl, hr, fun p hp => pl p ?_, pr⟩, ?_⟩
        · rw [el] at hp; exact (del_sub _ _).subset hp
        · rw [Tr.pairs, Tr.pairs, el, del_gt]
          intro p hp
          rcases List.mem_cons.1 hp with rfl | hp
          · exact c
          · exact cmpB_trans c (pr p hp).1
      · next c =>
        have c' : cmpB k key < 0 := by have := cmpB_neg key k; omega
        refine ⟨⟨hl, gr, pl, fun p hp => pr p ?_⟩, ?_⟩
        · rw [er] at hp; exact (del_sub _ _).subset hp
        · rw [Tr.pairs, Tr.pairs, er, del_lt (fun p hp => cmpB_trans (pl p hp).1 c'), del, if_pos c']
theorem Tr.get_pairs {key : Bts} : ∀ {t : Tr}, t.good seed → t.get key = getK t.pairs key
  | nil, _ => rfl
  | nd l k v r, ⟨hl, hr, pl, pr⟩ => by
    rw [Tr.get, Tr.pairs]
    split
    · next e =>
      have e := cmpB_zero e
      subst e
      rw [getK_lt (fun p hp => (pl p hp).1), getK, if_neg (by rw [cmpB_self]; omega), if_pos (cmpB_self _)]
    · next e =>
      split
      · next c =>
        rw [get_pairs hl, getK_gt]
        intro p hp
        rcases List.mem_cons.1 hp with rfl | hp
        · exact c
        · exact cmpB_trans c (pr p hp).1
      · next c =>
        have c' : cmpB k key < 0 := by have := cmpB_neg key k; omega
        rw [get_pairs hr, getK_lt (fun p hp => cmpB_trans (pl p hp).1 c'), getK, if_pos c']

theorem cons_once {α : Type} {x : α} : ∀ {a b c d : List α}, a ++ x :: b = c ++ x :: d → x ∉ a → x ∉ c → a = c ∧ b = d
  | [], b, [], d, h, _, _ => ⟨rfl, by simpa using h⟩
  | [], b, y :: c, d, h, _, h2 => by
    simp only [List.nil_append, List.cons_append, List.cons.injEq] at h
    exact absurd h.1 fun e => h2 (by simp [e])
  | y :: a, b, [], d, h, h1, _ => by
    simp only [List.nil_append, List.cons_append, List.cons.injEq] at h
    exact absurd h.1 fun e => h1 (by simp [e])
  | y :: a, b, z :: c, d, h, h1, h2 => by
    simp only [List.cons_append, List.cons.injEq] at h
    obtain ⟨rfl, h⟩ := h
    obtain ⟨rfl, rfl⟩ := cons_once h (fun e => h1 (by simp [e])) fun e => h2 (by simp [e])
    exact ⟨rfl, rfl⟩
/-- One tree for each list of pairs. -/
theorem Tr.canon : ∀ {t u : Tr}, t.good seed → u.good seed → t.pairs = u.pairs → t = u
  | nil, nil, _, _, _ => rfl
  | nil, nd _ _ _ _, _, _, h => by simp [Tr.pairs] at h
  | nd _ _ _ _, nil, _, _, h => by simp [Tr.pairs] at h
  | nd l k v r, nd l' k' v' r', hg, hg', h => by
    obtain ⟨hl, hr, pl, pr⟩ := id hg
    obtain ⟨hl', hr', pl', pr'⟩ := id hg'
    have hx : (k, v) = (k', v') := by
      have h1 : (k, v) ∈ (Tr.nd l' k' v' r').pairs := by rw [← h]; simp [Tr.pairs]
      have h2 : (k', v') ∈ (Tr.nd l k v r).pairs := by rw [h]; simp [Tr.pairs]
      simp only [Tr.pairs, List.mem_append, List.mem_cons] at h1 h2
      rcases h1 with h1 | h1 | h1
      · have a1 := (pl' _ h1).2
        rcases h2 with h2 | h2 | h2
        · exact absurd (pl _ h2).2 (aboveK_asymm a1)
        · exact h2.symm
        · exact absurd (pr _ h2).2 (aboveK_asymm a1)
      · exact h1
      · have a1 := (pr' _ h1).2
        rcases h2 with h2 | h2 | h2
        · exact absurd (pl _ h2).2 (aboveK_asymm a1)
        · exact h2.symm
        · exact absurd (pr _ h2).2 (aboveK_asymm a1)
    obtain ⟨rfl, rfl⟩ := Prod.mk.inj hx
    rw [Tr.pairs, Tr.pairs] at h
    obtain ⟨e1, e2⟩ := cons_once h (fun hm => by have := (pl _ hm).1; rw [cmpB_self] at this; omega) fun hm => by have := (pl' _ hm).1; rw [cmpB_self] at this; omega
    rw [canon hl hl' e1, canon hr hr' e2]
theorem Tr.of_srt : ∀ {l : List (Bts × Bts)}, Srt l → ∃ t : Tr, t.good seed ∧ t.pairs = l
  | [], _ => ⟨.nil, trivial, rfl⟩
  | p :: l, h => by
    have h' := List.pairwise_cons.1 h
    obtain ⟨t, hg, ht⟩ := of_srt h'.2
    have := Tr.put_good (key := p.1) (val := p.2) hg
    exact ⟨_, this.1, by rw [this.2, ht, ins_gt0 h'.1]⟩

/-- Whether a pair's key lies in a span. -/
def inS (low : Bts) (fr : Bool) (high : Bts) (tt : Bool) (p : Bts × Bts) : Bool := (!fr || !decide (cmpB p.1 low < 0)) && (!tt || decide (cmpB p.1 high < 0))
theorem Tr.cut_good : ∀ {t : Tr} (low : Bts) (fr : Bool) (high : Bts) (tt : Bool), t.good seed → (t.cut low fr high tt).good seed ∧ (t.cut low fr high tt).pairs = t.pairs.filter (inS low fr high tt)
  | nil, _, _, _, _, _ => ⟨trivial, rfl⟩
  | nd l k v r, low, fr, high, tt, h => by
    obtain ⟨hl, hr, pl, pr⟩ := id h
    obtain ⟨l1, l2⟩ := cut_good low fr high tt hl
    obtain ⟨r1, r2⟩ := cut_good low fr high tt hr
    obtain ⟨l3, l4⟩ := cut_good low fr [] false hl
    obtain ⟨r3, r4⟩ := cut_good [] false high tt hr
    rw [Tr.cut]
    split
    · next c =>
      obtain ⟨rfl, rfl⟩ := c
      refine ⟨h, (List.filter_eq_self.2 fun p _ => by simp [inS]).symm⟩
    · next c0 =>
      split
      · next c =>
        obtain ⟨rfl, c⟩ := c
        refine ⟨r1, ?_⟩
        have n1 : l.pairs.filter (inS low true high tt) = [] := List.filter_eq_nil_iff.2 fun p hp => by simp [inS, cmpB_trans (pl p hp).1 c]
        rw [r2, Tr.pairs, List.filter_append, List.filter_cons, if_neg (by simp [inS, c]), n1]
        rfl
      · next c1 =>
        split
        · next c =>
          obtain ⟨rfl, c⟩ := c
          refine ⟨l1, ?_⟩
          have n1 : r.pairs.filter (inS low fr high true) = [] := List.filter_eq_nil_iff.2 fun p hp => by
            have : ¬ cmpB p.1 high < 0 := fun e => c (cmpB_trans (pr p hp).1 e)
            simp [inS, this]
          rw [l2, Tr.pairs, List.filter_append, List.filter_cons, if_neg (by simp [inS, c]), n1, List.append_nil]
        · next c2 =>
          have i1 : ∀ p ∈ l.pairs, inS low fr high tt p = inS low fr [] false p := fun p hp => by
            cases tt with
            | false => rfl
            | true =>
              have : cmpB k high < 0 := by simpa using c2
              simp [inS, cmpB_trans (pl p hp).1 this]
          have i2 : ∀ p ∈ r.pairs, inS low fr high tt p = inS [] false high tt p := fun p hp => by
            cases fr with
            | false => rfl
            | true =>
              have : ¬ cmpB k low < 0 := by simpa using c1
              have : ¬ cmpB p.1 low < 0 := fun e => this (cmpB_trans (pr p hp).1 e)
              simp [inS, this]
          have i3 : inS low fr high tt (k, v) = true := by
            simp only [inS, Bool.and_eq_true, Bool.or_eq_true, Bool.not_eq_true', decide_eq_true_eq, decide_eq_false_iff_not]
            constructor
            · cases fr with
              | false => exact .inl rfl
              | true => exact .inr (by simpa using c1)
            · cases tt with
              | false => exact .inl rfl
              | true => exact .inr (by simpa using c2)
          refine ⟨⟨l3, r3, fun p hp => pl p ?_, fun p hp => pr p ?_⟩, ?_⟩
          · rw [l4] at hp; exact (List.mem_filter.1 hp).1
          · rw [r4] at hp; exact (List.mem_filter.1 hp).1
          · rw [Tr.pairs, Tr.pairs, l4, r4, List.filter_append, List.filter_cons, if_pos i3, List.filter_congr i1, List.filter_congr i2]
end
end Go.Proofs.Ytaopjdjbpamhhaa
