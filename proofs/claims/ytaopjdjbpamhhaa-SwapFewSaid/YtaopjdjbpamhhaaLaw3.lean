/- Proved: plain facts: what a map has behind a mirror; the reference's recursion tells the same messages and leaves the same pairs. No program. No condition. -/
import Derived.Test.YtaopjdjbpamhhaaSwp8
namespace Go.Proofs.Ytaopjdjbpamhhaa
open Go Go.RowKit
set_option linter.unusedVariables false
set_option linter.unusedSimpArgs false

theorem getK_ins : ∀ {l : List (Bts × Bts)} {k v x : Bts}, Srt l → getK (ins l k v) x = if k = x then some v else getK l x
  | [], k, v, x, _ => by
    rw [ins, getK, getK]
    by_cases e : k = x
    · subst e; rw [if_neg (by rw [cmpB_self]; omega), if_pos (cmpB_self _), if_pos rfl]
    · rw [if_neg e]
      split
      · rfl
      · rw [if_neg fun h => e (cmpB_zero h)]
  | p :: l, k, v, x, hs => by
    have hs' := List.pairwise_cons.1 hs
    have ih := getK_ins (l := l) (k := k) (v := v) (x := x) hs'.2
    rw [ins]
    by_cases c : cmpB p.1 k < 0
    · rw [if_pos c, getK, getK, ih]
      by_cases d : cmpB p.1 x < 0
      · rw [if_pos d, if_pos d]
      · rw [if_neg d, if_neg d, if_neg (fun e : k = x => d (e ▸ c))]
    · rw [if_neg c]
      by_cases e : cmpB p.1 k = 0
      · rw [if_pos e]
        have e := cmpB_zero e
        subst e
        rw [getK, getK]
        by_cases d : p.1 = x
        · rw [← d, if_neg (by rw [cmpB_self]; omega), if_pos (cmpB_self _), if_pos rfl]
        · rw [if_neg d]
          split
          · rfl
          · rw [if_neg fun h => d (cmpB_zero h), if_neg fun h => d (cmpB_zero h)]
      · rw [if_neg e, getK]
        have c' : cmpB k p.1 < 0 := by have := cmpB_neg p.1 k; omega
        by_cases d : k = x
        · subst d
          rw [if_neg (by rw [cmpB_self]; omega), if_pos (cmpB_self _), if_pos rfl]
        · rw [if_neg d]
          by_cases d1 : cmpB k x < 0
          · rw [if_pos d1]
          · rw [if_neg d1, if_neg fun h => d (cmpB_zero h)]
            have d2 : cmpB x k < 0 := by have := cmpB_neg k x; have : ¬ cmpB k x = 0 := fun h => d (cmpB_zero h); omega
            have d3 := not_lt_of (cmpB_trans d2 c')
            rw [getK, if_neg d3.1, if_neg d3.2]
theorem getK_del : ∀ {l : List (Bts × Bts)} {k x : Bts}, Srt l → getK (del l k) x = if k = x then none else getK l x
  | [], k, x, _ => by simp [del, getK]
  | p :: l, k, x, hs => by
    have hs' := List.pairwise_cons.1 hs
    have ih := getK_del (l := l) (k := k) (x := x) hs'.2
    rw [del]
    by_cases c : cmpB p.1 k < 0
    · rw [if_pos c, getK, getK, ih]
      by_cases d : cmpB p.1 x < 0
      · rw [if_pos d, if_pos d]
      · rw [if_neg d, if_neg d, if_neg (fun e : k = x => d (e ▸ c))]
    · rw [if_neg c]
      by_cases e : cmpB p.1 k = 0
      · rw [if_pos e]
        have e := cmpB_zero e
        subst e
        by_cases d : p.1 = x
        · subst d
          rw [if_pos rfl]
          exact getK_gt0 fun q hq => hs'.1 q hq
        · rw [if_neg d, getK]
          by_cases d1 : cmpB p.1 x < 0
          · rw [if_pos d1]
          · rw [if_neg d1, if_neg fun h => d (cmpB_zero h)]
            have d2 : cmpB x p.1 < 0 := by have := cmpB_neg p.1 x; have : ¬ cmpB p.1 x = 0 := fun h => d (cmpB_zero h); omega
            exact getK_gt0 fun q hq => cmpB_trans d2 (hs'.1 q hq)
      · rw [if_neg e]
        by_cases d : k = x
        · subst d
          rw [if_pos rfl, getK, if_neg c, if_neg e]
        · rw [if_neg d]
theorem getK_iff {l : List (Bts × Bts)} {k v : Bts} (h : Srt l) : getK l k = some v ↔ (k, v) ∈ l := ⟨getK_mem, fun hm => mem_getK h hm⟩
theorem srt_getK {a b : List (Bts × Bts)} (ha : Srt a) (hb : Srt b) (h : ∀ k, getK a k = getK b k) : a = b :=
  srt_ext ha hb fun p => by rw [show p = (p.1, p.2) from rfl, ← getK_iff ha, ← getK_iff hb, h]
theorem inS_key (low : Bts) (fr : Bool) (high : Bts) (tt : Bool) (x v v' : Bts) : inS low fr high tt (x, v) = inS low fr high tt (x, v') := rfl
theorem srt_filter {l : List (Bts × Bts)} (f : Bts × Bts → Bool) (h : Srt l) : Srt (l.filter f) := List.Pairwise.sublist List.filter_sublist h
theorem getK_filter {l : List (Bts × Bts)} {low high x : Bts} {fr tt : Bool} (h : Srt l) : getK (l.filter (inS low fr high tt)) x = if inS low fr high tt (x, []) = true then getK l x else none := by
  refine Option.ext fun v => ?_
  rw [getK_iff (srt_filter _ h), List.mem_filter, ← getK_iff h]
  split
  · next c => exact ⟨fun h => h.1, fun h => ⟨h, c⟩⟩
  · next c => exact ⟨fun h => absurd h.2 c, fun h => by cases h⟩

section
variable {seed : Int}
theorem gk_put {u : Tr} {k v x : Bts} (h : u.good seed) : getK (u.put seed k v).pairs x = if k = x then some v else getK u.pairs x := by
  rw [(Tr.put_good h).2, getK_ins (Tr.good_srt h)]
/-- Drop where it is there. -/
def Tr.dropIf (seed : Int) (u : Tr) (k : Bts) : Tr := if (u.get k).isSome then u.drop seed k else u
theorem Tr.dropIf_good {u : Tr} {k : Bts} (h : u.good seed) : (u.dropIf seed k).good seed := by
  unfold Tr.dropIf
  split
  · exact (Tr.drop_good h).1
  · exact h
theorem gk_dropIf {u : Tr} {k x : Bts} (h : u.good seed) : getK (u.dropIf seed k).pairs x = if k = x then none else getK u.pairs x := by
  unfold Tr.dropIf
  split
  · rw [(Tr.drop_good h).2, getK_del (Tr.good_srt h)]
  · next c =>
    split
    · next e =>
      subst e
      rw [← Tr.get_pairs h]
      simpa using c
    · rfl
theorem dropAll_cons (u : Tr) (k : Bts) (ks : List Bts) : dropAll seed u (k :: ks) = dropAll seed (u.dropIf seed k) ks := rfl
theorem dropAll_good : ∀ {ks : List Bts} {u : Tr}, u.good seed → (dropAll seed u ks).good seed
  | [], _, h => h
  | k :: ks, u, h => by rw [dropAll_cons]; exact dropAll_good (Tr.dropIf_good h)
theorem gk_dropAll : ∀ {ks : List Bts} {u : Tr} {x : Bts}, u.good seed → getK (dropAll seed u ks).pairs x = if x ∈ ks then none else getK u.pairs x
  | [], _, _, _ => by simp [dropAll]
  | k :: ks, u, x, h => by
    rw [dropAll_cons, gk_dropAll (Tr.dropIf_good h), gk_dropIf h]
    by_cases e : k = x
    · subst e; simp
    · have e' : ¬ x = k := fun h => e h.symm
      simp [e, e']
/-- What the last pair of a key says. -/
def lastK : List (Bts × Bts) → Bts → Option Bts
  | [], _ => none
  | p :: l, x => (lastK l x).or (if p.1 = x then some p.2 else none)
theorem lastK_append : ∀ (a b : List (Bts × Bts)) (x : Bts), lastK (a ++ b) x = (lastK b x).or (lastK a x)
  | [], b, x => by simp [lastK]
  | p :: a, b, x => by rw [List.cons_append, lastK, lastK_append a b, lastK, Option.or_assoc]
theorem lastK_none : ∀ {l : List (Bts × Bts)} {x : Bts}, (∀ p ∈ l, ¬ p.1 = x) → lastK l x = none
  | [], _, _ => rfl
  | p :: l, x, h => by rw [lastK, lastK_none fun q hq => h q (by simp [hq]), if_neg (h p (by simp))]; rfl
theorem putAll_cons (u : Tr) (p : Bts × Bts) (ps : List (Bts × Bts)) : putAll seed u (p :: ps) = putAll seed (u.put seed p.1 p.2) ps := rfl
theorem putAll_good : ∀ {ps : List (Bts × Bts)} {u : Tr}, u.good seed → (putAll seed u ps).good seed
  | [], _, h => h
  | p :: ps, u, h => by rw [putAll_cons]; exact putAll_good (Tr.put_good h).1
theorem putAll_pairs : ∀ {ps : List (Bts × Bts)} {u : Tr}, u.good seed → (putAll seed u ps).pairs = ps.foldl (fun out p => putK out p.1 p.2) u.pairs
  | [], _, _ => rfl
  | p :: ps, u, h => by rw [putAll_cons, putAll_pairs (Tr.put_good h).1, (Tr.put_good h).2, List.foldl_cons, putK_ins]
theorem gk_putAll : ∀ {ps : List (Bts × Bts)} {u : Tr} {x : Bts}, u.good seed → getK (putAll seed u ps).pairs x = (lastK ps x).or (getK u.pairs x)
  | [], _, _, _ => by simp [putAll, lastK]
  | p :: ps, u, x, h => by
    rw [putAll_cons, gk_putAll (Tr.put_good h).1, gk_put h, lastK, Option.or_assoc]
    by_cases e : p.1 = x
    · simp [e]
    · simp [e]
theorem Tr.ext {t u : Tr} (ht : t.good seed) (hu : u.good seed) (h : ∀ k, getK t.pairs k = getK u.pairs k) : t = u := Tr.canon ht hu (srt_getK (Tr.good_srt ht) (Tr.good_srt hu) h)

/-! ### The reference's recursion -/
/-- Two maps have the same in a span. -/
def Agree (u u' : Tr) (low high : Bts) (bd : Bool) : Prop := ∀ x, inS low true high bd (x, []) = true → getK u'.pairs x = getK u.pairs x
theorem Agree.filter {u u' : Tr} {low high : Bts} {bd : Bool} (h : Agree u u' low high bd) (hu : u.good seed) (hu' : u'.good seed) : u'.pairs.filter (inS low true high bd) = u.pairs.filter (inS low true high bd) :=
  srt_getK (srt_filter _ (Tr.good_srt hu')) (srt_filter _ (Tr.good_srt hu)) fun k => by
    rw [getK_filter (Tr.good_srt hu'), getK_filter (Tr.good_srt hu)]
    split
    · next c => exact h k c
    · rfl
theorem Agree.cut {u u' : Tr} {low high : Bts} {bd : Bool} (h : Agree u u' low high bd) (hu : u.good seed) (hu' : u'.good seed) : u'.cut low true high bd = u.cut low true high bd := by
  obtain ⟨g1, e1⟩ := Tr.cut_good low true high bd hu
  obtain ⟨g2, e2⟩ := Tr.cut_good low true high bd hu'
  exact Tr.canon g2 g1 (by rw [e1, e2, h.filter hu hu'])
theorem Agree.same {u u' t : Tr} {low high : Bts} {bd : Bool} (h : Agree u u' low high bd) (hu : u.good seed) (hu' : u'.good seed) : sameAt seed u' t low high bd = sameAt seed u t low high bd := by
  unfold sameAt
  rw [h.cut hu hu']
def refT (seed : Int) : Tr → Tr → Bts → Bts → Bool → Tr
  | u, .nil, low, high, bd => if sameAt seed u .nil low high bd = true then u else dropAll seed u (spanKeys u.pairs low high bd)
  | u, .nd l k v r, low, high, bd => if sameAt seed u (.nd l k v r) low high bd = true then u else refT seed (refT seed (u.put seed k v) l low k true) r (k ++ [0]) high bd
def talkR (seed : Int) : Tr → Tr → Bts → Bts → Bool → List Msg
  | u, .nil, low, high, bd => [⟨low, high, bd, 0, 0, sameAt seed u .nil low high bd, []⟩]
  | u, .nd l k v r, low, high, bd => if sameAt seed u (.nd l k v r) low high bd = true then [⟨low, high, bd, (Tr.nd l k v r).size, (Tr.nd l k v r).dg seed, true, []⟩] else ⟨low, high, bd, (Tr.nd l k v r).size, (Tr.nd l k v r).dg seed, false, [(k, v)]⟩ :: (talkR seed (u.put seed k v) l low k true ++ talkR seed (refT seed (u.put seed k v) l low k true) r (k ++ [0]) high bd)
theorem refT_good : ∀ {t u : Tr} {low high : Bts} {bd : Bool}, u.good seed → (refT seed u t low high bd).good seed
  | .nil, u, _, _, _, h => by
    rw [refT]
    split
    · exact h
    · exact dropAll_good h
  | .nd l k v r, u, _, _, _, h => by
    rw [refT]
    split
    · exact h
    · exact refT_good (refT_good (Tr.put_good h).1)
/-- The pairs of a tree lie in a span. -/
def Tr.inSpan (t : Tr) (low high : Bts) (bd : Bool) : Prop := ∀ p ∈ t.pairs, inS low true high bd (p.1, []) = true
theorem inSpan_parts {l r : Tr} {k v low high : Bts} {bd : Bool} (hg : (Tr.nd l k v r).good seed) (h : (Tr.nd l k v r).inSpan low high bd) :
    inS low true high bd (k, []) = true ∧ l.inSpan low k true ∧ r.inSpan (k ++ [0]) high bd := by
  obtain ⟨_, _, pl, pr⟩ := hg
  have hk : inS low true high bd (k, []) = true := h (k, v) (by simp [Tr.pairs])
  refine ⟨hk, fun p hp => ?_, fun p hp => ?_⟩
  · rw [(span_parts hk (p.1, [])).1, h p (by simp [Tr.pairs, hp])]
    simpa using (pl p hp).1
  · rw [(span_parts hk (p.1, [])).2, h p (by simp [Tr.pairs, hp])]
    simpa using (pr p hp).1
/-- Keys on the two sides. -/
theorem span_left {low high k x : Bts} {bd : Bool} (hk : inS low true high bd (k, []) = true) (h : inS low true k true (x, []) = true) : inS low true high bd (x, []) = true ∧ cmpB x k < 0 := by
  rw [(span_parts hk (x, [])).1] at h
  simpa using h
theorem span_right {low high k x : Bts} {bd : Bool} (hk : inS low true high bd (k, []) = true) (h : inS (k ++ [0]) true high bd (x, []) = true) : inS low true high bd (x, []) = true ∧ cmpB k x < 0 := by
  rw [(span_parts hk (x, [])).2] at h
  simpa using h
theorem lt_ne {a b : Bts} (h : cmpB a b < 0) : ¬ a = b := fun e => by rw [e, cmpB_self] at h; omega
theorem comes_in {u : Tr} : ∀ {t : Tr} {low high : Bts} {bd : Bool}, t.good seed → t.inSpan low high bd → ∀ p ∈ comes seed u t low high bd, inS low true high bd (p.1, []) = true
  | .nil, _, _, _, _, _ => by simp [comes]
  | .nd l k v r, low, high, bd, hg, hi => by
    obtain ⟨hk, hl, hr⟩ := inSpan_parts hg hi
    have h1 := comes_in (u := u) hg.1 hl
    have h2 := comes_in (u := u) hg.2.1 hr
    rw [comes]
    split
    · simp
    · intro p hp
      simp only [List.mem_cons, List.mem_append] at hp
      rcases hp with rfl | hp | hp
      · exact hk
      · exact (span_left hk (h1 p hp)).1
      · exact (span_right hk (h2 p hp)).1
theorem spanKeys_iff {u : Tr} {low high x : Bts} {bd : Bool} (hu : u.good seed) : x ∈ spanKeys u.pairs low high bd ↔ inS low true high bd (x, []) = true ∧ (getK u.pairs x).isSome = true := by
  unfold spanKeys
  rw [List.mem_map]
  constructor
  · rintro ⟨p, hp, rfl⟩
    obtain ⟨h1, h2⟩ := List.mem_filter.1 hp
    exact ⟨h2, by rw [mem_getK (Tr.good_srt hu) h1]; rfl⟩
  · rintro ⟨h1, h2⟩
    obtain ⟨v, hv⟩ := Option.isSome_iff_exists.1 h2
    exact ⟨(x, v), List.mem_filter.2 ⟨getK_mem hv, h1⟩, rfl⟩
theorem gones_in {u : Tr} (hu : u.good seed) : ∀ {t : Tr} {low high : Bts} {bd : Bool}, t.good seed → t.inSpan low high bd → ∀ x ∈ gones seed u t low high bd, inS low true high bd (x, []) = true
  | .nil, low, high, bd, _, _ => by
    rw [gones]
    split
    · simp
    · intro x hx; exact ((spanKeys_iff hu).1 hx).1
  | .nd l k v r, low, high, bd, hg, hi => by
    obtain ⟨hk, hl, hr⟩ := inSpan_parts hg hi
    have h1 := gones_in hu hg.1 hl
    have h2 := gones_in hu hg.2.1 hr
    rw [gones]
    split
    · simp
    · intro x hx
      rcases List.mem_append.1 hx with hx | hx
      · exact (span_left hk (h1 x hx)).1
      · exact (span_right hk (h2 x hx)).1
/-- What a map has behind a mirror of a span. -/
def behind (seed : Int) (u t : Tr) (low high : Bts) (bd : Bool) (x : Bts) (a : Option Bts) : Option Bts := (lastK (comes seed u t low high bd) x).or (if x ∈ gones seed u t low high bd then none else a)
theorem behind_out {u t : Tr} {low high x : Bts} {bd : Bool} (hu : u.good seed) (hg : t.good seed) (hi : t.inSpan low high bd) (hx : ¬ inS low true high bd (x, []) = true) (a : Option Bts) : behind seed u t low high bd x a = a := by
  unfold behind
  rw [lastK_none (x := x) (fun p hp e => hx (by rw [← e]; exact comes_in hg hi p hp)), if_neg (fun h => hx (gones_in hu hg hi x h))]
  rfl
theorem behind_nd {u l r : Tr} {k v low high x : Bts} {bd : Bool} (hu : u.good seed) (hg : (Tr.nd l k v r).good seed) (hi : (Tr.nd l k v r).inSpan low high bd) (hs : ¬ sameAt seed u (.nd l k v r) low high bd = true) (a : Option Bts) :
    behind seed u (.nd l k v r) low high bd x a = behind seed u r (k ++ [0]) high bd x (behind seed u l low k true x (if k = x then some v else a)) := by
  obtain ⟨hk, hl, hr⟩ := inSpan_parts hg hi
  have e1 : comes seed u (.nd l k v r) low high bd = (k, v) :: (comes seed u l low k true ++ comes seed u r (k ++ [0]) high bd) := by rw [comes, if_neg hs]
  have e2 : gones seed u (.nd l k v r) low high bd = gones seed u l low k true ++ gones seed u r (k ++ [0]) high bd := by rw [gones, if_neg hs]
  have c1 := comes_in (u := u) hg.1 hl
  have c2 := comes_in (u := u) hg.2.1 hr
  have g1 := gones_in hu hg.1 hl
  have g2 := gones_in hu hg.2.1 hr
  unfold behind
  rw [e1, e2, lastK, lastK_append]
  by_cases x1 : k = x
  · subst x1
    have n1 : ∀ y, inS low true k true (y, []) = true → ¬ y = k := fun y h => lt_ne (span_left hk h).2
    have n2 : ∀ y, inS (k ++ [0]) true high bd (y, []) = true → ¬ y = k := fun y h e => lt_ne (span_right hk h).2 e.symm
    rw [lastK_none fun p hp => n1 _ (c1 p hp), lastK_none fun p hp => n2 _ (c2 p hp), if_neg fun h => n2 _ (g2 k h) rfl, if_neg fun h => n1 _ (g1 k h) rfl]
    simp
  · rw [if_neg x1, if_neg x1]
    by_cases i2 : inS (k ++ [0]) true high bd (x, []) = true
    · have n1 : ¬ inS low true k true (x, []) = true := fun h => (not_lt_of (span_left hk h).2).1 (span_right hk i2).2
      have q1 : lastK (comes seed u l low k true) x = none := lastK_none fun p hp e => n1 (by rw [← e]; exact c1 p hp)
      have q2 : ¬ x ∈ gones seed u l low k true := fun h => n1 (g1 x h)
      rw [q1, if_neg q2]
      simp [q2]
    · have q1 : lastK (comes seed u r (k ++ [0]) high bd) x = none := lastK_none fun p hp e => i2 (by rw [← e]; exact c2 p hp)
      have q2 : ¬ x ∈ gones seed u r (k ++ [0]) high bd := fun h => i2 (g2 x h)
      rw [q1, if_neg q2]
      simp [q2]
theorem refT_behind {u : Tr} (hu : u.good seed) : ∀ {t u' : Tr} {low high : Bts} {bd : Bool}, t.good seed → t.inSpan low high bd → u'.good seed → Agree u u' low high bd → ∀ x, getK (refT seed u' t low high bd).pairs x = behind seed u t low high bd x (getK u'.pairs x)
  | .nil, u', low, high, bd, hg, hi, hu', ha, x => by
    rw [refT, ha.same hu hu', behind, gones, comes]
    split
    · simp [lastK]
    · rw [gk_dropAll hu']
      have : spanKeys u'.pairs low high bd = spanKeys u.pairs low high bd := by unfold spanKeys; rw [ha.filter hu hu']
      rw [this]
      simp [lastK]
  | .nd l k v r, u', low, high, bd, hg, hi, hu', ha, x => by
    obtain ⟨hk, hl, hr⟩ := inSpan_parts hg hi
    by_cases hs : sameAt seed u (.nd l k v r) low high bd = true
    · rw [refT, ha.same hu hu', if_pos hs, behind, gones, comes, if_pos hs, if_pos hs]
      simp [lastK]
    · have g1 := (Tr.put_good (key := k) (val := v) hu').1
      have a1 : Agree u (u'.put seed k v) low k true := fun y hy => by
        obtain ⟨y1, y2⟩ := span_left hk hy
        rw [gk_put hu', if_neg fun e => lt_ne y2 e.symm, ha y y1]
      have ih1 := refT_behind hu (t := l) hg.1 hl g1 a1
      have g2 := refT_good (t := l) (low := low) (high := k) (bd := true) g1
      have a2 : Agree u (refT seed (u'.put seed k v) l low k true) (k ++ [0]) high bd := fun y hy => by
        obtain ⟨y1, y2⟩ := span_right hk hy
        rw [ih1, behind_out hu hg.1 hl (fun h => (not_lt_of (span_left hk h).2).1 y2), gk_put hu', if_neg (lt_ne y2), ha y y1]
      rw [refT, ha.same hu hu', if_neg hs, refT_behind hu hg.2.1 hr g2 a2, ih1, gk_put hu', behind_nd hu hg hi hs]
theorem talkR_talk {u : Tr} (hu : u.good seed) : ∀ {t u' : Tr} {low high : Bts} {bd : Bool}, t.good seed → t.inSpan low high bd → u'.good seed → Agree u u' low high bd → talkR seed u' t low high bd = talk seed u t low high bd
  | .nil, u', low, high, bd, _, _, hu', ha => by rw [talkR, talk, ha.same hu hu']
  | .nd l k v r, u', low, high, bd, hg, hi, hu', ha => by
    obtain ⟨hk, hl, hr⟩ := inSpan_parts hg hi
    rw [talkR, talk, ha.same hu hu']
    split
    · rfl
    · next hs =>
      have g1 := (Tr.put_good (key := k) (val := v) hu').1
      have a1 : Agree u (u'.put seed k v) low k true := fun y hy => by
        obtain ⟨y1, y2⟩ := span_left hk hy
        rw [gk_put hu', if_neg fun e => lt_ne y2 e.symm, ha y y1]
      have g2 := refT_good (t := l) (low := low) (high := k) (bd := true) g1
      have a2 : Agree u (refT seed (u'.put seed k v) l low k true) (k ++ [0]) high bd := fun y hy => by
        obtain ⟨y1, y2⟩ := span_right hk hy
        rw [refT_behind hu hg.1 hl g1 a1, behind_out hu hg.1 hl (fun h => (not_lt_of (span_left hk h).2).1 y2), gk_put hu', if_neg (lt_ne y2), ha y y1]
      rw [talkR_talk hu hg.1 hl g1 a1, talkR_talk hu hg.2.1 hr g2 a2]
theorem inSpan_all (t : Tr) : t.inSpan [] [] false := fun p _ => inS_all _
/-- The receiver of a mirror. -/
def mirT (seed : Int) (u t : Tr) : Tr := putAll seed (dropAll seed u (gones seed u t [] [] false)) (comes seed u t [] [] false)
theorem mirT_good {u t : Tr} (hu : u.good seed) : (mirT seed u t).good seed := putAll_good (dropAll_good hu)
theorem gk_mirT {u t : Tr} (hu : u.good seed) (x : Bts) : getK (mirT seed u t).pairs x = behind seed u t [] [] false x (getK u.pairs x) := by
  unfold mirT behind
  rw [gk_putAll (dropAll_good hu), gk_dropAll hu]
theorem refT_mirT {u t : Tr} (hu : u.good seed) (ht : t.good seed) : refT seed u t [] [] false = mirT seed u t :=
  Tr.ext (refT_good hu) (mirT_good hu) fun x => by rw [gk_mirT hu, refT_behind hu ht (inSpan_all t) hu fun _ _ => rfl]

/-! ### Where no spans meet -/
/-- A message says 'the same' of spans that differ. -/
def metB (F U : List (Bts × Bts)) (m : Msg) : Bool := m.same && !sameP (F.filter (inS m.low true m.high m.bd)) (U.filter (inS m.low true m.high m.bd))
theorem sameP_eq {a b : List (Bts × Bts)} (h : sameP a b = true) : a = b := by
  simp only [sameP, Bool.and_eq_true, beq_iff_eq, List.all_eq_true] at h
  refine List.ext_getElem h.1 fun i h1 h2 => ?_
  have := h.2 (a[i], b[i]) (by rw [← List.getElem_zip (h := by simp; omega)]; exact List.getElem_mem _)
  exact Prod.ext (cmpB_zero this.1) (cmpB_zero this.2)
theorem behind_get {F : List (Bts × Bts)} {u : Tr} (hF : Srt F) (hu : u.good seed) : ∀ {t : Tr} {low high : Bts} {bd : Bool}, t.good seed → t.pairs = F.filter (inS low true high bd) → (∀ m ∈ talk seed u t low high bd, metB F u.pairs m = false) → ∀ x, inS low true high bd (x, []) = true → behind seed u t low high bd x (getK u.pairs x) = getK F x
  | .nil, low, high, bd, hg, ht, hm, x, hx => by
    have hn : getK F x = none := by
      have := getK_filter (low := low) (high := high) (x := x) (fr := true) (tt := bd) hF
      rw [← ht, if_pos hx] at this
      exact this.symm
    rw [hn, behind, comes, gones]
    by_cases hs : sameAt seed u .nil low high bd = true
    · have h1 := hm _ (by rw [talk]; exact List.mem_singleton.2 rfl)
      simp only [metB, hs, Bool.true_and, Bool.not_eq_false'] at h1
      have h1 := sameP_eq h1
      have := getK_filter (low := low) (high := high) (x := x) (fr := true) (tt := bd) (Tr.good_srt hu)
      rw [if_pos hx, ← h1, getK_filter hF, if_pos hx, hn] at this
      rw [if_pos hs, ← this]
      simp [lastK]
    · rw [if_neg hs]
      split
      · simp [lastK]
      · next c =>
        rw [spanKeys_iff hu] at c
        have : ¬ (getK u.pairs x).isSome = true := fun h => c ⟨hx, h⟩
        simpa [lastK] using this
  | .nd l k v r, low, high, bd, hg, ht, hm, x, hx => by
    have hi : (Tr.nd l k v r).inSpan low high bd := fun p hp => by
      rw [ht] at hp
      exact (List.mem_filter.1 hp).2
    obtain ⟨hk, el, er⟩ := Tr.parts_of hg ht
    obtain ⟨_, hl, hr⟩ := inSpan_parts hg hi
    by_cases hs : sameAt seed u (.nd l k v r) low high bd = true
    · have h1 := hm ⟨low, high, bd, (Tr.nd l k v r).size, (Tr.nd l k v r).dg seed, true, []⟩ (by rw [talk, if_pos hs]; exact List.mem_singleton.2 rfl)
      simp only [metB, Bool.true_and, Bool.not_eq_false'] at h1
      have h1 := sameP_eq h1
      rw [behind, comes, gones, if_pos hs, if_pos hs]
      have := getK_filter (low := low) (high := high) (x := x) (fr := true) (tt := bd) (Tr.good_srt hu)
      rw [if_pos hx, ← h1, getK_filter hF, if_pos hx] at this
      simp [lastK, this]
    · have hm' : ∀ m, m ∈ talk seed u l low k true ∨ m ∈ talk seed u r (k ++ [0]) high bd → metB F u.pairs m = false := fun m h => hm m (by
        rw [talk, if_neg hs]
        exact List.mem_cons_of_mem _ (List.mem_append.2 h))
      rw [behind_nd hu hg hi hs]
      by_cases x1 : k = x
      · subst x1
        rw [if_pos rfl, behind_out hu hg.1 hl (fun h => lt_ne (span_left hk h).2 rfl), behind_out hu hg.2.1 hr (fun h => lt_ne (span_right hk h).2 rfl)]
        have : (k, v) ∈ F.filter (inS low true high bd) := by rw [← ht]; simp [Tr.pairs]
        exact ((getK_iff hF).2 (List.mem_filter.1 this).1).symm
      · rw [if_neg x1]
        by_cases i1 : inS low true k true (x, []) = true
        · have n2 : ¬ inS (k ++ [0]) true high bd (x, []) = true := fun h => (not_lt_of (span_left hk i1).2).1 (span_right hk h).2
          rw [behind_out hu hg.2.1 hr n2, behind_get hF hu hg.1 el (fun m h => hm' m (.inl h)) x i1]
        · have i2 : inS (k ++ [0]) true high bd (x, []) = true := by
            rw [(span_parts hk (x, [])).2, hx, Bool.true_and, decide_eq_true_eq]
            have q1 : ¬ cmpB x k < 0 := fun h => i1 (by rw [(span_parts hk (x, [])).1, hx]; simpa using h)
            have q2 : ¬ cmpB k x = 0 := fun h => x1 (cmpB_zero h)
            have := cmpB_neg k x
            show cmpB k x < 0
            omega
          rw [behind_out hu hg.1 hl i1, behind_get hF hu hg.2.1 er (fun m h => hm' m (.inr h)) x i2]
theorem filter_all (l : List (Bts × Bts)) : l.filter (inS [] true [] false) = l := List.filter_eq_self.2 fun p _ => inS_all p
theorem mirT_eq {u t : Tr} (hu : u.good seed) (ht : t.good seed) (hm : ∀ m ∈ talk seed u t [] [] false, metB t.pairs u.pairs m = false) : mirT seed u t = t :=
  Tr.ext (mirT_good hu) ht fun x => by rw [gk_mirT hu, behind_get (Tr.good_srt ht) hu ht (filter_all _).symm hm x (inS_all _)]
theorem same_self {t : Tr} (ht : t.good seed) : sameAt seed t t [] [] false = true := by
  obtain ⟨g, e⟩ := Tr.cut_good [] true [] false ht
  have : t.cut [] true [] false = t := Tr.canon g ht (by rw [e, filter_all])
  simp [sameAt, this]
theorem talk_self {t : Tr} (ht : t.good seed) : ∃ m, talk seed t t [] [] false = [m] ∧ m.same = true ∧ m.size = t.size := by
  have h := same_self ht
  cases t with
  | nil => exact ⟨_, rfl, h, rfl⟩
  | nd l k v r => exact ⟨_, by rw [talk, if_pos h], rfl, rfl⟩
end
end Go.Proofs.Ytaopjdjbpamhhaa
