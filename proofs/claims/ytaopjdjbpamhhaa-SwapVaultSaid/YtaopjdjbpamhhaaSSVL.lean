/- Proved: texts of the families over slots, order and swap, joined, as far as the claim needs them. Conditions: as each theorem says. -/
import Derived.Test.YtaopjdjbpamhhaaSSVF
import Derived.Maps.RangeWalk
import Derived.Test.YtaopjdjbpamhhaaSSVI
import Derived.Test.YtaopjdjbpamhhaaSSVJ
import Derived.Test.YtaopjdjbpamhhaaSSVC
import Derived.Sort.Grow
import Derived.Deep.Slices
import Derived.Shelf.SlSortCmp.NoneTotal
import Derived.Test.YtaopjdjbpamhhaaSSVD
/- Proved: laws of 'range' over a table's map, round by round: what has come and what is left make up the pairs. Conditions: maps in memory that nobody changes meanwhile. -/
namespace Go.Proofs.Ytaopjdjbpamhhaa
open Go Go.RowKit
open Go.MapKept (Stamped)
open Go.ChangeMaps (setBlock)
set_option linter.unusedVariables false
set_option linter.unusedSimpArgs false
/-! ### What is left -/
def zipE (es : Array MapEntry) (l : List (Bts × Bts)) : List (MapEntry × (Bts × Bts)) := es.toList.zip l
def leftP (es : Array MapEntry) (l : List (Bts × Bts)) (seen : Array Nat) : List (Bts × Bts) := ((zipE es l).filter fun z => !seen.contains z.1.born).map (·.2)
theorem EntsIn.zip {seed : Int} {D : Nat → Prop} {w : World} : ∀ {es : List MapEntry} {l : List (Bts × Bts)}, EntsIn seed D w es l → (es.zip l).map (·.1) = es ∧ (es.zip l).map (·.2) = l ∧ ∀ z ∈ es.zip l, EntIn seed D w z.1 z.2
  | [], [], _ => ⟨rfl, rfl, fun z h => by simp at h⟩
  | e :: es, p :: l, h => by
    obtain ⟨h1, h2⟩ := h
    obtain ⟨a, b, c⟩ := EntsIn.zip h2
    refine ⟨by simp [a], by simp [b], fun z hz => ?_⟩
    rw [List.zip_cons_cons] at hz
    rcases List.mem_cons.1 hz with rfl | hz
    · exact h1
    · exact c z hz
  | [], _ :: _, h => h.elim
  | _ :: _, [], h => h.elim
theorem leftP_start {seed : Int} {D : Nat → Prop} {w : World} {es : Array MapEntry} {l : List (Bts × Bts)} (h : EntsIn seed D w es.toList l) : leftP es l #[] = l := by
  unfold leftP zipE
  rw [List.filter_eq_self.2 (fun z _ => by simp), h.zip.2.1]
theorem filter_push {α : Type} (f : α → Nat) (seen : Array Nat) : ∀ (Z : List α) (z : α), (Z.map f).Nodup → z ∈ Z → seen.contains (f z) = false → (Z.filter fun x => !seen.contains (f x)).Perm (z :: Z.filter fun x => !(seen.push (f z)).contains (f x))
  | [], z, _, h, _ => by simp at h
  | x :: Z, z, hn, h, hs => by
    rw [List.map_cons, List.nodup_cons] at hn
    by_cases e : x = z
    · subst e
      have h1 : (Z.filter fun y => !(seen.push (f x)).contains (f y)) = Z.filter fun y => !seen.contains (f y) := by
        refine List.filter_congr fun y hy => ?_
        rw [contains_push]
        have : (f y == f x) = false := by
          simp only [beq_eq_false_iff_ne]
          intro e
          exact hn.1 (by rw [← e]; exact List.mem_map_of_mem hy)
        rw [this, Bool.or_false]
      rw [List.filter_cons_of_pos (by simp only [hs]; rfl), List.filter_cons_of_neg (by rw [contains_push]; simp), h1]
    · have hz : z ∈ Z := by
        rcases List.mem_cons.1 h with h | h
        · exact absurd h.symm e
        · exact h
      have ih := filter_push f seen Z z hn.2 hz hs
      have hne : f x ≠ f z := fun he => hn.1 (by rw [he]; exact List.mem_map_of_mem hz)
      by_cases hx : seen.contains (f x) = true
      · rw [List.filter_cons_of_neg (by rw [hx]; simp), List.filter_cons_of_neg (by rw [contains_push, hx]; simp)]
        exact ih
      · have hx : seen.contains (f x) = false := by simpa using hx
        rw [List.filter_cons_of_pos (by rw [hx]; rfl), List.filter_cons_of_pos (by rw [contains_push, hx]; simpa using hne)]
        exact (ih.cons x).trans (List.Perm.swap _ _ _)
theorem zip_of_left {seed : Int} {D : Nat → Prop} {w : World} {es : Array MapEntry} {l : List (Bts × Bts)} {seen : Array Nat} (h : EntsIn seed D w es.toList l) {e : MapEntry} (he : e ∈ (leftOf es seen).toList) : ∃ p, (e, p) ∈ zipE es l ∧ seen.contains e.born = false ∧ EntIn seed D w e p := by
  obtain ⟨h1, h2⟩ := mem_left he
  obtain ⟨a, b, c⟩ := h.zip
  rw [← a] at h1
  obtain ⟨⟨e', p⟩, hz, rfl⟩ := List.mem_map.1 h1
  exact ⟨p, hz, h2, c _ hz⟩
theorem leftP_none {seed : Int} {D : Nat → Prop} {w : World} {es : Array MapEntry} {l : List (Bts × Bts)} {seen : Array Nat} (h : EntsIn seed D w es.toList l) (h0 : (leftOf es seen).size = 0) : leftP es l seen = [] := by
  unfold leftP
  rw [List.map_eq_nil_iff, List.filter_eq_nil_iff]
  intro z hz
  have : z.1 ∈ es.toList := by rw [← h.zip.1]; exact List.mem_map_of_mem hz
  have := all_seen es seen h0 z.1 this
  rw [this]
  simp
theorem leftP_next {seed : Int} {D : Nat → Prop} {w : World} {es : Array MapEntry} {l : List (Bts × Bts)} {seen : Array Nat} {clock : Nat} (h : EntsIn seed D w es.toList l) (st : Stamped es clock) {e : MapEntry} {p : Bts × Bts} (hz : (e, p) ∈ zipE es l) (hs : seen.contains e.born = false) :
    (leftP es l seen).Perm (p :: leftP es l (seen.push e.born)) := by
  unfold leftP
  have hn : ((zipE es l).map fun z => z.1.born).Nodup := by
    have := st.2.1
    rw [← h.zip.1, List.map_map] at this
    exact this
  exact (filter_push (fun z : MapEntry × (Bts × Bts) => z.1.born) seen (zipE es l) (e, p) hn hz hs).map (·.2)

/-! ### The walk's laws -/
/-- The iterator's block, what has come (gs) and what is left. -/
structure RngIn (seed : Int) (w : World) (r it : Nat) (es : Array MapEntry) (clock : Nat) (l : List (Bts × Bts)) (D : Nat → Prop) (seen : Array Nat) (gs : List (Bts × Bts)) : Prop where
  pd : PadIn seed w r es clock l D
  hi : w.heap[it]? = some (.mapIter (some r) clock seen clock)
  ne : it ≠ r
  di : ¬ D it
  pm : (gs ++ leftP es l seen).Perm l
theorem RngIn.kept {seed : Int} {w w' : World} {r it : Nat} {es : Array MapEntry} {clock : Nat} {l : List (Bts × Bts)} {D X : Nat → Prop} {seen : Array Nat} {gs : List (Bts × Bts)} (h : RngIn seed w r it es clock l D seen gs) (k : Kept X w w') (hX : ∀ b, D b → b < w.heap.size → ¬ X b) (hr : ¬ X r) (hi : ¬ X it) : RngIn seed w' r it es clock l D seen gs :=
  ⟨h.pd.kept k hX hr, k.obj hi h.hi, h.ne, h.di, h.pm⟩
section
variable {P : Program} {w : World} {ops : Array Oper} {rest : List Oper} {o : Oper} {a : Act} {Q : Exit → Act → World → Prop}
theorem wl_range {seed : Int} {r clock : Nat} {es : Array MapEntry} {l : List (Bts × Bts)} {D : Nat → Prop} (hg : o.guard = none) (m : Operand) (t k e : TypeId) (hop : o.op = Op.range t m) (ht : P.underlying t = some (.map k e)) (hm : a.eval m = .map (some r)) (h : PadIn seed w r es clock l D) (hD : ∀ b, D b → b < w.heap.size)
    (hK : ∀ w', RngIn seed w' r w.heap.size es clock l D #[] [] → Kept Noneof w w' → w'.heap.size = w.heap.size + 1 → wpList P ops Q rest (a.put o.dst (.pointer (some ⟨w.heap.size, 0, none⟩))) w') :
    wpList P ops Q (o :: rest) a w := by
  refine wpList_plain hg fun K' hK' => ?_
  have hrun := run_range_map (P := P) w t k e r es clock ht h.hm
  unfold Oper.wp
  simp [execOp, hop, hm, hrun, Result.andThen]
  have kk := (Kept.refl Noneof w).alloc (.mapIter (some r) clock #[] clock)
  exact hK' _ _ (hK _ ⟨h.kept kk (fun _ _ _ h => h) (fun h => h), heap_alloc_new _ _, by have := block_lt h.hm; omega, fun hd => by have := hD _ hd; omega, by rw [List.nil_append, leftP_start h.el]⟩ kk (by simp))
theorem wl_next {seed : Int} {r it clock : Nat} {es : Array MapEntry} {l : List (Bts × Bts)} {D : Nat → Prop} {seen : Array Nat} {gs : List (Bts × Bts)} (hg : o.guard = none) (i : Operand) (hop : o.op = Op.next i false) (hit : a.eval i = .pointer (some ⟨it, 0, none⟩)) (h : RngIn seed w r it es clock l D seen gs)
    (hDone : gs.Perm l → wpList P ops Q rest (a.put o.dst (.tuple #[.bool false])) w)
    (hMore : ∀ (kv vv : Value) (p : Bts × Bts) (seen' : Array Nat) (w' : World), gs.length < l.length → BV D w' kv p.1 → BV D w' vv p.2 → RngIn seed w' r it es clock l D seen' (gs ++ [p]) → Kept (fun b => b = it) w w' → w'.heap.size = w.heap.size →
      (Instr.entry (.pointer (some ⟨it, 0, none⟩))).run P w' = .ok (.tuple #[strV p.1, entV seed kv vv p.1]) w' → wpList P ops Q rest (a.put o.dst (.tuple #[.bool true, strV p.1, entV seed kv vv p.1])) w') :
    wpList P ops Q (o :: rest) a w := by
  refine wpList_plain hg fun K' hK' => ?_
  unfold Oper.wp
  rcases run_next_at (P := P) w o.type it r clock clock seen es clock h.hi h.pd.hm h.pd.st.1 (Nat.le_refl _) with ⟨h0, hrun⟩ | ⟨e, he, w1, hw1, hrun⟩
  · simp [execOp, hop, hit, hrun, Result.andThen]
    refine hK' _ _ (hDone ?_)
    have := h.pm
    rwa [leftP_none h.pd.el h0, List.append_nil] at this
  · obtain ⟨p, hz, hs, kv, vv, e1, e2, b1, b2⟩ := zip_of_left h.pd.el he
    simp [execOp, hop, hit, hrun, Result.andThen]
    have kd : Kept Noneof w w1 := by
      rcases hw1 with rfl | rfl
      · exact Kept.refl _ _
      · exact (Kept.refl Noneof w).drew
    have hsz : w1.heap.size = w.heap.size := by rcases hw1 with rfl | rfl <;> rfl
    have kk := (kd.mono (T := fun b => b = it) fun _ h => h.elim).tr (setBlock_kept w1 it (.mapIter (some r) clock (seen.push e.born) clock))
    have hlt : it < w1.heap.size := by rw [hsz]; exact block_lt h.hi
    have hi' : (setBlock w1 it (.mapIter (some r) clock (seen.push e.born) clock)).heap[it]? = some (.mapIter (some r) clock (seen.push e.born) clock) := by unfold setBlock; simp [hlt]
    have hDi : ∀ b, D b → b < w.heap.size → ¬ b = it := fun b hb _ e => h.di (e ▸ hb)
    have hpd := h.pd.kept kk hDi h.ne.symm
    have hpm : (gs ++ [p] ++ leftP es l (seen.push e.born)).Perm l := by
      rw [List.append_assoc]
      exact ((List.Perm.append_left gs (leftP_next h.pd.el h.pd.st hz hs)).symm).trans h.pm
    have hlen := hpm.length_eq
    simp only [List.length_append, List.length_cons, List.length_nil] at hlen
    have hent := run_entry_at (P := P) (setBlock w1 it (.mapIter (some r) clock (seen.push e.born) clock)) it r clock seen es clock e hi' hpd.hm (mem_left he).1 h.pd.st.2.1
    rw [e1, e2] at hent ⊢
    refine hK' _ _ (hMore kv vv p (seen.push e.born) _ (by omega) (b1.kept byteEl_k kk hDi) (b2.kept byteEl_k kk hDi) ⟨hpd, hi', h.ne, h.di, hpm⟩ kk ?_ hent)
    unfold setBlock
    simp [hsz]
end
end Go.Proofs.Ytaopjdjbpamhhaa
/- Proved: contracts of cmp.Compare at uint64, of an entry's order and comes, of the two functions that laid hands to Layout, of cellsFor; and the order is strict. Conditions: entries in memory. -/
namespace Go.Proofs.Ytaopjdjbpamhhaa
open Go Go.RowKit
set_option linter.unusedVariables false
set_option linter.unusedSimpArgs false
def cmpI (a b : Int) : Int := if a < b then -1 else if b < a then 1 else 0
/-- How two pairs stand: by rank, the greater one first; then by key. -/
def ordE (seed : Int) (p q : Bts × Bts) : Int := orK [cmpI (coin seed 2 q.1) (coin seed 2 p.1), cmpS p.1 q.1]
def comesE (seed : Int) (p q : Bts × Bts) : Bool := decide (ordE seed p q < 0)
theorem ordE_lt {seed : Int} {p q : Bts × Bts} : ordE seed p q < 0 ↔ coin seed 2 q.1 < coin seed 2 p.1 ∨ (coin seed 2 q.1 = coin seed 2 p.1 ∧ cmpB p.1 q.1 < 0) := by
  unfold ordE cmpI cmpS
  generalize coin seed 2 q.1 = a
  generalize coin seed 2 p.1 = b
  generalize cmpB p.1 q.1 = c
  simp only [orK]
  by_cases h1 : a < b
  · simp [h1]
  · by_cases h2 : b < a
    · simp [h1, h2]; omega
    · have : a = b := by omega
      by_cases h3 : c < 0
      · simp [h1, h2, h3, this]
      · by_cases h4 : 0 < c <;> simp [h1, h2, h3, h4, this]
theorem comesE_iff {seed : Int} {p q : Bts × Bts} : comesE seed p q = true ↔ coin seed 2 q.1 < coin seed 2 p.1 ∨ (coin seed 2 q.1 = coin seed 2 p.1 ∧ cmpB p.1 q.1 < 0) := by
  unfold comesE
  rw [decide_eq_true_eq, ordE_lt]
theorem comesE_no {seed : Int} {p q : Bts × Bts} : comesE seed p q = false ↔ ¬ (coin seed 2 q.1 < coin seed 2 p.1 ∨ (coin seed 2 q.1 = coin seed 2 p.1 ∧ cmpB p.1 q.1 < 0)) := by
  rw [← comesE_iff]; simp
theorem comesE_swo (seed : Int) : Swo (comesE seed) where
  irrefl p := by rw [comesE_no, cmpB_self]; omega
  trans p q r h k := by
    rw [comesE_iff] at *
    rcases h with h | ⟨h, h'⟩ <;> rcases k with k | ⟨k, k'⟩
    · exact .inl (by omega)
    · exact .inl (by omega)
    · exact .inl (by omega)
    · exact .inr ⟨by omega, cmpB_trans h' k'⟩
  ntrans p q r h k := by
    rw [comesE_no] at *
    rintro (g | ⟨g, g'⟩)
    · rcases Int.lt_trichotomy (coin seed 2 q.1) (coin seed 2 p.1) with a | a | a
      · exact h (.inl a)
      · exact k (.inl (by omega))
      · exact k (.inl (by omega))
    · have a : coin seed 2 q.1 = coin seed 2 p.1 := by
        refine Classical.byContradiction fun a => ?_
        rcases Int.lt_or_gt_of_ne a with a | a
        · exact h (.inl a)
        · exact k (.inl (by omega))
      have h1 : ¬ cmpB p.1 q.1 < 0 := fun x => h (.inr ⟨a, x⟩)
      have k1 : ¬ cmpB q.1 r.1 < 0 := fun x => k (.inr ⟨by omega, x⟩)
      have n1 := cmpB_neg p.1 q.1
      have n2 := cmpB_neg q.1 r.1
      have n3 := cmpB_neg p.1 r.1
      by_cases c1 : cmpB q.1 p.1 < 0
      · by_cases c2 : cmpB r.1 q.1 < 0
        · have := cmpB_trans c2 c1
          omega
        · have e := cmpB_zero (show cmpB r.1 q.1 = 0 by omega)
          rw [e] at g'
          omega
      · have e := cmpB_zero (show cmpB q.1 p.1 = 0 by omega)
        rw [e] at k1
        omega

theorem cmpCompare64_calls {w : World} (x y : Int) : Calls Try.prog 153 #[.int .u64 x, .int .u64 y] w fun e w' => e = .returned (.int .i64 (cmpI x y)) ∧ w' = w := by
  go_enter Try.func153, Try.ntmps153
  go_wp2
  all_goals
    go_ret
    refine ⟨ret_int ?_, rfl⟩
    unfold cmpI
  · rw [if_pos (by assumption)]
  · rw [if_neg (by omega), if_pos (by assumption)]
  · rw [if_neg (by omega), if_neg (by omega)]

/-- Draws and new blocks alone. -/
def Grew (w w' : World) : Prop := ∃ q os, w' = Sort.grow (w.drewN q) os
theorem Grew.refl (w : World) : Grew w w := ⟨0, #[], by simp [World.drewN]⟩
theorem Grew.alloc {a w : World} (h : Grew a w) (o : Obj) : Grew a (w.alloc o) := by
  obtain ⟨q, os, rfl⟩ := h
  exact ⟨q, os ++ #[o], by rw [Sort.alloc_eq_grow, Sort.grow_grow]⟩
theorem Grew.drew {a w : World} (h : Grew a w) : Grew a w.drew := by
  obtain ⟨q, os, rfl⟩ := h
  exact ⟨q + 1, os, by rw [Sort.drew_grow]; rfl⟩
theorem Grew.kept {a w : World} (h : Grew a w) : Kept Noneof a w := by
  obtain ⟨q, os, rfl⟩ := h
  exact ⟨rfl, rfl, rfl, by simp [Sort.grow, World.drewN], fun k hk _ => by simp [Sort.grow, World.drewN, Array.getElem?_append, hk]⟩
set_option maxRecDepth 100000 in
set_option maxHeartbeats 2000000 in
theorem slorder_calls {seed : Int} {w : World} {D : Nat → Prop} {p q : Bts × Bts} {pk pv qk qv : Value} (h1 : BV D w pk p.1) (h2 : BV D w pv p.2) (h3 : BV D w qk q.1) (h4 : BV D w qv q.2) :
    Calls Try.prog 100 #[.agg #[pk, pv, .int .u64 (coin seed 1 p.1), .int .u64 (coin seed 2 p.1)], .agg #[qk, qv, .int .u64 (coin seed 1 q.1), .int .u64 (coin seed 2 q.1)]] w fun e w' => e = .returned (.int .i64 (ordE seed p q)) ∧ Grew w w' := by
  have H1 := Lib.hid h1
  have H3 := Lib.hid h3
  obtain ⟨a1, n1, c1, rfl⟩ := h1.sl
  obtain ⟨a2, n2, c2, rfl⟩ := h2.sl
  obtain ⟨a3, n3, c3, rfl⟩ := h3.sl
  obtain ⟨a4, n4, c4, rfl⟩ := h4.sl
  obtain ⟨p1, p2⟩ := p
  obtain ⟨q1, q2⟩ := q
  simp only at *
  obtain ⟨res, hr⟩ : ∃ r, ordE seed (p1, p2) (q1, q2) = r := ⟨_, rfl⟩
  rw [hr]
  have O := Lib.hid (show orK [cmpI (coin seed 2 q1) (coin seed 2 p1), cmpS p1 q1] = res from hr)
  clear hr
  generalize coin seed 1 p1 = x1 at *
  generalize coin seed 2 p1 = x2 at *
  generalize coin seed 1 q1 = y1 at *
  generalize coin seed 2 q1 = y2 at *
  clear h1 h2 h3 h4
  go_enter Try.func100, Try.ntmps100
  go_wp2_with fail
  have G := Lib.hid ((((Grew.refl w).alloc (.cells #[.slice a1 n1 c1, .slice a2 n2 c2, .int .u64 x1, .int .u64 x2] 138)).alloc (.cells #[.slice a3 n3 c3, .slice a4 n4 c4, .int .u64 y1, .int .u64 y2] 138)).drew)
  have k1 := (Kept.refl Noneof w).alloc (.cells #[.slice a1 n1 c1, .slice a2 n2 c2, .int .u64 x1, .int .u64 x2] 138)
  have g1 := heap_alloc_new w (.cells #[.slice a1 n1 c1, .slice a2 n2 c2, .int .u64 x1, .int .u64 x2] 138)
  have s1 : (w.alloc (.cells #[.slice a1 n1 c1, .slice a2 n2 c2, .int .u64 x1, .int .u64 x2] 138)).heap.size = w.heap.size + 1 := by simp
  generalize w.alloc (.cells #[.slice a1 n1 c1, .slice a2 n2 c2, .int .u64 x1, .int .u64 x2] 138) = w1 at *
  have k2 := (Kept.refl Noneof w1).alloc (.cells #[.slice a3 n3 c3, .slice a4 n4 c4, .int .u64 y1, .int .u64 y2] 138)
  have g2 := heap_alloc_new w1 (.cells #[.slice a3 n3 c3, .slice a4 n4 c4, .int .u64 y1, .int .u64 y2] 138)
  rw [s1] at g2
  replace g1 := k2.obj (fun h => h) g1
  have k3 := k1.tr k2
  generalize w1.alloc (.cells #[.slice a3 n3 c3, .slice a4 n4 c4, .int .u64 y1, .int .u64 y2] 138) = w2 at *
  have p0 : w2.cell? ⟨w.heap.size, 0, none⟩ = some (.slice a1 n1 c1) := by simp [World.cell?, g1]
  have p3 : w2.cell? ⟨w.heap.size, 3, none⟩ = some (.int .u64 x2) := by simp [World.cell?, g1]
  have q0 : w2.cell? ⟨w.heap.size + 1, 0, none⟩ = some (.slice a3 n3 c3) := by simp [World.cell?, g2]
  have q3 : w2.cell? ⟨w.heap.size + 1, 3, none⟩ = some (.int .u64 y2) := by simp [World.cell?, g2]
  clear k1 k2 g1 g2 s1
  refine wp_region_chain 12 [4, 9, 10, 11] (fun w' => w'.cell? ⟨w.heap.size, 0, none⟩ = some (.slice a1 n1 c1) ∧ w'.cell? ⟨w.heap.size, 3, none⟩ = some (.int .u64 x2) ∧ w'.cell? ⟨w.heap.size + 1, 0, none⟩ = some (.slice a3 n3 c3) ∧ w'.cell? ⟨w.heap.size + 1, 3, none⟩ = some (.int .u64 y2)) (by kernel_rfl) (by kernel_rfl) ?_ ?_
  · exact ⟨p0, p3, q0, q3⟩
  refine SeqW.out ?_
  simp only [List.take_succ_cons, List.take_zero, List.drop_succ_cons, List.drop_zero]
  have kd := (Kept.refl Noneof w2).drew
  replace p0 := kd.cell (p := ⟨w.heap.size, 0, none⟩) (fun h => h) p0
  replace p3 := kd.cell (p := ⟨w.heap.size, 3, none⟩) (fun h => h) p3
  replace q0 := kd.cell (p := ⟨w.heap.size + 1, 0, none⟩) (fun h => h) q0
  replace q3 := kd.cell (p := ⟨w.heap.size + 1, 3, none⟩) (fun h => h) q3
  replace k3 := Lib.hid (k3.tr kd)
  generalize w2.drew = wd at *
  clear kd
  iterate 4 (refine SeqW.val (v := ?_) (by rfl) (by rfl) (fun wx hSw => ?_) ?_; rotate_left; (focus ((try dsimp only at hSw); go_simp; (try with_reducible rfl))); (try simp only [Act.put, List.setIfInBounds_toArray, List.set_cons_zero, List.set_cons_succ]))
  refine SeqW.act (by rfl) rfl (by rfl) (by rfl) (fun K hK => ?_)
  go_simp
  refine (cmpCompare64_calls y2 x2).mono ?_
  rintro e wa ⟨rfl, rfl⟩
  refine hK.out _ _ ⟨p0, p3, q0, q3⟩ ?_
  clear K hK
  generalize cmpI y2 x2 = z1 at *
  (try simp only [Act.put, List.setIfInBounds_toArray, List.set_cons_zero, List.set_cons_succ])
  iterate 4 (refine SeqW.val (v := ?_) (by rfl) (by rfl) (fun wx hSw => ?_) ?_; rotate_left; (focus ((try dsimp only at hSw); go_simp; (try with_reducible rfl))); (try simp only [Act.put, List.setIfInBounds_toArray, List.set_cons_zero, List.set_cons_succ]))
  refine SeqW.act (by rfl) rfl (by rfl) (by rfl) (fun K hK => ?_)
  go_simp
  refine (byCompare_calls (H1.out.still' k3.out) (H3.out.still' k3.out)).mono ?_
  rintro e wa ⟨rfl, rfl⟩
  refine hK.out _ _ ⟨p0, p3, q0, q3⟩ ?_
  clear K hK
  generalize cmpS p1 q1 = z2 at *
  (try simp only [Act.put, List.setIfInBounds_toArray, List.set_cons_zero, List.set_cons_succ])
  refine SeqW.act (by rfl) rfl (by rfl) (by rfl) (fun K hK => ?_)
  go_simp
  have kA := (Kept.refl Noneof wa).alloc (.cells #[.int .i64 z1, .int .i64 z2] 3)
  have gA := heap_alloc_new wa (.cells #[.int .i64 z1, .int .i64 z2] 3)
  refine hK.out _ _ ⟨kA.cell (p := ⟨w.heap.size, 0, none⟩) (fun h => h) p0, kA.cell (p := ⟨w.heap.size, 3, none⟩) (fun h => h) p3, kA.cell (p := ⟨w.heap.size + 1, 0, none⟩) (fun h => h) q0, kA.cell (p := ⟨w.heap.size + 1, 3, none⟩) (fun h => h) q3⟩ ?_
  replace p0 := kA.cell (p := ⟨w.heap.size, 0, none⟩) (fun h => h) p0
  replace p3 := kA.cell (p := ⟨w.heap.size, 3, none⟩) (fun h => h) p3
  replace q0 := kA.cell (p := ⟨w.heap.size + 1, 0, none⟩) (fun h => h) q0
  replace q3 := kA.cell (p := ⟨w.heap.size + 1, 3, none⟩) (fun h => h) q3
  have G4 := Lib.hid (G.out.alloc (.cells #[.int .i64 z1, .int .i64 z2] 3))
  generalize wa.alloc (.cells #[.int .i64 z1, .int .i64 z2] 3) = wb at *
  clear K hK kA
  (try simp only [Act.put, List.setIfInBounds_toArray, List.set_cons_zero, List.set_cons_succ])
  refine SeqW.act (by rfl) rfl (by rfl) (by rfl) (fun K hK => ?_)
  go_simp
  refine (cmpOr_calls (l := [z1, z2]) (fun i hi => ?_) (by simp)).mono ?_
  · match i, hi with
    | 0, _ => simp [World.cell?, gA]
    | 1, _ => simp [World.cell?, gA]
  rintro e wc ⟨rfl, rfl⟩
  refine hK.out _ _ ⟨p0, p3, q0, q3⟩ ?_
  clear K hK
  rw [O.out]
  (try simp only [Act.put, List.setIfInBounds_toArray, List.set_cons_zero, List.set_cons_succ])
  refine SeqW.nil ?_
  go_wp2
  go_ret
  exact ⟨rfl, G4.out⟩
end Go.Proofs.Ytaopjdjbpamhhaa
/- Proved: contracts of an entry's comes, of the two functions that laid hands to Layout, of cellsFor. Conditions: entries in memory, at most 100000 pairs. -/
namespace Go.Proofs.Ytaopjdjbpamhhaa
open Go Go.RowKit
set_option linter.unusedVariables false
set_option linter.unusedSimpArgs false
theorem coin_range (seed tag : Int) (l : Bts) : 0 ≤ coin seed tag l ∧ coin seed tag l < 18446744073709551616 := by
  have h := coin_u64 seed tag l
  unfold isU64 at h
  omega
theorem slcomes_calls {seed : Int} {w : World} {D : Nat → Prop} {p q : Bts × Bts} {pk pv qk qv : Value} (h1 : BV D w pk p.1) (h2 : BV D w pv p.2) (h3 : BV D w qk q.1) (h4 : BV D w qv q.2) :
    Calls Try.prog 149 #[.agg #[pk, pv, .int .u64 (coin seed 1 p.1), .int .u64 (coin seed 2 p.1)], .agg #[qk, qv, .int .u64 (coin seed 1 q.1), .int .u64 (coin seed 2 q.1)]] w fun e w' => e = .returned (.bool (comesE seed p q)) ∧ Kept Noneof w w' := by
  have CC := Lib.hid (fun (w' : World) (k : Kept Noneof w w') => slorder_calls (seed := seed) (h1.still' k) (h2.still' k) (h3.still' k) (h4.still' k))
  have O := Lib.hid (show decide (ordE seed p q < 0) = comesE seed p q from rfl)
  obtain ⟨a1, n1, c1, rfl⟩ := h1.sl
  obtain ⟨a2, n2, c2, rfl⟩ := h2.sl
  obtain ⟨a3, n3, c3, rfl⟩ := h3.sl
  obtain ⟨a4, n4, c4, rfl⟩ := h4.sl
  clear h1 h2 h3 h4
  generalize comesE seed p q = res at *
  generalize coin seed 1 p.1 = x1 at *
  generalize coin seed 2 p.1 = x2 at *
  generalize coin seed 1 q.1 = y1 at *
  generalize coin seed 2 q.1 = y2 at *
  go_enter Try.func149, Try.ntmps149
  go_wp2_with fail
  have kk := Lib.hid (((Kept.refl Noneof w).alloc (.cells #[.slice a1 n1 c1, .slice a2 n2 c2, .int .u64 x1, .int .u64 x2] 138)).alloc (.cells #[.slice a3 n3 c3, .slice a4 n4 c4, .int .u64 y1, .int .u64 y2] 138))
  refine (CC.out _ kk.out).mono ?_
  rintro e w2 ⟨rfl, k2⟩
  have K2 := Lib.hid (kk.out.tr k2.kept)
  clear CC kk k2
  generalize ordE seed p q = z at *
  go_wp2
  go_ret
  exact ⟨by rw [← O.out]; rfl, K2.out⟩
/-- The home of a key in a table of so many cells. -/
def hmE (seed : Int) (cells : Nat) (k : Bts) : Nat := (coin seed 1 k % (cells : Int)).toNat
theorem hmE_lt (seed : Int) {cells : Nat} (k : Bts) (h : 0 < cells) : hmE seed cells k < cells := homeN_lt _ h
theorem homeN_hmE (seed : Int) (cells : Nat) (k : Bts) : homeN cells (coin seed 1 k % (cells : Int)) = hmE seed cells k := by
  unfold homeN hmE
  rw [Int.emod_emod_of_dvd _ (Int.dvd_refl _)]
theorem sllaid1_calls {seed : Int} {w : World} {D : Nat → Prop} {p : Bts × Bts} {pk pv : Value} {b cells : Nat} (h1 : BV D w pk p.1) (h2 : BV D w pv p.2) (hb : w.cell? ⟨b, 0, none⟩ = some (.int .i64 cells)) (c1 : 1 ≤ cells) (c2 : cells ≤ 1048576) :
    Calls Try.prog 147 #[.agg #[pk, pv, .int .u64 (coin seed 1 p.1), .int .u64 (coin seed 2 p.1)], bp b] w fun e w' => e = .returned (.int .i64 (coin seed 1 p.1 % (cells : Int))) ∧ Kept Noneof w w' := by
  obtain ⟨r1, r2⟩ := coin_range seed 1 p.1
  obtain ⟨a1, n1, d1, rfl⟩ := h1.sl
  obtain ⟨a2, n2, d2, rfl⟩ := h2.sl
  have hlt := cell_lt hb
  clear h1 h2
  generalize coin seed 1 p.1 = x1 at *
  generalize coin seed 2 p.1 = x2 at *
  have kk := (Kept.refl Noneof w).alloc (.cells #[.slice a1 n1 d1, .slice a2 n2 d2, .int .u64 x1, .int .u64 x2] 138)
  have hb' := kk.cell (p := ⟨b, 0, none⟩) (fun h => h) hb
  have K := Lib.hid kk
  have w1 : IntKind.u64.wrap (cells : Int) = (cells : Int) := IntWalk.u64_in _ ⟨by omega, by omega⟩
  have hz : ((cells : Int) == 0) = false := by simp; omega
  have m1 := Int.emod_lt_of_pos x1 (show (0 : Int) < cells by omega)
  have m2 := Int.emod_nonneg x1 (show (cells : Int) ≠ 0 by omega)
  have R := Lib.hid (show x1.tmod cells = x1 % cells from Int.tmod_eq_emod_of_nonneg r1)
  clear kk hb
  go_enter Try.func147, Try.ntmps147
  go_wp2
  go_ret
  exact ⟨rfl, K.out⟩
theorem sllaid2_calls {seed : Int} {w : World} {D : Nat → Prop} {p q : Bts × Bts} {pk pv qk qv : Value} (h1 : BV D w pk p.1) (h2 : BV D w pv p.2) (h3 : BV D w qk q.1) (h4 : BV D w qv q.2) :
    Calls Try.prog 148 #[.agg #[pk, pv, .int .u64 (coin seed 1 p.1), .int .u64 (coin seed 2 p.1)], .agg #[qk, qv, .int .u64 (coin seed 1 q.1), .int .u64 (coin seed 2 q.1)]] w fun e w' => e = .returned (.bool (comesE seed p q)) ∧ Kept Noneof w w' := by
  have CC := Lib.hid (fun (w' : World) (k : Kept Noneof w w') => slcomes_calls (seed := seed) (h1.still' k) (h2.still' k) (h3.still' k) (h4.still' k))
  obtain ⟨a1, n1, c1, rfl⟩ := h1.sl
  obtain ⟨a2, n2, c2, rfl⟩ := h2.sl
  obtain ⟨a3, n3, c3, rfl⟩ := h3.sl
  obtain ⟨a4, n4, c4, rfl⟩ := h4.sl
  clear h1 h2 h3 h4
  generalize comesE seed p q = res at *
  generalize coin seed 1 p.1 = x1 at *
  generalize coin seed 2 p.1 = x2 at *
  generalize coin seed 1 q.1 = y1 at *
  generalize coin seed 2 q.1 = y2 at *
  go_enter Try.func148, Try.ntmps148
  go_wp2_with fail
  have kk := Lib.hid (((Kept.refl Noneof w).alloc (.cells #[.slice a1 n1 c1, .slice a2 n2 c2, .int .u64 x1, .int .u64 x2] 138)).alloc (.cells #[.slice a3 n3 c3, .slice a4 n4 c4, .int .u64 y1, .int .u64 y2] 138))
  refine (CC.out _ kk.out).mono ?_
  rintro e w2 ⟨rfl, k2⟩
  have K2 := Lib.hid (kk.out.tr k2)
  clear CC kk k2
  go_wp2
  go_ret
  exact ⟨rfl, K2.out⟩

/-! ### How many cells -/
def cellsG (n : Nat) : Nat → Nat → Nat
  | 0, c => c
  | f + 1, c => if 3 * c < 4 * n then cellsG n f (2 * c) else c
/-- The cells of a table of n pairs. -/
def cellsN (n : Nat) : Nat := cellsG n 20 8
theorem cellsG_stop {n c : Nat} (h : ¬ 3 * c < 4 * n) : ∀ f, cellsG n f c = c
  | 0 => rfl
  | f + 1 => by rw [cellsG, if_neg h]
/-- What the loop has reached. -/
def CellsAt (n c : Nat) : Prop := ∃ k, k ≤ 20 ∧ c = 8 * 2 ^ k ∧ cellsG n (20 - k) c = cellsN n ∧ (k = 0 ∨ 3 * c < 8 * n)
theorem CellsAt.start (n : Nat) : CellsAt n 8 := ⟨0, by omega, by omega, rfl, .inl rfl⟩
theorem CellsAt.bound {n c : Nat} (h : CellsAt n c) : 8 ≤ c ∧ c ≤ 8388608 := by
  obtain ⟨k, hk, rfl, _⟩ := h
  have h1 : 2 ^ k ≤ 2 ^ 20 := Nat.pow_le_pow_right (by omega) hk
  have h2 : 1 ≤ 2 ^ k := Nat.one_le_two_pow
  omega
theorem CellsAt.next {n c : Nat} (hn : n ≤ 100000) (h : CellsAt n c) (hc : 3 * c < 4 * n) : CellsAt n (2 * c) := by
  obtain ⟨k, hk, rfl, he, hs⟩ := h
  have hk' : k < 20 := by
    rcases Nat.lt_or_ge k 20 with h | h
    · exact h
    · obtain rfl : k = 20 := by omega
      omega
  refine ⟨k + 1, by omega, by rw [Nat.pow_succ]; omega, ?_, .inr (by omega)⟩
  rw [show 20 - k = (20 - (k + 1)) + 1 by omega, cellsG, if_pos hc] at he
  exact he
theorem CellsAt.stop {n c : Nat} (h : CellsAt n c) (hc : ¬ 3 * c < 4 * n) : c = cellsN n := by
  obtain ⟨k, _, _, he, _⟩ := h
  rw [cellsG_stop hc] at he
  exact he
theorem cellsAt_n {n : Nat} (hn : n ≤ 100000) : CellsAt n (cellsN n) ∧ ¬ 3 * cellsN n < 4 * n := by
  have key : ∀ d c, 4 * n - 3 * c ≤ d → CellsAt n c → CellsAt n (cellsN n) ∧ ¬ 3 * cellsN n < 4 * n := by
    intro d
    induction d with
    | zero =>
      intro c hd h
      have := h.stop (by omega)
      rw [← this]
      exact ⟨h, by omega⟩
    | succ d ih =>
      intro c hd h
      by_cases hc : 3 * c < 4 * n
      · have := h.bound
        exact ih (2 * c) (by omega) (h.next hn hc)
      · have := h.stop hc
        rw [← this]
        exact ⟨h, hc⟩
  exact key _ 8 (Nat.le_refl _) (CellsAt.start n)
/-- A power of two from 8 on, with room, and not twice as many as are needed. -/
theorem cellsN_spec {n : Nat} (hn : n ≤ 100000) : (∃ k, cellsN n = 8 * 2 ^ k) ∧ 8 ≤ cellsN n ∧ 4 * n ≤ 3 * cellsN n ∧ (cellsN n = 8 ∨ 3 * cellsN n < 8 * n) ∧ cellsN n ≤ 1048576 := by
  obtain ⟨h, hc⟩ := cellsAt_n hn
  have hb := h.bound
  obtain ⟨k, hk, e, _, hs⟩ := h
  refine ⟨⟨k, e⟩, hb.1, by omega, ?_, ?_⟩
  · rcases hs with rfl | hs
    · exact .inl (by omega)
    · exact .inr hs
  · rcases hs with rfl | hs
    · omega
    · omega
theorem slcellsFor_calls {w : World} {n : Nat} (hn : n ≤ 100000) : Calls Try.prog 92 #[.int .i64 n] w fun e w' => e = .returned (.int .i64 (cellsN n)) ∧ w' = w := by
  go_enter Try.func92, Try.ntmps92
  go_wp2
  go_loopw [3] (fun v wr => ∃ c : Nat, v = .int .i64 c ∧ wr = w ∧ Hid (CellsAt n c)) (fun v _ => 4 * n - 3 * (intOf v).toNat)
  case atStart => exact ⟨8, rfl, rfl, Lib.hid (CellsAt.start n)⟩
  obtain ⟨c, rfl, rfl, H⟩ := hrel
  have hb := H.out.bound
  by_cases hc : 3 * c < 4 * n
  · have hc' : 3 * (c : Int) < 4 * (n : Int) := by omega
    have NX := Lib.hid (H.out.next hn hc)
    go_wp2
    go_roundw
    case rel => exact ⟨2 * c, by go_num, by first | rfl | trivial, NX⟩
    case measure => simp [intOf]; omega
  · have hc' : ¬ 3 * (c : Int) < 4 * (n : Int) := by omega
    have E := Lib.hid (H.out.stop hc)
    go_wp2
    go_ret
    exact ⟨by rw [← E.out]; rfl, rfl⟩
end Go.Proofs.Ytaopjdjbpamhhaa
/- Proved: contract of slices.SortFunc on a row of entries with the entries' order. Conditions: entries in memory. -/
namespace Go.Proofs.Ytaopjdjbpamhhaa
open Go Go.RowKit
set_option linter.unusedVariables false
set_option linter.unusedSimpArgs false
def sortLays_ren : Shelf.Ren := ⟨fun n => if n = 6 then 145 else if n = 14 then 176 else if n = 15 then 177 else if n = 20 then 191 else if n = 21 then 192 else if n = 22 then 193 else if n = 23 then 194 else if n = 24 then 195 else if n = 25 then 196 else if n = 26 then 197 else if n = 27 then 198 else if n = 28 then 199 else if n = 29 then 200 else if n = 46 then 203 else if n = 47 then 204 else if n = 48 then 205 else if n = 49 then 206 else if n = 50 then 207 else if n = 57 then 209 else n, fun n => if n = 0 then 0 else if n = 3 then 3 else if n = 4 then 4 else if n = 5 then 5 else if n = 9 then 9 else if n = 22 then 141 else if n = 24 then 138 else if n = 25 then 198 else if n = 39 then 42 else if n = 45 then 238 else if n = 46 then 239 else if n = 50 then 243 else if n = 53 then 24 else if n = 55 then 22 else if n = 66 then 247 else if n = 70 then 250 else if n = 76 then 252 else if n = 77 then 253 else n, fun n => n⟩
theorem sortLays : SlLaysF0.n6 Try.prog sortLays_ren where
  mixed := by kernel_rfl
  f6 := ⟨Try.f145.name, by decide, by kernel_rfl⟩
  f14 := ⟨Try.f176.name, by decide, by kernel_rfl⟩
  f15 := by kernel_rfl
  f20 := ⟨Try.f191.name, by decide, by kernel_rfl⟩
  f21 := ⟨Try.f192.name, by decide, by kernel_rfl⟩
  f22 := ⟨Try.f193.name, by decide, by kernel_rfl⟩
  f23 := ⟨Try.f194.name, by decide, by kernel_rfl⟩
  f24 := ⟨Try.f195.name, by decide, by kernel_rfl⟩
  f25 := ⟨Try.f196.name, by decide, by kernel_rfl⟩
  f26 := ⟨Try.f197.name, by decide, by kernel_rfl⟩
  f27 := ⟨Try.f198.name, by decide, by kernel_rfl⟩
  f28 := by kernel_rfl
  f29 := by kernel_rfl
  f46 := ⟨Try.f203.name, by decide, by kernel_rfl⟩
  f47 := by kernel_rfl
  f48 := by kernel_rfl
  f49 := ⟨Try.f206.name, by decide, by kernel_rfl⟩
  f50 := ⟨Try.f207.name, by decide, by kernel_rfl⟩
  f57 := ⟨Try.f209.name, by decide, by kernel_rfl⟩
  t0 := Try.underlying0
  a0 := Try.isAgg0
  z0 := Try.sizeOf0
  v0 := Try.zeroValue0
  t3 := Try.underlying3
  a3 := Try.isAgg3
  z3 := Try.sizeOf3
  v3 := Try.zeroValue3
  t4 := Try.underlying4
  a4 := Try.isAgg4
  z4 := Try.sizeOf4
  v4 := Try.zeroValue4
  t5 := Try.underlying5
  a5 := Try.isAgg5
  z5 := Try.sizeOf5
  v5 := Try.zeroValue5
  t9 := Try.underlying9
  a9 := Try.isAgg9
  z9 := Try.sizeOf9
  v9 := Try.zeroValue9
  t22 := Try.underlying141
  a22 := Try.isAgg141
  z22 := Try.sizeOf141
  v22 := Try.zeroValue141
  t25 := Try.underlying198
  a25 := Try.isAgg198
  z25 := Try.sizeOf198
  v25 := Try.zeroValue198
  t39 := Try.underlying42
  a39 := Try.isAgg42
  z39 := Try.sizeOf42
  v39 := Try.zeroValue42
  t45 := Try.underlying238
  a45 := Try.isAgg238
  z45 := Try.sizeOf238
  v45 := Try.zeroValue238
  t46 := Try.underlying239
  a46 := Try.isAgg239
  z46 := Try.sizeOf239
  v46 := Try.zeroValue239
  t50 := Try.underlying243
  a50 := Try.isAgg243
  z50 := Try.sizeOf243
  v50 := Try.zeroValue243
  t53 := Try.underlying24
  a53 := Try.isAgg24
  z53 := Try.sizeOf24
  v53 := Try.zeroValue24
  t55 := Try.underlying22
  a55 := Try.isAgg22
  z55 := Try.sizeOf22
  v55 := Try.zeroValue22
  t66 := Try.underlying247
  a66 := Try.isAgg247
  z66 := Try.sizeOf247
  v66 := Try.zeroValue247
  t70 := Try.underlying250
  a70 := Try.isAgg250
  z70 := Try.sizeOf250
  v70 := Try.zeroValue250
  t76 := Try.underlying252
  a76 := Try.isAgg252
  z76 := Try.sizeOf252
  v76 := Try.zeroValue252
  t77 := Try.underlying253
  a77 := Try.isAgg253
  z77 := Try.sizeOf253
  v77 := Try.zeroValue253

/-- An entry that lies in memory. -/
structure EntK (seed : Int) (D : Nat → Prop) (w : World) where
  p : Bts × Bts
  kv : Value
  vv : Value
  hk : BV D w kv p.1
  hv : BV D w vv p.2
instance {seed : Int} {D : Nat → Prop} {w : World} : Inhabited (EntK seed D w) :=
  ⟨⟨([], []), .slice none 0 0, .slice none 0 0, ⟨none, 0, rfl, ⟨Nat.le_refl _, fun h => rfl⟩, by simp, Rd.nil _ _ _ _⟩, ⟨none, 0, rfl, ⟨Nat.le_refl _, fun h => rfl⟩, by simp, Rd.nil _ _ _ _⟩⟩⟩
def encE {seed : Int} {D : Nat → Prop} {w : World} (x : EntK seed D w) : List Value := [x.kv, x.vv, .int .u64 (coin seed 1 x.p.1), .int .u64 (coin seed 2 x.p.1)]
def cfE {seed : Int} {D : Nat → Prop} {w : World} (x y : EntK seed D w) : Int := ordE seed x.p y.p
theorem cfE_swo {seed : Int} {D : Nat → Prop} {w : World} : Sort.SWO (ltOf (cfE (seed := seed) (D := D) (w := w))) where
  irrefl x := (comesE_swo seed).irrefl x.p
  trans x y z := (comesE_swo seed).trans x.p y.p z.p
  ntrans x y z := (comesE_swo seed).ntrans x.p y.p z.p
theorem sortWorldK_kept {α : Type} [Inhabited α] {enc : α → List Value} {k : Nat} {w : World} {blk off m : Nat} {dk : Array α} {os : Array Obj} : Kept (fun b => b = blk) w (sortWorldK enc k w blk off m dk os) := by
  have e : ∀ b, (Sort.mapBlock (Sort.ahead w m) blk (Sort.putCells id off (Sort.flatK enc k dk))).heap[b]? = if b = blk then (w.heap[b]?).map (Sort.onCells (Sort.putCells id off (Sort.flatK enc k dk))) else w.heap[b]? := fun b => by
    show (w.heap.modify blk _)[b]? = _
    rw [Array.getElem?_modify]
    by_cases h : blk = b
    · rw [if_pos h, if_pos h.symm]
    · rw [if_neg h, if_neg (fun e => h e.symm)]
  refine ⟨rfl, rfl, rfl, ?_, fun b hb hn => ?_⟩
  · show w.heap.size ≤ ((w.heap.modify blk _) ++ os).size
    simp
  · show ((w.heap.modify blk _) ++ os)[b]? = w.heap[b]?
    rw [Array.getElem?_append_left (by simpa using hb)]
    have := e b
    rw [if_neg hn] at this
    exact this
theorem cmpLaysE {seed : Int} {D : Nat → Prop} {w : World} {blk off size : Nat} (hD : ¬ D blk) : CmpLays Try.prog 100 #[] (encE (seed := seed) (D := D) (w := w)) 4 cfE blk off size w := by
  intro m os dk _ x y
  have kk := sortWorldK_kept (enc := encE (seed := seed) (D := D) (w := w)) (k := 4) (w := w) (blk := blk) (off := off) (m := m) (dk := dk) (os := os)
  generalize sortWorldK (encE (seed := seed) (D := D) (w := w)) 4 w blk off m dk os = W at *
  have hs : ∀ b, D b → b < w.heap.size → ¬ b = blk := fun b h _ e => hD (e ▸ h)
  refine (slorder_calls (seed := seed) (p := x.p) (q := y.p) (x.hk.kept byteEl_k kk hs) (x.hv.kept byteEl_k kk hs) (y.hk.kept byteEl_k kk hs) (y.hv.kept byteEl_k kk hs)).mono ?_
  rintro e w' ⟨rfl, q, os', rfl⟩
  exact ⟨rfl, q, os', rfl⟩
theorem tEnts : SlT Try.prog 141 138 4 64 (.agg #[.slice none 0 0, .slice none 0 0, .int .u64 0, .int .u64 0]) := SlT.of (by kernel_rfl) (by kernel_rfl) rfl (by decide)

set_option maxRecDepth 100000 in
set_option maxHeartbeats 1000000 in
theorem sortEnt_calls {seed : Int} {w : World} {g c B : Nat} {gs : List (Bts × Bts)} {D : Nat → Prop} (h : Own 138 (entEl seed) D B w (.slice (some ⟨g, 0, none⟩) gs.length c) gs) (hDg : ¬ D g) (hn : gs.length ≤ 1000000) :
    Calls Try.prog 145 #[.slice (some ⟨g, 0, none⟩) gs.length c, .func (.func 100) #[] #[]] w fun e w' => e = .returned (.tuple #[]) ∧
      ∃ L, L.Perm gs ∧ L.Pairwise (fun p q => comesE seed q p = false) ∧ SV (entEl seed) (fun b => D b ∨ b = g) w' (.slice (some ⟨g, 0, none⟩) L.length c) L ∧ Kept (fun b => b = g) w w' := by
  have hlt := h.lt g rfl
  obtain ⟨hl, D0, h0, xs, ⟨h1, h2⟩, h3⟩ := h
  rcases h2 with ⟨hh, _⟩ | ⟨g', cap, cur, hv, hg, hh, hc, hm', hs, ht⟩
  · cases hh
  simp only [Value.slice.injEq, Option.some.injEq, Addr.mk.injEq, and_true] at hv
  obtain ⟨rfl, _, rfl⟩ := hv
  have k4 : (entEl seed).k = 4 := rfl
  rw [k4] at h1 hs ht
  have hx : ∀ j, j < gs.length * 4 → w.cell? ⟨g, j, none⟩ = xs[j]? := fun j hj => by
    rw [← ht, List.getElem?_take, if_pos hj, Array.getElem?_toList]
    simp [World.cell?, hh]
  have hfz : ∀ j, w.frozen? ⟨g, j, none⟩ = false := fun j => by simp [World.frozen?, hh]
  obtain ⟨V, hV⟩ := Deep.choose_lt (α := EntK seed D w) (n := gs.length) (p := fun i x => gs[i]? = some x.p ∧ ∀ j (hj : j < (encE x).length), w.cell? ⟨g, i * 4 + j, none⟩ = some (encE x)[j]) (fun i hi => by
    obtain ⟨cs, ⟨u, v, e1, e2, e3⟩, e4⟩ := h3.at_ i hi
    refine ⟨⟨gs[i], u, v, e2.wide byteEl_k fun b hb _ => (h0 b hb).1, e3.wide byteEl_k fun b hb _ => (h0 b hb).1⟩, by simp [hi], fun j hj => ?_⟩
    subst e1
    have := e4 j hj
    rw [k4] at this
    have hj4 : j < 4 := hj
    rw [hx _ (by omega), this]
    rfl)
  have hd : ((List.range gs.length).map V).toArray.size = gs.length := by simp
  have hp : ((List.range gs.length).map V).map (·.p) = gs := by
    refine List.ext_getElem? fun i => ?_
    rcases Nat.lt_or_ge i gs.length with hi | hi
    · rw [(hV i hi).1]; simp [hi]
    · rw [List.getElem?_eq_none hi, List.getElem?_eq_none (by simpa using hi)]
  have hH : Sort.HoldsK (encE (seed := seed) (D := D) (w := w)) 4 w g 0 ((List.range gs.length).map V).toArray := by
    intro t htl
    rw [Sort.size_flatK, hd] at htl
    refine ⟨?_, hfz _⟩
    rw [Sort.get_flatK _ _ _ _ (by rw [hd]; exact htl)]
    have hi : t / 4 < gs.length := by omega
    have e1 : ((List.range gs.length).map V).toArray[t / 4]! = V (t / 4) := by
      rw [getElem!_pos ((List.range gs.length).map V).toArray (t / 4) (by rw [hd]; exact hi)]
      simp
    rw [e1]
    have hj : t % 4 < (encE (V (t / 4))).length := by show t % 4 < 4; omega
    have := (hV (t / 4) hi).2 (t % 4) hj
    rw [show t / 4 * 4 + t % 4 = 0 + t by omega] at this
    rw [this, getElem!_pos (encE (V (t / 4))) (t % 4) hj]
    rfl
  have e6 : sortLays_ren.f 6 = 145 := rfl
  have eg : ∀ args w, (callFunc 100 args).run Try.prog w = .ok (.enter 100 args) w := enters_of Try.func100 (by kernel_rfl) rfl
  have hcon := AnyQ.slices_SortFunc sortLays 4 (fun w => Try.isAgg138 w) (fun w => Try.sizeOf138 w) (encE (seed := seed) (D := D) (w := w)) (fun _ => rfl) (fun x v hv => by
      simp only [encE, List.mem_cons, List.not_mem_nil, or_false] at hv
      rcases hv with rfl | rfl | rfl | rfl
      · exact x.hk.cell1
      · exact x.hv.cell1
      · rfl
      · rfl) cfE cfE_swo 100 #[] g 0 c ((List.range gs.length).map V).toArray w eg (cmpLaysE hDg) hH hlt.2 (by rw [hd]; omega)
  rw [e6, hd] at hcon
  refine hcon.mono ?_
  rintro e w' ⟨rfl, d', m, os, hperm, hsort, rfl⟩
  obtain ⟨q1, q2, q3⟩ := hperm
  rw [hd] at q1
  have q4 : d'.toList.Perm ((List.range gs.length).map V) := by
    have := q3
    rw [Array.extract_eq_self_of_le (by omega), Array.extract_eq_self_of_le (by omega)] at this
    exact this
  have kk := sortWorldK_kept (enc := encE (seed := seed) (D := D) (w := w)) (k := 4) (w := w) (blk := g) (off := 0) (m := m) (dk := d') (os := os)
  have hH' : Sort.HoldsK (encE (seed := seed) (D := D) (w := w)) 4 (sortWorldK (encE (seed := seed) (D := D) (w := w)) 4 w g 0 m d' os) g 0 d' := by
    unfold sortWorldK
    refine Sort.holdsK_grow _ _ _ _ _ _ _ ?_ (Sort.holdsK_putRowK _ _ _ _ _ _ d' (Sort.holdsK_ahead _ _ _ m _ _ _ hH) (by rw [hd]; exact q1))
    show g < (w.heap.modify g _).size
    simpa using hlt.2
  have hlen : (d'.toList.map (·.p)).length = gs.length := by simp [q1]
  generalize sortWorldK (encE (seed := seed) (D := D) (w := w)) 4 w g 0 m d' os = w' at *
  refine ⟨rfl, d'.toList.map (·.p), by rw [← hp]; exact q4.map _, ?_, ⟨some ⟨g, 0, none⟩, c, rfl, ⟨by rw [hlen]; exact hc, fun h => by cases h⟩, by rw [hlen]; omega, fun i hi => ?_⟩, kk⟩
  · rw [List.pairwise_map, List.pairwise_iff_getElem]
    intro i j hi hj hij
    have hi' : i < d'.size := by simpa using hi
    have hj' : j < d'.size := by simpa using hj
    have := hsort i j (Nat.zero_le _) hij (by omega)
    rw [getElem!_pos d' i hi', getElem!_pos d' j hj'] at this
    simp only [Array.getElem_toList]
    exact this
  · have hi' : i < d'.size := by simpa using hi
    refine ⟨g, 0, encE d'[i], rfl, .inr rfl, fun j hj => ?_, ⟨d'[i].kv, d'[i].vv, by simp [encE], ?_, ?_⟩⟩
    · have hj4 : j < 4 := hj
      have := (hH'.cell hi' hj4).1
      rw [getElem!_pos d' i hi', getElem!_pos (encE d'[i]) j hj] at this
      rw [k4, ← Nat.add_assoc]
      exact this
    · simp only [List.getElem_map, Array.getElem_toList]
      exact (d'[i].hk.kept byteEl_k kk fun b hb _ e => hDg (e ▸ hb)).wide byteEl_k fun b hb _ => .inl hb
    · simp only [List.getElem_map, Array.getElem_toList]
      exact (d'[i].hv.kept byteEl_k kk fun b hb _ e => hDg (e ▸ hb)).wide byteEl_k fun b hb _ => .inl hb
end Go.Proofs.Ytaopjdjbpamhhaa
/- Proved: plain: the cells of a table as a function of its pairs. No program. Conditions: different keys. -/
namespace Go.Proofs.Ytaopjdjbpamhhaa
open Go Go.RowKit
set_option linter.unusedVariables false
set_option linter.unusedSimpArgs false
/-- No two pairs have one key. -/
def Keyd (l : List (Bts × Bts)) : Prop := l.Pairwise fun p q => p.1 ≠ q.1
theorem Keyd.perm {l m : List (Bts × Bts)} (h : Keyd l) (p : m.Perm l) : Keyd m := (p.pairwise_iff (fun h => Ne.symm h)).2 h
theorem comesE_total {seed : Int} {p q : Bts × Bts} (h : p.1 ≠ q.1) (hn : comesE seed q p = false) : comesE seed p q = true := by
  rw [comesE_no] at hn
  rw [comesE_iff]
  have c := cmpB_neg p.1 q.1
  rcases Int.lt_trichotomy (coin seed 2 q.1) (coin seed 2 p.1) with a | a | a
  · exact .inl a
  · refine .inr ⟨a, ?_⟩
    have n1 : ¬ cmpB q.1 p.1 < 0 := fun x => hn (.inr ⟨a.symm, x⟩)
    have n2 : cmpB p.1 q.1 ≠ 0 := fun x => h (cmpB_zero x)
    omega
  · exact absurd (.inl a) hn
/-- The pairs in their order. -/
def SrtE (seed : Int) (l L : List (Bts × Bts)) : Prop := L.Perm l ∧ L.Pairwise fun p q => comesE seed p q = true
theorem SrtE.of {seed : Int} {l L : List (Bts × Bts)} (hk : Keyd l) (hp : L.Perm l) (h : L.Pairwise fun p q => comesE seed q p = false) : SrtE seed l L :=
  ⟨hp, (List.Pairwise.and h (hk.perm hp)).imp fun ⟨a, b⟩ => comesE_total b a⟩
theorem SrtE.uniq {seed : Int} {l m L M : List (Bts × Bts)} (h : SrtE seed l L) (k : SrtE seed m M) (p : l.Perm m) : L = M :=
  perm_srt_eq (R := fun p q => comesE seed p q = true) (fun x y a b => by rw [(comesE_swo seed).asymm a] at b; cases b) (h.1.trans (p.trans k.1.symm)) h.2 k.2
def insE (seed : Int) (p : Bts × Bts) : List (Bts × Bts) → List (Bts × Bts)
  | [] => [p]
  | q :: l => if comesE seed p q = true then p :: q :: l else q :: insE seed p l
def sortE (seed : Int) (l : List (Bts × Bts)) : List (Bts × Bts) := l.foldr (insE seed) []
theorem insE_perm (seed : Int) (p : Bts × Bts) : ∀ l, (insE seed p l).Perm (p :: l)
  | [] => List.Perm.refl _
  | q :: l => by
    rw [insE]
    split
    · exact List.Perm.refl _
    · exact ((insE_perm seed p l).cons q).trans (List.Perm.swap p q l)
theorem sortE_perm (seed : Int) : ∀ l, (sortE seed l).Perm l
  | [] => List.Perm.refl _
  | p :: l => (insE_perm seed p _).trans ((sortE_perm seed l).cons p)
theorem insE_srt {seed : Int} {p : Bts × Bts} : ∀ {l : List (Bts × Bts)}, (l.Pairwise fun p q => comesE seed p q = true) → (∀ q ∈ l, p.1 ≠ q.1) → (insE seed p l).Pairwise fun p q => comesE seed p q = true
  | [], _, _ => List.pairwise_singleton _ _
  | q :: l, h, hk => by
    obtain ⟨h1, h2⟩ := List.pairwise_cons.1 h
    rw [insE]
    split
    · rename_i hc
      refine List.pairwise_cons.2 ⟨fun x hx => ?_, h⟩
      rcases List.mem_cons.1 hx with rfl | hx
      · exact hc
      · exact (comesE_swo seed).trans _ _ _ hc (h1 x hx)
    · rename_i hc
      refine List.pairwise_cons.2 ⟨fun x hx => ?_, insE_srt h2 fun y hy => hk y (by simp [hy])⟩
      rcases List.mem_cons.1 ((insE_perm seed p l).mem_iff.1 hx) with rfl | hx
      · exact comesE_total (Ne.symm (hk q (by simp))) (by simpa using hc)
      · exact h1 x hx
theorem sortE_srt {seed : Int} : ∀ {l : List (Bts × Bts)}, Keyd l → SrtE seed l (sortE seed l)
  | [], _ => ⟨List.Perm.refl _, List.Pairwise.nil⟩
  | p :: l, h => by
    obtain ⟨h1, h2⟩ := List.pairwise_cons.1 h
    exact ⟨sortE_perm seed _, insE_srt (sortE_srt h2).2 fun q hq => h1 q ((sortE_perm seed l).mem_iff.1 hq)⟩
theorem sortE_len (seed : Int) (l : List (Bts × Bts)) : (sortE seed l).length = l.length := (sortE_perm seed l).length_eq
/-- The pairs' places in a row that is in order. -/
theorem ordd_range {seed : Int} {L : List (Bts × Bts)} (h : L.Pairwise fun p q => comesE seed p q = true) : Ordd (befN (comesE seed) L) L.length (List.range L.length) := by
  refine ⟨List.Perm.refl _, List.pairwise_lt_range.imp_of_mem fun {i j} hi hj hij => .inl ?_⟩
  have hi := List.mem_range.1 hi
  have hj := List.mem_range.1 hj
  unfold befN
  rw [List.getD_eq_getElem?_getD, List.getD_eq_getElem?_getD, List.getElem?_eq_getElem hi, List.getElem?_eq_getElem hj]
  exact List.pairwise_iff_getElem.1 h i j hi hj hij
/-- Where the pairs of a table lie: for each cell the number of the pair, -1 if it is free. -/
def posE (seed : Int) (l : List (Bts × Bts)) : List Int :=
  layF (cellsN l.length) (fun i => hmE seed (cellsN l.length) ((sortE seed l).getD i default).1) (List.range l.length)
theorem posE_len (seed : Int) (l : List (Bts × Bts)) : (posE seed l).length = cellsN l.length := layF_length _ _ _
theorem posE_laid {seed : Int} {l : List (Bts × Bts)} (hn : l.length ≤ 100000) : Laid (cellsN l.length) (fun i => hmE seed (cellsN l.length) ((sortE seed l).getD i default).1) (List.range l.length) (posE seed l) := by
  obtain ⟨_, c8, c4, _, _⟩ := cellsN_spec hn
  exact layF_laid (by simp; omega) List.nodup_range fun i _ => hmE_lt _ _ (by omega)
/-- What lies in the cells. -/
def celE (seed : Int) (l : List (Bts × Bts)) : List (Option (Bts × Bts)) := (posE seed l).map fun x => if x < 0 then none else some ((sortE seed l).getD x.toNat default)
theorem celE_len (seed : Int) (l : List (Bts × Bts)) : (celE seed l).length = cellsN l.length := by simp [celE, posE_len]
/-- One content, one shape. -/
theorem celE_perm {seed : Int} {l m : List (Bts × Bts)} (hk : Keyd l) (h : l.Perm m) : celE seed l = celE seed m := by
  have e := (sortE_srt (seed := seed) hk).uniq (sortE_srt (seed := seed) (hk.perm h.symm)) h
  unfold celE posE
  rw [e, h.length_eq]
end Go.Proofs.Ytaopjdjbpamhhaa
/- Proved: contract of the table's laid: the pairs in their order, and where they lie. Conditions: a table in memory. -/
namespace Go.Proofs.Ytaopjdjbpamhhaa
open Go Go.RowKit
set_option linter.unusedVariables false
set_option linter.unusedSimpArgs false
/-- A slice's length. -/
def slLen : Value → Nat
  | .slice _ n _ => n
  | _ => 0
theorem TabIn.keyd {seed : Int} {w : World} {t r : Nat} {es : Array MapEntry} {clock : Nat} {l : List (Bts × Bts)} {D F : Nat → Prop} (h : TabIn seed w t r es clock l D F) : Keyd l := by
  have hn := h.pd.st.2.2
  obtain ⟨a, b, c⟩ := h.pd.el.zip
  rw [← a, List.map_map] at hn
  have e : (es.toList.zip l).map (fun z => z.1.key) = (es.toList.zip l).map fun z => strV z.2.1 := List.map_congr_left fun z hz => by
    obtain ⟨kv, vv, h1, _⟩ := c z hz
    exact h1
  have hn : ((es.toList.zip l).map fun z => strV z.2.1).Nodup := by rw [← e]; exact hn
  have e2 : ((es.toList.zip l).map fun z => strV z.2.1) = (((es.toList.zip l).map (·.2)).map fun p => strV p.1) := by rw [List.map_map]; rfl
  rw [e2, b] at hn
  unfold Keyd
  rw [List.Nodup, List.pairwise_map] at hn
  exact hn.imp fun h e => h (by rw [e])
theorem TabAt.keyd {seed : Int} {w : World} {t : Nat} {l : List (Bts × Bts)} {F : Nat → Prop} (h : TabAt seed w t l F) : Keyd l := by
  obtain ⟨r, es, clock, D, h⟩ := h
  exact h.keyd

set_option maxRecDepth 100000 in
set_option maxHeartbeats 4000000 in
theorem sllaid_calls {seed : Int} {w : World} {t : Nat} {l : List (Bts × Bts)} {F : Nat → Prop} (h : TabAt seed w t l F) :
    Calls Try.prog 89 #[bp t] w fun e w' => ∃ g c g2, e = .returned (.tuple #[.slice (some ⟨g, 0, none⟩) l.length c, .slice (some ⟨g2, 0, none⟩) (cellsN l.length) (cellsN l.length)]) ∧
      SV (entEl seed) (fun b => F b ∨ w.heap.size ≤ b) w' (.slice (some ⟨g, 0, none⟩) l.length c) (sortE seed l) ∧ Own 3 intEl Noneof w.heap.size w' (.slice (some ⟨g2, 0, none⟩) (cellsN l.length) (cellsN l.length)) (posE seed l) ∧ Kept Noneof w w' := by
  have KY := Lib.hid h.keyd
  obtain ⟨r, es, clock, D, hi, hdw⟩ := h.open'
  have HDW := Lib.hid hdw
  have PD := Lib.hid hi.pd
  have c2 := (tabObj_cells hi.ho).2.2
  have hln := fun ty => len_map hi.pd.hm ty
  have hsz := hi.pd.size
  have hlim := hi.len
  rw [hsz] at hln
  obtain ⟨n, hn⟩ : ∃ n, l.length = n := ⟨_, rfl⟩
  rw [hn] at hln hlim ⊢
  obtain ⟨B, hB⟩ : ∃ B, w.heap.size = B := ⟨_, rfl⟩
  rw [hB]
  obtain ⟨cells, hce⟩ : ∃ c, cellsN n = c := ⟨_, rfl⟩
  obtain ⟨pos, hpo⟩ : ∃ p, posE seed l = p := ⟨_, rfl⟩
  rw [hce, hpo]
  obtain ⟨_, q8, q4, _, qM⟩ := cellsN_spec hlim
  have PE : posE seed l = layF (cellsN n) (fun i => hmE seed (cellsN n) ((sortE seed l).getD i default).1) (List.range n) := by unfold posE; rw [hn]
  rw [hpo, hce] at PE
  rw [hce] at q8 q4 qM
  replace PE := Lib.hid PE
  have CN := Lib.hid hce
  have QB := Lib.hid (And.intro q8 (And.intro q4 qM))
  clear hce hpo q8 q4 qM
  replace hB := Lib.hid hB
  replace hn := Lib.hid hn
  have TL := Lib.hid (block_lt hi.ho)
  have RB := Lib.hid (show r < B by rw [← hB.out]; exact block_lt hi.pd.hm)
  have DB := Lib.hid (show ∀ b, D b → b < B from fun b h => by rw [← hB.out]; exact (HDW.out b h).2)
  clear h hi hdw hsz
  go_enter Try.func89, Try.ntmps89
  go_wp2_with (at_make; refine wl_make0 (E := entEl seed) rfl _ _ _ rfl tEnts D B n .i64 .i64 _ rfl rfl rfl ?b1 ?b2 ?b3 ?_)
  case b1 => omega
  case b2 => omega
  case b3 => exact Nat.le_of_eq hB.out.symm
  intro w1 g hown hk hg
  have PD1 := Lib.hid (PD.out.kept hk (fun _ _ _ h => h) fun h => h)
  have c2' := hk.cell (p := ⟨t, 2, none⟩) (fun h => h) c2
  have HD1 := Lib.hid (fun b (h : D b) => Nat.lt_of_lt_of_le (HDW.out b h).2 hk.size)
  have hgl := (hown.lt g rfl).2
  have HO := Lib.hid hown
  have K1 := Lib.hid hk
  have S1 := Lib.hid (show B ≤ w1.heap.size by have := hk.size; have := hB.out; omega)
  clear PD c2 hln hown hk hg
  go_wp2_with (at_range; refine wl_range rfl (.tmp 17) _ 9 138 rfl (by kernel_rfl) rfl PD1.out HD1.out ?_)
  intro w2 rg k2 s2
  have RG := Lib.hid rg
  replace HO := Lib.hid (HO.out.kept k2 fun _ h => h.elim)
  have K2 := Lib.hid (K1.out.tr k2)
  have GI := Lib.hid (show ¬ g = w1.heap.size by omega)
  have IT := Lib.hid (show B ≤ w1.heap.size from S1.out)
  generalize w1.heap.size = it at *
  clear rg k2 s2 hgl PD1 c2' HD1 K1 S1
  go_wp2_with fail
  try go_frame
  go_loopw [4] (fun v wr => ∃ (gs : List (Bts × Bts)) (gx c : Nat) (seen : Array Nat), v = .slice (some ⟨gx, 0, none⟩) gs.length c ∧ Hid (Own 138 (entEl seed) D B wr v gs) ∧ Hid (RngIn seed wr r it es clock l D seen gs) ∧ Hid (Kept Noneof w wr) ∧ Hid (¬ gx = it)) (fun v _ => n - slLen v)
  case atStart => exact ⟨[], g, n, #[], rfl, HO, RG, K2, GI⟩
  clear HO RG K2 GI
  obtain ⟨gs, gx, c, seen, rfl, HO, RG, KW, GI⟩ := hrel
  go_wp2_with (at_next; refine wl_next rfl (.tmp 18) rfl rfl RG.out ?_ ?_)
  · intro hp
    have hlen : gs.length = n := by rw [hp.length_eq]; exact hn.out
    have hgx := (HO.out.lt gx rfl)
    have hdg : ¬ D gx := fun h => by have := DB.out gx h; omega
    have SC := sortEnt_calls HO.out hdg (by omega)
    rw [hlen] at SC ⊢
    have SCH := Lib.hid SC
    have HP := Lib.hid hp
    have GX := Lib.hid hgx
    have HDG := Lib.hid hdg
    clear SC hp hgx hdg hlen HO RG
    go_wp2_with fail
    refine SCH.out.mono ?_
    rintro e w3 ⟨rfl, L, lp, lw, sv, k3⟩
    have hk : Keyd gs := KY.out.perm HP.out
    have hL : L = sortE seed l := (SrtE.of hk lp lw).uniq (sortE_srt KY.out) HP.out
    subst hL
    have hn2 : (sortE seed l).length = n := by rw [sortE_len]; exact hn.out
    rw [hn2] at sv
    have SVH := Lib.hid sv
    have SRT := Lib.hid (sortE_srt (seed := seed) KY.out).2
    replace KW := Lib.hid (show Kept Noneof w w3 from KW.out.trans k3 fun b e => .inr (by have := GX.out.1; have := hB.out; omega))
    have S3 := Lib.hid (show gx < w3.heap.size by have := k3.size; have := GX.out.2; omega)
    clear sv lp lw k3 hk SCH HP
    go_wp2_with fail
    have CF := slcellsFor_calls (w := w3) hlim
    rw [CN.out] at CF
    refine CF.mono ?_
    rintro e w3 ⟨rfl, rfl⟩
    clear CF
    obtain ⟨q8, q4, qM⟩ := QB.out
    have kA := (Kept.refl Noneof w3).alloc (.cells #[.int .i64 (cells : Int)] 3)
    have qA := heap_alloc_new w3 (.cells #[.int .i64 (cells : Int)] 3)
    have sA : (w3.alloc (.cells #[.int .i64 (cells : Int)] 3)).heap.size = w3.heap.size + 1 := by simp
    have cA : (w3.alloc (.cells #[.int .i64 (cells : Int)] 3)).cell? ⟨w3.heap.size, 0, none⟩ = some (.int .i64 (cells : Int)) := by simp only [World.cell?, qA]; rfl
    have LC := Lib.hid (slLayout_slentry_calls (seed := seed) (w := w3.alloc (.cells #[.int .i64 (cells : Int)] 3)) (cells := cells) (sf := 147) (bf := 148) (scb := #[bp w3.heap.size]) (bcb := #[]) (items := .slice (some ⟨gx, 0, none⟩) n c) (l := sortE seed l) (st := fun p => coin seed 1 p.1 % (cells : Int)) (bef := comesE seed) (D := fun b => (D b ∨ b = gx) ∧ b < w3.heap.size) (X := Noneof) (J := fun _ w => w.cell? ⟨w3.heap.size, 0, none⟩ = some (.int .i64 (cells : Int))) (I := fun _ => True)
      ((SVH.out.bd (entEl_k seed)).still' kA (entEl_k seed))
      ⟨fun args w => enters_of Try.func147 (by kernel_rfl) rfl args w, fun i hi wx cs hj hr => by
        obtain ⟨u, v, rfl, r1, r2⟩ := hr
        refine (sllaid1_calls (seed := seed) r1 r2 hj (by omega) qM).mono ?_
        rintro e w' ⟨rfl, kk⟩
        exact ⟨rfl, kk.cell (p := ⟨w3.heap.size, 0, none⟩) (fun h => h) hj, kk⟩, fun i wx wy hj kk => kk.cell (p := ⟨w3.heap.size, 0, none⟩) (by simp only [sA]; omega) hj⟩
      ⟨fun args w => enters_of Try.func148 (by kernel_rfl) rfl args w, fun wx cs ds x y _ hr hr' => by
        obtain ⟨u, v, rfl, r1, r2⟩ := hr
        obtain ⟨u', v', rfl, r1', r2'⟩ := hr'
        refine (sllaid2_calls (seed := seed) r1 r2 r1' r2').mono ?_
        rintro e w' ⟨rfl, kk⟩
        exact ⟨rfl, trivial, kk⟩, comesE_swo seed, fun _ _ _ _ => trivial⟩
      cA (fun _ _ => trivial) (by omega) qM (by rw [hn2]; omega) (fun _ h => h.elim) (fun _ _ h => h) (fun b h => by rw [sA]; have := h.2; omega))
    have K4 := Lib.hid (KW.out.tr kA)
    have SV4 := Lib.hid ((SVH.out).still' kA (entEl_k seed))
    have SS := Lib.hid (show B ≤ w3.heap.size + 1 by have := KW.out.size; have := hB.out; omega)
    have SA := Lib.hid sA
    have QM := Lib.hid qM
    clear kA qA sA cA hn2 KW SVH S3 qM
    go_wp2_with fail
    refine LC.out.mono ?_
    rintro e w5 ⟨g2, ord, rfl, ho, hown, _, k5⟩
    obtain rfl := ho.uniq (befN_swo (comesE_swo seed) _) (ordd_range SRT.out)
    have hL : (sortE seed l).length = n := by rw [sortE_len]; exact hn.out
    simp only [homeN_hmE, hL] at hown
    rw [← PE.out] at hown
    have HO5 := Lib.hid (hown.base (by rw [SA.out]; exact SS.out))
    have K5 := Lib.hid (K4.out.tr k5)
    have SV5 := Lib.hid ((SV4.out.still' k5 (entEl_k seed)).wide (D' := fun b => F b ∨ B ≤ b) (entEl_k seed) fun b h _ => h.elim (fun h => .inl (HDW.out b h).1) fun h => .inr (by have := GX.out.1; omega))
    clear hown k5 ho hL K4 SV4 LC
    go_wp2
    go_ret2
    exact ⟨gx, c, g2, rfl, SV5.out, HO5.out, K5.out⟩
  · intro kv vv p1 p2 seen' w3 hlt bk bv rg k3 s3 hent
    obtain ⟨ka, kn, kc, rfl⟩ := bk.sl
    obtain ⟨va, vn, vc, rfl⟩ := bv.sl
    unfold entV at hent ⊢
    have HK := Lib.hid bk
    have HV := Lib.hid bv
    have dit := RG.out.di
    replace HO := Lib.hid (HO.out.kept k3 fun b e _ => ⟨fun h => dit (e ▸ h), fun h => GI.out (by have h2 : gx = b := (by simpa [Value.ownBlock] using h); omega)⟩)
    replace RG := Lib.hid rg
    replace KW := Lib.hid (show Kept Noneof w w3 from KW.out.trans k3 fun b e => .inr (by have := IT.out; have := hB.out; omega))
    have LT := Lib.hid (show gs.length < n by rw [← hn.out]; exact hlt)
    have ha1 : (w3.alloc (.cells #[.slice ka kn kc, .slice va vn vc, .int .u64 (coin seed 1 p1), .int .u64 (coin seed 2 p1)] 138)).heap.size = w3.heap.size + 1 := by simp
    have kA := ((Kept.refl Noneof w3).alloc (.cells #[.slice ka kn kc, .slice va vn vc, .int .u64 (coin seed 1 p1), .int .u64 (coin seed 2 p1)] 138)).alloc (.cells #[.slice ka kn kc, .slice va vn vc, .int .u64 (coin seed 1 p1), .int .u64 (coin seed 2 p1)] 138)
    have qA := heap_alloc_new (w3.alloc (.cells #[.slice ka kn kc, .slice va vn vc, .int .u64 (coin seed 1 p1), .int .u64 (coin seed 2 p1)] 138)) (.cells #[.slice ka kn kc, .slice va vn vc, .int .u64 (coin seed 1 p1), .int .u64 (coin seed 2 p1)] 138)
    rw [ha1] at qA
    have KA := Lib.hid kA
    have QA := Lib.hid qA
    have HA := Lib.hid ha1
    have GL := Lib.hid (HO.out.lt gx rfl)
    clear bk bv rg k3 s3 kA qA ha1 hlt dit
    go_wp2_with (at_builtin; refine wl_app_one (E := entEl seed) (D := D) (D' := D) rfl (.tmp 23) (.tmp 25) _ rfl tEnts _ _ rfl (HO.out.kept KA.out fun _ h => h.elim) (w3.heap.size + 1) [.slice ka kn kc, .slice va vn vc, .int .u64 (coin seed 1 p1), .int .u64 (coin seed 2 p1)] (p1, p2) rfl ?c1 ?c2 ?c3 ?c4 ?c5 ?c6 ?_)
    case c1 => exact ⟨_, _, QA.out⟩
    case c2 => exact ⟨_, _, rfl, HK.out.still' KA.out, HV.out.still' KA.out⟩
    case c3 => exact fun b h _ => ⟨h, fun e => by have e : (Value.slice (some ⟨gx, 0, none⟩) gs.length c).ownBlock = some b := e; have h2 : gx = b := (by simpa [Value.ownBlock] using e); have := DB.out b h; have := GL.out.1; omega⟩
    case c4 => have := LT.out; omega
    case c5 => omega
    case c6 => have := KW.out.size; have := hB.out; simp; omega
    intro v5 w5 ho5 k5 b5
    obtain ⟨g5, c5, hv5⟩ := ho5.some' (by simp)
    subst hv5
    have hgx : ∀ b, (Value.slice (some ⟨gx, 0, none⟩) gs.length c).ownBlock = some b → b = gx := fun b h => by have h2 : gx = b := (by simpa [Value.ownBlock] using h); omega
    have HO5 := Lib.hid ho5
    have RG5 := Lib.hid ((RG.out.kept KA.out (fun _ _ _ h => h) (fun h => h) (fun h => h)).kept k5 (fun b h _ e => by have := hgx b e; have := DB.out b h; have := GL.out.1; omega) (fun e => by have := hgx _ e; have := RB.out; have := GL.out.1; omega) (fun e => by have := hgx _ e; exact GI.out this.symm))
    have KW5 := Lib.hid (show Kept Noneof w w5 from (KW.out.tr KA.out).trans k5 fun b e => .inr (by have := hgx b e; have := GL.out.1; have := hB.out; omega))
    have GI5 := Lib.hid (show ¬ g5 = it from fun e => by
      have hil := block_lt RG.out.hi
      rcases b5 g5 rfl with h | h
      · exact GI.out (by have := hgx _ h; omega)
      · first | omega | (simp at h; omega))
    have LN := Lib.hid (show n - (gs ++ [(p1, p2)]).length < n - gs.length by have := LT.out; simp; omega)
    have hll : (gs ++ [(p1, p2)]).length = gs.length + 1 := by simp
    clear ho5 k5 b5 HO RG KW GI HK HV KA QA HA GL hent hgx
    generalize hgs : gs ++ [(p1, p2)] = gs' at *
    replace hgs := Lib.hid hgs
    clear hll
    go_wp2
    go_roundw
    case rel => exact ⟨gs', g5, c5, seen', rfl, HO5, RG5, KW5, GI5⟩
    case measure => exact LN.out
end Go.Proofs.Ytaopjdjbpamhhaa
/- Proved: plain: a table's cells one by one, and the bytes of its image. No program. Conditions: at most 100000 pairs with different keys. -/
namespace Go.Proofs.Ytaopjdjbpamhhaa
open Go Go.RowKit
set_option linter.unusedVariables false
set_option linter.unusedSimpArgs false
theorem posE_val {seed : Int} {l : List (Bts × Bts)} (hn : l.length ≤ 100000) {k : Nat} (hk : k < (posE seed l).length) : (posE seed l)[k] = -1 ∨ ∃ i : Nat, i < l.length ∧ (posE seed l)[k] = (i : Int) := by
  have h := (posE_laid (seed := seed) hn).cell k (by rw [← posE_len seed l]; exact hk)
  rw [List.getD_eq_getElem?_getD, List.getElem?_eq_getElem hk, Option.getD_some] at h
  rcases h with h | ⟨i, hi, h⟩
  · exact .inl h
  · exact .inr ⟨i, List.mem_range.1 hi, h⟩
theorem celE_free {seed : Int} {l : List (Bts × Bts)} {k : Nat} (hk : k < (posE seed l).length) (h : (posE seed l)[k] < 0) : (celE seed l)[k]? = some none := by
  unfold celE
  rw [List.getElem?_map, List.getElem?_eq_getElem hk]
  simp [h]
theorem celE_full {seed : Int} {l : List (Bts × Bts)} {k i : Nat} (hk : k < (posE seed l).length) (h : (posE seed l)[k] = (i : Int)) (hi : i < (sortE seed l).length) : (celE seed l)[k]? = some (some (sortE seed l)[i]) := by
  unfold celE
  rw [List.getElem?_map, List.getElem?_eq_getElem hk]
  simp only [Option.map_some, h]
  rw [if_neg (by omega), Int.toNat_natCast, List.getD_eq_getElem?_getD, List.getElem?_eq_getElem hi, Option.getD_some]
/-- The bytes of a cell. -/
def cellB : Option (Bts × Bts) → Bts
  | none => [0]
  | some p => 1 :: told p.1 p.2
/-- The bytes of a table. -/
def imgT (seed : Int) (l : List (Bts × Bts)) : Bts := leI l.length 4 ++ (celE seed l).flatMap cellB
theorem imgT_perm {seed : Int} {l m : List (Bts × Bts)} (hk : Keyd l) (h : l.Perm m) : imgT seed l = imgT seed m := by
  unfold imgT
  rw [celE_perm hk h, h.length_eq]
def imgK (seed : Int) (l : List (Bts × Bts)) (k : Nat) : Bts := leI l.length 4 ++ ((celE seed l).take k).flatMap cellB
theorem imgK_zero (seed : Int) (l : List (Bts × Bts)) : imgK seed l 0 = leI l.length 4 := by simp [imgK]
theorem imgK_all (seed : Int) (l : List (Bts × Bts)) : imgK seed l (cellsN l.length) = imgT seed l := by
  unfold imgK imgT
  rw [List.take_of_length_le (by rw [celE_len]; exact Nat.le_refl _)]
theorem imgK_succ {seed : Int} {l : List (Bts × Bts)} {k : Nat} {x : Option (Bts × Bts)} (h : (celE seed l)[k]? = some x) : imgK seed l k ++ cellB x = imgK seed l (k + 1) := by
  unfold imgK
  rw [List.take_add_one, h, List.append_assoc]
  simp
theorem told_len (k v : Bts) : (told k v).length = 3 + k.length + v.length := by
  unfold told
  simp [leI_len]
  omega
theorem celE_ok {seed : Int} {l : List (Bts × Bts)} (hn : l.length ≤ 100000) (ok : ∀ p ∈ l, okP p) : ∀ x ∈ celE seed l, (cellB x).length ≤ 1068 := by
  intro x hx
  obtain ⟨k, hk, rfl⟩ := List.getElem_of_mem hx
  have hk' : k < (posE seed l).length := by rw [celE_len] at hk; rw [posE_len]; exact hk
  rcases posE_val hn hk' with h | ⟨i, hi, h⟩
  · have := celE_free hk' (by omega)
    rw [List.getElem?_eq_getElem hk] at this
    rw [Option.some.inj this]
    simp [cellB]
  · have hi' : i < (sortE seed l).length := by rw [sortE_len]; exact hi
    have := celE_full hk' h hi'
    rw [List.getElem?_eq_getElem hk] at this
    rw [Option.some.inj this]
    have o := ok _ ((sortE_perm seed l).mem_iff.1 (List.getElem_mem hi'))
    obtain ⟨_, o2, o3⟩ := o
    simp only [cellB, List.length_cons, told_len]
    omega
theorem flatMap_bound {α : Type} (f : α → Bts) (b : Nat) : ∀ (l : List α), (∀ x ∈ l, (f x).length ≤ b) → (l.flatMap f).length ≤ b * l.length
  | [], _ => by simp
  | x :: l, h => by
    have h1 := h x (by simp)
    have h2 := flatMap_bound f b l fun y hy => h y (by simp [hy])
    simp only [List.flatMap_cons, List.length_append, List.length_cons, Nat.mul_add]
    omega
theorem imgK_len {seed : Int} {l : List (Bts × Bts)} (hn : l.length ≤ 100000) (ok : ∀ p ∈ l, okP p) {k : Nat} (hk : k ≤ cellsN l.length) : (imgK seed l k).length ≤ 900000000 := by
  have h1 := flatMap_bound cellB 1068 ((celE seed l).take k) fun x hx => celE_ok hn ok x (List.mem_of_mem_take hx)
  have h2 : ((celE seed l).take k).length ≤ k := by rw [List.length_take]; omega
  have h3 : k ≤ 400000 := by
    obtain ⟨_, _, _, h, _⟩ := cellsN_spec hn
    omega
  unfold imgK
  rw [List.length_append, leI_len]
  have : 1068 * ((celE seed l).take k).length ≤ 1068 * k := Nat.mul_le_mul_left _ h2
  omega
end Go.Proofs.Ytaopjdjbpamhhaa
