/- Proved: texts of the families over slots, order and swap, joined: laws of memory and regions, contracts of functions, plain facts. Conditions: as each theorem says. -/
import Derived.Test.YtaopjdjbpamhhaaPkD
import Derived.LaidEqlPtr
import Derived.Test.YtaopjdjbpamhhaaPkF
import Derived.Test.YtaopjdjbpamhhaaPkA
import Derived.Test.YtaopjdjbpamhhaaPkC
import Derived.Deep.DeepCutAuto
import Derived.Test.YtaopjdjbpamhhaaPkM
import Derived.Lib.SlicesS
/- Proved: contract of the talk of a mirror (Mirror's closure), where a span has no node. Conditions: what TalkIn says. -/
namespace Go.Proofs.Ytaopjdjbpamhhaa
open Go Go.RowKit
set_option linter.unusedVariables false
set_option linter.unusedSimpArgs false

/-- The keys that go, and the pairs that come. -/
def gones (seed : Int) (u : Tr) : Tr → Bts → Bts → Bool → List Bts
  | .nil, low, high, bd => if sameAt seed u .nil low high bd = true then [] else spanKeys u.pairs low high bd
  | .nd l k v r, low, high, bd => if sameAt seed u (.nd l k v r) low high bd = true then [] else gones seed u l low k true ++ gones seed u r (k ++ [0]) high bd
def comes (seed : Int) (u : Tr) : Tr → Bts → Bts → Bool → List (Bts × Bts)
  | .nil, _, _, _ => []
  | .nd l k v r, low, high, bd => if sameAt seed u (.nd l k v r) low high bd = true then [] else (k, v) :: (comes seed u l low k true ++ comes seed u r (k ++ [0]) high bd)
theorem Own.obj {α : Type} {e : TypeId} {E : El α} {D : Nat → Prop} {B : Nat} {w : World} {v : Value} {l : List α} (h : Own e E D B w v l) {b : Nat} (hb : v.ownBlock = some b) : ∃ cur, w.heap[b]? = some (.cells cur e) := by
  obtain ⟨_, _, _, xs, ⟨_, h1⟩, _⟩ := h
  rcases h1 with ⟨rfl, _⟩ | ⟨g, cap, cur, rfl, _, hg, _⟩
  · cases hb
  · simp only [Value.ownBlock, Option.some.injEq] at hb
    subst hb
    exact ⟨cur, hg⟩
/-- A message in its box. -/
abbrev msgObj (vl vh : Value) (bd : Bool) (size dg : Int) (same : Bool) (vp : Value) : Obj := .cells #[vl, vh, .bool bd, .int .i64 size, .int .u64 dg, .bool same, vp] 97

theorem wp_app_list {α : Type} {E : El α} {P : Program} {w : World} {o : Oper} {a : Act} {Q : Exit → Act → World → Prop} {K : Act → World → Prop} (s x : Operand) (t : TypeId) (ho : o.op = .call { callee := .builtin .append, args := #[s, x], argTypes := #[t, t] })
    {e : TypeId} {bytes : Nat} {z : Value} (T : SlT P t e E.k bytes z) {D D' : Nat → Prop} {B : Nat} (v : Value) (l : List α) (hs : a.eval s = v) (hown : Own e E D B w v l)
    (vx : Value) (m : List α) (hx : a.eval x = vx) (hm : SV E D' w vx m) (hD : ∀ b, D' b → b < w.heap.size → D b ∧ v.ownBlock ≠ some b) (hbytes : (l.length + m.length) * bytes ≤ 140737488355328) (hb1 : 0 < bytes) (hbase : B ≤ w.heap.size)
    (h : ∀ v' w', Own e E D B w' v' (l ++ m) → Kept (fun k => v.ownBlock = some k) w w' → (∀ b, v'.ownBlock = some b → v.ownBlock = some b ∨ w.heap.size ≤ b) → K (a.put o.dst v') w') : o.wp P a w K Q := by
  obtain ⟨ao, c, rfl, ⟨hc, hn⟩, _, hr⟩ := hm
  obtain ⟨news, h1, h2⟩ := hr.cells
  exact wp_app s x t ho T v l hs hown ao c m hx hc hn news h1 h2 hD hbytes hb1 hbase fun v' w' k1 k2 k3 _ => h v' w' k1 k2 k3
theorem SV.nilv {α : Type} (E : El α) (D : Nat → Prop) (w : World) : SV E D w (.slice none 0 0) [] := ⟨none, 0, rfl, ⟨Nat.le_refl _, fun _ => rfl⟩, by simp, Rd.nil _ _ _ _⟩
/-- What a talk leaves. -/
def TalkPost (seed : Int) (u : Tr) (c : TK) (R : Nat → Prop) (vo vg vc : Value) (w : World) (ol : List Msg) (gl : List Bts) (cl : List (Bts × Bts)) (e : Ending) (w' : World) : Prop :=
  (∃ v, e = .returned v) ∧ ∃ R' vo' vg' vc', TalkIn seed u c R' vo' vg' vc' w' ol gl cl ∧ (∀ b, R b → R' b) ∧ Kept (TalkS c vo vg vc) w w' ∧
    ∀ b, (vo'.ownBlock = some b → vo.ownBlock = some b ∨ w.heap.size ≤ b) ∧ (vg'.ownBlock = some b → vg.ownBlock = some b ∨ w.heap.size ≤ b) ∧ (vc'.ownBlock = some b → vc.ownBlock = some b ∨ w.heap.size ≤ b)

set_option maxRecDepth 100000 in
set_option maxHeartbeats 4000000 in
theorem swMirror_1_nil {seed : Int} {u : Tr} {c : TK} (hg : Srt u.pairs) (hu : u.size ≤ 1000000) {R : Nat → Prop} {vo vg vc : Value} {w : World} {ol : List Msg} {gl : List Bts} {cl : List (Bts × Bts)} {lo hi : Value} {low high : Bts} {bd : Bool}
    (h : TalkIn seed u c R vo vg vc w ol gl cl) (h1 : BV R w lo low) (h2 : BV R w hi high) (b1 : ol.length ≤ 1000000) (b2 : gl.length ≤ 1000000000000) :
    Calls Try.prog 117 #[.agg #[lo, hi, .bool bd], .int .i64 (-1), bp c.q2, bp c.q3, bp c.q4, bp c.q5, bp c.q6, bp c.q7] w
      (TalkPost seed u c R vo vg vc w (ol ++ talk seed u .nil low high bd) (gl ++ gones seed u .nil low high bd) (cl ++ comes seed u .nil low high bd)) := by
  have H := Lib.hid h
  have H1 := Lib.hid h1
  have H2 := Lib.hid h2
  have HG := Lib.hid hg
  have HU := Lib.hid hu
  have BO := Lib.hid b1
  have BG := Lib.hid b2
  obtain ⟨a1, c1, rfl, _⟩ := h1
  obtain ⟨a2, c2, rfl, _⟩ := h2
  clear h hg hu b1 b2
  go_enter Try.func117, Try.ntmps117
  go_wp2_with fail
  (
  have G0 := heap_alloc_new w (.cells #[.slice a1 low.length c1, .slice a2 high.length c2, .bool bd] 170)
  have K0 := (Kept.refl Noneof w).alloc (.cells #[.slice a1 low.length c1, .slice a2 high.length c2, .bool bd] 170)
  have s0 : (w.alloc (.cells #[.slice a1 low.length c1, .slice a2 high.length c2, .bool bd] 170)).heap.size = w.heap.size + 1 := by simp
  generalize w.alloc (.cells #[.slice a1 low.length c1, .slice a2 high.length c2, .bool bd] 170) = w1 at *
  have G0 := Lib.hid G0
  have K0 := Lib.hid K0
  have S0 := Lib.hid s0
  clear s0
  refine wp_region_kept 10 [(2, .act IsSlice fun u wx => Own 5 byteEl Noneof w1.heap.size wx u low), (5, .act IsSlice fun u wx => Own 5 byteEl Noneof w1.heap.size wx u high), (9, .act IsPtr fun u wx => ∃ b, u = bp b ∧ w1.heap.size ≤ b ∧ wx.heap[b]? = some (msgObj (.slice none 0 0) (.slice none 0 0) false 0 0 false (.slice none 0 0)))] Noneof (by kernel_rfl) (by kernel_rfl) (by kernel_rfl) ?_; simp only [List.take_succ_cons, List.take_zero, List.drop_succ_cons, List.drop_zero]
  have hS : ∀ w', Kept Noneof w1 w' → w'.cell? ⟨w.heap.size, 0, none⟩ = some (.slice a1 low.length c1) ∧ w'.cell? ⟨w.heap.size, 1, none⟩ = some (.slice a2 high.length c2) ∧ w'.cell? ⟨w.heap.size, 2, none⟩ = some (.bool bd) := fun w' k => by
    have := k.obj (p := w.heap.size) (fun h => h) G0.out
    simp [World.cell?, this]
  iterate 2 (refine SeqL.val (v := ?_) hS rfl (by rfl) (fun wx hSw => ?_) ?_; rotate_left; (focus ((try dsimp only at hSw); go_simp; (try with_reducible rfl))); (try simp only [Act.put, List.setIfInBounds_toArray, List.set_cons_zero, List.set_cons_succ]))
  refine SeqL.act rfl rfl (by rfl) (by rfl) isSlice (fun wx hx hh K hK => ?_) (fun u1 hu1 => ?_)
  · go_simp
    refine (byClone_calls (H1.out.kept byteEl_k (K0.out.tr hx) fun _ _ _ h => h)).mono ?_
    rintro e w2 ⟨v', rfl, o1, k1⟩
    exact hK.out v' w2 o1.slice' k1 (o1.base hx.size)
  obtain ⟨p1, n1, d1, rfl⟩ := hu1
  (try simp only [Act.put, List.setIfInBounds_toArray, List.set_cons_zero, List.set_cons_succ])
  iterate 2 (refine SeqL.val (v := ?_) hS rfl (by rfl) (fun wx hSw => ?_) ?_; rotate_left; (focus ((try dsimp only at hSw); go_simp; (try with_reducible rfl))); (try simp only [Act.put, List.setIfInBounds_toArray, List.set_cons_zero, List.set_cons_succ]))
  refine SeqL.act rfl rfl (by rfl) (by rfl) isSlice (fun wx hx hh K hK => ?_) (fun u1 hu1 => ?_)
  · go_simp
    refine (byClone_calls (H2.out.kept byteEl_k (K0.out.tr hx) fun _ _ _ h => h)).mono ?_
    rintro e w2 ⟨v', rfl, o1, k1⟩
    exact hK.out v' w2 o1.slice' k1 (o1.base hx.size)
  obtain ⟨p2, n2, d2, rfl⟩ := hu1
  (try simp only [Act.put, List.setIfInBounds_toArray, List.set_cons_zero, List.set_cons_succ])
  iterate 3 (refine SeqL.val (v := ?_) hS rfl (by rfl) (fun wx hSw => ?_) ?_; rotate_left; (focus ((try dsimp only at hSw); go_simp; (try with_reducible rfl))); (try simp only [Act.put, List.setIfInBounds_toArray, List.set_cons_zero, List.set_cons_succ]))
  refine SeqL.act rfl rfl (by rfl) (by rfl) isPtr (fun wx hx hh K hK => ?_) (fun u1 hu1 => ?_)
  · go_simp
    exact hK.out _ _ ⟨_, rfl⟩ ((Kept.refl _ _).alloc _) ⟨_, rfl, hx.size, heap_alloc_new wx _⟩
  obtain ⟨bm, rfl⟩ := hu1
  (try simp only [Act.put, List.setIfInBounds_toArray, List.set_cons_zero, List.set_cons_succ])
  refine SeqL.nil fun wz hz hh => ?_
  obtain ⟨wa, _, oa, ka⟩ := hh 2 (by decide) _ _ _ rfl rfl
  obtain ⟨wb, _, ob, kb⟩ := hh 5 (by decide) _ _ _ rfl rfl
  obtain ⟨wc, _, oc, kc⟩ := hh 9 (by decide) _ _ _ rfl rfl
  have OA := Lib.hid (show Own 5 byteEl Noneof w1.heap.size wz (.slice p1 n1 d1) low from Own.kept oa ka fun _ h => h.elim)
  have OB := Lib.hid (show Own 5 byteEl Noneof w1.heap.size wz (.slice p2 n2 d2) high from Own.kept ob kb fun _ h => h.elim)
  have hbm : w1.heap.size ≤ bm ∧ wz.heap[bm]? = some (msgObj (.slice none 0 0) (.slice none 0 0) false 0 0 false (.slice none 0 0)) := by
    obtain ⟨b', e1, e2, e3⟩ := oc
    have e1 : bp bm = bp b' := e1
    simp only [bp, Value.pointer.injEq, Option.some.injEq, Addr.mk.injEq, and_true] at e1
    subst e1
    exact ⟨e2, kc.obj (fun h => h) e3⟩
  obtain ⟨hbm, gm⟩ := hbm
  have HBM := Lib.hid hbm
  have GM := Lib.hid gm
  have KZ := Lib.hid (K0.out.tr hz)
  have KS := Lib.hid hz
  clear hh hS oa ob oc ka kb kc hz hbm
  have m0 : wz.cell? ⟨bm, 0, none⟩ = some (.slice none 0 0) := by simp [World.cell?, gm]
  have m1 : wz.cell? ⟨bm, 1, none⟩ = some (.slice none 0 0) := by simp [World.cell?, gm]
  have m2 : wz.cell? ⟨bm, 2, none⟩ = some (.bool false) := by simp [World.cell?, gm]
  have m3 : wz.cell? ⟨bm, 3, none⟩ = some (.int .i64 0) := by simp [World.cell?, gm]
  have m4 : wz.cell? ⟨bm, 4, none⟩ = some (.int .u64 0) := by simp [World.cell?, gm]
  have m5 : wz.cell? ⟨bm, 5, none⟩ = some (.bool false) := by simp [World.cell?, gm]
  have m6 : wz.cell? ⟨bm, 6, none⟩ = some (.slice none 0 0) := by simp [World.cell?, gm]
  have mf : ∀ j, wz.frozen? ⟨bm, j, none⟩ = false := fun j => by simp [World.frozen?, gm]
  clear gm
  have TZ := Lib.hid (H.out.kept0 KZ.out)
  have z3 : wz.cell? ⟨c.q3, 0, none⟩ = some (bp c.m2) := by simp [World.cell?, TZ.out.h3]
  have z2 : wz.cell? ⟨c.q2, 0, none⟩ = some c.vn := by simp [World.cell?, TZ.out.h2]
  have gz := KZ.out.block
  have hz0 : wz.heap[w.heap.size]? = some (.cells #[.slice a1 low.length c1, .slice a2 high.length c2, .bool bd] 170) := KS.out.obj (fun h => h) G0.out
  have y0 : wz.cell? ⟨w.heap.size, 0, none⟩ = some (.slice a1 low.length c1) := by simp [World.cell?, hz0]
  have y1 : wz.cell? ⟨w.heap.size, 1, none⟩ = some (.slice a2 high.length c2) := by simp [World.cell?, hz0]
  have y2 : wz.cell? ⟨w.heap.size, 2, none⟩ = some (.bool bd) := by simp [World.cell?, hz0]
  have HZ0 := Lib.hid hz0
  have hbm1 : bm ≠ w.heap.size := by have := HBM.out; have := S0.out; omega
  have hbm2 : bm ≠ c.q3 := by have := HBM.out; have := S0.out; have := H.out.lt; have := H.out.hB; omega
  have hbm3 : bm ≠ c.q2 := by have := HBM.out; have := S0.out; have := H.out.lt; have := H.out.hB; omega
  clear gz hz0)
  go_wp2_with fail
  (
  have MS := (((((((Kept.refl (fun b => b = bm) wz).setCell (p := ⟨bm, 0, none⟩) (.inl rfl) (.slice p1 n1 d1)).setCell (p := ⟨bm, 1, none⟩) (.inl rfl) (.slice p2 n2 d2)).setCell (p := ⟨bm, 2, none⟩) (.inl rfl) (.bool bd)).setCell (p := ⟨bm, 3, none⟩) (.inl rfl) (.int .i64 0)).setCell (p := ⟨bm, 4, none⟩) (.inl rfl) (.int .u64 0)).setCell (p := ⟨bm, 5, none⟩) (.inl rfl) (.bool false)).setCell (p := ⟨bm, 6, none⟩) (.inl rfl) (.slice none 0 0)
  have GM5 := setCell_obj (setCell_obj (setCell_obj (setCell_obj (setCell_obj (setCell_obj (setCell_obj GM.out (.slice p1 n1 d1) (j := 0)) (.slice p2 n2 d2) (j := 1)) (.bool bd) (j := 2)) (.int .i64 0) (j := 3)) (.int .u64 0) (j := 4)) (.bool false) (j := 5)) (.slice none 0 0) (j := 6)
  generalize ((((((wz.setCell ⟨bm, 0, none⟩ (.slice p1 n1 d1)).setCell ⟨bm, 1, none⟩ (.slice p2 n2 d2)).setCell ⟨bm, 2, none⟩ (.bool bd)).setCell ⟨bm, 3, none⟩ (.int .i64 0)).setCell ⟨bm, 4, none⟩ (.int .u64 0)).setCell ⟨bm, 5, none⟩ (.bool false)).setCell ⟨bm, 6, none⟩ (.slice none 0 0) = w5 at *
  have GM5 := Lib.hid (show w5.heap[bm]? = some (msgObj (.slice p1 n1 d1) (.slice p2 n2 d2) bd 0 0 false (.slice none 0 0)) from GM5)
  have lT := Lib.hid (show c.B ≤ bm ∧ ¬ R bm ∧ (vo : Value).ownBlock ≠ some bm ∧ (vg : Value).ownBlock ≠ some bm ∧ (vc : Value).ownBlock ≠ some bm from by
    have hh := H.out
    have e1 := HBM.out
    have e2 := S0.out
    have e3 := hh.hB
    exact ⟨by omega, fun e => by have := (hh.hR bm e).1; omega, fun e => by have := (hh.ho.lt bm e).2; omega, fun e => by have := (hh.hg.lt bm e).2; omega, fun e => by have := (hh.hc.lt bm e).2; omega⟩)
  have T5 := Lib.hid (TZ.out.kept MS fun b e => by subst e; exact lT.out)
  have nA := Lib.hid (show (Value.slice p1 n1 d1).ownBlock ≠ some bm from fun e => by
    obtain ⟨cur, hc⟩ := OA.out.obj e
    have := hc.symm.trans GM.out
    simp [msgObj] at this)
  have nB := Lib.hid (show (Value.slice p2 n2 d2).ownBlock ≠ some bm from fun e => by
    obtain ⟨cur, hc⟩ := OB.out.obj e
    have := hc.symm.trans GM.out
    simp [msgObj] at this)
  have OA5 := Lib.hid (OA.out.kept MS fun b hb _ => ⟨fun h => h.elim, fun e => by have hb : b = bm := hb; subst hb; exact nA.out e⟩)
  have OB5 := Lib.hid (OB.out.kept MS fun b hb _ => ⟨fun h => h.elim, fun e => by have hb : b = bm := hb; subst hb; exact nB.out e⟩)
  have K5 := Lib.hid (KZ.out.trans MS fun b e => .inr (by have := HBM.out; have := S0.out; omega))
  have Y5 := Lib.hid (MS.obj (p := w.heap.size) (fun e => hbm1 e.symm) HZ0.out)
  clear MS m0 m1 m2 m3 m4 m5 m6 mf z3 z2 y0 y1 y2 OA OB TZ GM KZ HZ0 KS)
  (
  refine (orSpanDigest_calls (seed := seed) (t := u) T5.out.hm (H1.out.kept byteEl_k K5.out fun _ _ _ h => h) (H2.out.kept byteEl_k K5.out fun _ _ _ h => h)).mono ?_
  rintro e w6 ⟨rfl, k6⟩
  have T6 := Lib.hid (T5.out.kept0 k6)
  have OA6 := Lib.hid (OA5.out.kept k6 fun _ h => h.elim)
  have OB6 := Lib.hid (OB5.out.kept k6 fun _ h => h.elim)
  have GM6 := Lib.hid (k6.obj (fun h => h) GM5.out)
  have K6 := Lib.hid (K5.out.trans k6 fun _ h => h.elim)
  have Y6 := Lib.hid (k6.obj (fun h => h) Y5.out)
  clear k6 T5 OA5 OB5 GM5 K5 Y5
  have gm6 := GM6.out
  have m0 : w6.cell? ⟨bm, 0, none⟩ = some (.slice p1 n1 d1) := by simp [World.cell?, gm6]
  have m1 : w6.cell? ⟨bm, 1, none⟩ = some (.slice p2 n2 d2) := by simp [World.cell?, gm6]
  have m2 : w6.cell? ⟨bm, 2, none⟩ = some (.bool bd) := by simp [World.cell?, gm6]
  have m3 : w6.cell? ⟨bm, 3, none⟩ = some (.int .i64 0) := by simp [World.cell?, gm6]
  have m4 : w6.cell? ⟨bm, 4, none⟩ = some (.int .u64 0) := by simp [World.cell?, gm6]
  have m5 : w6.cell? ⟨bm, 5, none⟩ = some (.bool false) := by simp [World.cell?, gm6]
  have m6 : w6.cell? ⟨bm, 6, none⟩ = some (.slice none 0 0) := by simp [World.cell?, gm6]
  have mf : ∀ j, w6.frozen? ⟨bm, j, none⟩ = false := fun j => by simp [World.frozen?, gm6]
  have y6 := Y6.out
  have y0 : w6.cell? ⟨w.heap.size, 0, none⟩ = some (.slice a1 low.length c1) := by simp [World.cell?, y6]
  have y1 : w6.cell? ⟨w.heap.size, 1, none⟩ = some (.slice a2 high.length c2) := by simp [World.cell?, y6]
  have y2 : w6.cell? ⟨w.heap.size, 2, none⟩ = some (.bool bd) := by simp [World.cell?, y6]
  have z4 : w6.cell? ⟨c.q4, 0, none⟩ = some vo := by simp [World.cell?, T6.out.h4]
  have z5 : w6.cell? ⟨c.q5, 0, none⟩ = some vg := by simp [World.cell?, T6.out.h5]
  have z3 : w6.cell? ⟨c.q3, 0, none⟩ = some (bp c.m2) := by simp [World.cell?, T6.out.h3]
  have z2 : w6.cell? ⟨c.q2, 0, none⟩ = some c.vn := by simp [World.cell?, T6.out.h2]
  have hbm4 : bm ≠ c.q4 := by have := HBM.out; have := S0.out; have := H.out.lt; have := H.out.hB; omega
  have hbm5 : bm ≠ c.q5 := by have := HBM.out; have := S0.out; have := H.out.lt; have := H.out.hB; omega
  clear gm6 y6)
  have e1 : ((((u.cut low true high bd).size : Nat) : Int) == 0) = ((u.cut low true high bd).size == 0) := by
    cases h : (u.cut low true high bd).size <;> simp <;> omega
  cases g1 : ((u.cut low true high bd).size == 0) with
  | false =>
    rw [g1] at e1
    have hs : sameAt seed u .nil low high bd = false := by unfold sameAt; rw [show Tr.nil.size = 0 from rfl, g1]; rfl
    (
    have M7 := (Kept.refl (fun b => b = bm) w6).setCell (p := ⟨bm, 5, none⟩) (.inl rfl) (.bool false)
    have T7 := T6.out.kept M7 fun b e => by subst e; exact lT.out
    have OA7 := OA6.out.kept M7 fun b hb _ => ⟨fun h => h.elim, fun e => by have hb : b = bm := hb; subst hb; exact nA.out e⟩
    have OB7 := OB6.out.kept M7 fun b hb _ => ⟨fun h => h.elim, fun e => by have hb : b = bm := hb; subst hb; exact nB.out e⟩
    have GM7 := setCell_obj GM6.out (.bool false) (j := 5)
    have A7 := (Kept.refl Noneof (w6.setCell ⟨bm, 5, none⟩ (.bool false))).alloc (msgObj (.slice p1 n1 d1) (.slice p2 n2 d2) bd 0 0 false (.slice none 0 0))
    have G8 := heap_alloc_new (w6.setCell ⟨bm, 5, none⟩ (.bool false)) (msgObj (.slice p1 n1 d1) (.slice p2 n2 d2) bd 0 0 false (.slice none 0 0))
    rw [show (w6.setCell ⟨bm, 5, none⟩ (.bool false)).heap.size = w6.heap.size by simp] at G8
    have G8 := Lib.hid G8
    have OA8 := Lib.hid (OA7.kept A7 fun _ h => h.elim)
    have OB8 := Lib.hid (OB7.kept A7 fun _ h => h.elim)
    have GM8 := Lib.hid (A7.obj (fun h => h) GM7)
    have K8 := Lib.hid ((K6.out.trans M7 fun b e => .inr (by have := HBM.out; have := S0.out; omega)).trans A7 fun _ h => h.elim)
    have T8 := Lib.hid ((T7.kept0 A7).wide (R' := fun b => R b ∨ (Value.slice p1 n1 d1).ownBlock = some b ∨ (Value.slice p2 n2 d2).ownBlock = some b) (fun b h => .inl h) (by
      have t := H.out
      have e3 := t.hB
      have e2 := S0.out
      have la := OA8.out.lt
      have lb := OB8.out.lt
      have far : ∀ b, w1.heap.size ≤ b → b < ((w6.setCell ⟨bm, 5, none⟩ (.bool false)).alloc (msgObj (.slice p1 n1 d1) (.slice p2 n2 d2) bd 0 0 false (.slice none 0 0))).heap.size → b < ((w6.setCell ⟨bm, 5, none⟩ (.bool false)).alloc (msgObj (.slice p1 n1 d1) (.slice p2 n2 d2) bd 0 0 false (.slice none 0 0))).heap.size ∧ c.B ≤ b ∧ vo.ownBlock ≠ some b ∧ vg.ownBlock ≠ some b ∧ vc.ownBlock ≠ some b := fun b h1 h2 => ⟨h2, by omega, fun e => by have := (t.ho.lt b e).2; omega, fun e => by have := (t.hg.lt b e).2; omega, fun e => by have := (t.hc.lt b e).2; omega⟩
      rintro b (h | h | h)
      · exact .inl h
      · exact .inr (far b (la b h).1 (la b h).2)
      · exact .inr (far b (lb b h).1 (lb b h).2)))
    have hR8 := Lib.hid T8.out.hR
    have hB8 := T8.out.hB
    have bo := BO.out
    have BLA := Lib.hid (OA8.out.rd (D' := fun b => R b ∨ (Value.slice p1 n1 d1).ownBlock = some b ∨ (Value.slice p2 n2 d2).ownBlock = some b) (fun _ h => h.elim) fun b h => .inr (.inl h))
    have BLB := Lib.hid (OB8.out.rd (D' := fun b => R b ∨ (Value.slice p1 n1 d1).ownBlock = some b ∨ (Value.slice p2 n2 d2).ownBlock = some b) (fun _ h => h.elim) fun b h => .inr (.inr h))
    have HB8 := Lib.hid hB8
    have hby : (ol.length + 1) * 104 ≤ 140737488355328 := by omega
    clear M7 T7 OA7 OB7 GM7 A7 hB8 bo
    go_wp2_with (at_builtin; refine wl_app_one (E := msgEl) rfl (.tmp 68) (.tmp 70) _ rfl tMsgs (D' := fun b => R b ∨ (Value.slice p1 n1 d1).ownBlock = some b ∨ (Value.slice p2 n2 d2).ownBlock = some b) vo ol rfl T8.out.ho w6.heap.size _ ⟨low, high, bd, 0, 0, false, []⟩ rfl ⟨_, _, G8.out⟩ ⟨_, _, _, rfl, BLA.out, BLB.out, SV.nilv _ _ _⟩ (fun b h _ => ⟨h, (hR8.out b h).2.2.1⟩) hby (by decide) HB8.out ?_)
    intro v9 w9 o9 k9 hb9
    have hb9 : ∀ b, v9.ownBlock = some b → vo.ownBlock = some b ∨ ((w6.setCell ⟨bm, 5, none⟩ (.bool false)).alloc (msgObj (.slice p1 n1 d1) (.slice p2 n2 d2) bd 0 0 false (.slice none 0 0))).heap.size ≤ b := fun b e => by have := hb9 b e; simpa using this
    have T9 := Lib.hid (T8.out.say k9 o9 hb9)
    have LV := Lib.hid o9.lt
    obtain ⟨a9, n9, c9, rfl⟩ := o9.slice'
    have no9 : ∀ b, b < c.B → vo.ownBlock ≠ some b := fun b hb e => by have := (T8.out.ho.lt b e).1; omega
    have q9 : w9.heap[c.q4]? = some (.cells #[vo] 85) := k9.obj (no9 _ T8.out.lt.2.2.1) T8.out.h4
    have z9 : w9.cell? ⟨c.q4, 0, none⟩ = some vo := by simp [World.cell?, q9]
    have f9 : w9.frozen? ⟨c.q4, 0, none⟩ = false := by simp [World.frozen?, q9]
    have gm9 := k9.obj (p := bm) lT.out.2.2.1 GM8.out
    have m9 : w9.cell? ⟨bm, 5, none⟩ = some (.bool false) := by simp [World.cell?, gm9]
    have K9 := Lib.hid ((K8.out.mono (T := TalkS c vo vg vc) fun _ h => h.elim).trans k9 fun b h => .inl (.inr (.inr (.inr (.inl h)))))
    have K9' := Lib.hid (K9.out.setCell (p := ⟨c.q4, 0, none⟩) (.inl (.inl rfl)) (.slice a9 n9 c9))
    have HB9 := Lib.hid hb9
    have Y9 := Lib.hid (k9.obj (p := w.heap.size) (fun e => by have := (H.out.ho.lt _ e).2; omega) (((Kept.refl Noneof (w6.setCell ⟨bm, 5, none⟩ (.bool false))).alloc (msgObj (.slice p1 n1 d1) (.slice p2 n2 d2) bd 0 0 false (.slice none 0 0))).obj (fun h => h) (((Kept.refl (fun b => b = bm) w6).setCell (p := ⟨bm, 5, none⟩) (.inl rfl) (.bool false)).obj (p := w.heap.size) (fun e => hbm1 e.symm) Y6.out)))
    clear o9 k9 hb9 q9 gm9 no9)
    go_wp2_with fail
    (
    have KQ := (Kept.refl (fun b => b = c.q4) w9).setCell (p := ⟨c.q4, 0, none⟩) (.inl rfl) (.slice a9 n9 c9)
    have Y10 := Lib.hid (KQ.obj (p := w.heap.size) (by have := H.out.lt; have := H.out.hB; omega) Y9.out)
    generalize w9.setCell ⟨c.q4, 0, none⟩ (.slice a9 n9 c9) = w10 at *
    have T10 := T9
    have K10 := K9'
    clear KQ z9 f9 m9 K9 T9 K9' Y9
    have h10 := T10.out
    have z5' : w10.cell? ⟨c.q5, 0, none⟩ = some vg := by simp [World.cell?, h10.h5]
    have z3' : w10.cell? ⟨c.q3, 0, none⟩ = some (bp c.m2) := by simp [World.cell?, h10.h3]
    have y10 := Y10.out
    have y0' : w10.cell? ⟨w.heap.size, 0, none⟩ = some (.slice a1 low.length c1) := by simp [World.cell?, y10]
    have y1' : w10.cell? ⟨w.heap.size, 1, none⟩ = some (.slice a2 high.length c2) := by simp [World.cell?, y10]
    have y2' : w10.cell? ⟨w.heap.size, 2, none⟩ = some (.bool bd) := by simp [World.cell?, y10]
    have HW6 := Lib.hid (show w.heap.size ≤ w6.heap.size from K6.out.size)
    clear h10 y10 m0 m1 m2 m3 m4 m5 m6 mf y0 y1 y2 z2 z3 z4 z5
    refine wp_region_chain 5 [3, 4] (fun w' => w'.cell? ⟨c.q5, 0, none⟩ = some vg ∧ w'.cell? ⟨c.q3, 0, none⟩ = some (bp c.m2) ∧ w'.cell? ⟨w.heap.size, 0, none⟩ = some (.slice a1 low.length c1) ∧ w'.cell? ⟨w.heap.size, 1, none⟩ = some (.slice a2 high.length c2) ∧ w'.cell? ⟨w.heap.size, 2, none⟩ = some (.bool bd)) (by kernel_rfl) (by kernel_rfl) ?_ ?_
    · exact ⟨z5', z3', y0', y1', y2'⟩
    simp only [List.take_succ_cons, List.take_zero, List.drop_succ_cons, List.drop_zero]
    iterate 3 (refine SeqY.val (v := ?_) (by rfl) (by rfl) (fun wx hSw => ?_) ?_; rotate_left; (focus ((try dsimp only at hSw); go_simp; (try with_reducible rfl))); (try simp only [Act.put, List.setIfInBounds_toArray, List.set_cons_zero, List.set_cons_succ]))
    refine SeqY.act (by rfl) rfl (by rfl) (by rfl) (fun K hK => ?_)
    go_simp
    have nS : ∀ b, R b → b < w.heap.size → ¬ TalkS c vo vg vc b := fun b hb _ e => by
      have := H.out.hR b hb
      rcases e with e | e | e | e | e | e
      · exact this.2.1.1 e
      · exact this.2.1.2.1 e
      · exact this.2.1.2.2 e
      · exact this.2.2.1 e
      · exact this.2.2.2.1 e
      · exact this.2.2.2.2 e
    refine (swkeys_calls (w := w10.drew) (T10.out.hm.at rfl) HU.out HG.out ((H1.out.kept byteEl_k K10.out nS).at rfl) ((H2.out.kept byteEl_k K10.out nS).at rfl)).mono ?_
    rintro e w11 ⟨v11, rfl, o11, k11⟩
    have k11 : Kept Noneof w10 w11 := ⟨k11.os, k11.tape, k11.output, k11.size, k11.block⟩
    have o11 : Own 31 bytesEl (fun b => w10.heap.size ≤ b) w10.heap.size w11 v11 (spanKeys u.pairs low high bd) := o11
    refine hK.out _ _ ⟨k11.cell (p := ⟨c.q5, 0, none⟩) (fun h => h) z5', k11.cell (p := ⟨c.q3, 0, none⟩) (fun h => h) z3', k11.cell (p := ⟨w.heap.size, 0, none⟩) (fun h => h) y0', k11.cell (p := ⟨w.heap.size, 1, none⟩) (fun h => h) y1', k11.cell (p := ⟨w.heap.size, 2, none⟩) (fun h => h) y2'⟩ ?_
    have t10 := T10.out
    have T11 := Lib.hid ((t10.kept0 k11).wide (R' := fun b => (R b ∨ (Value.slice p1 n1 d1).ownBlock = some b ∨ (Value.slice p2 n2 d2).ownBlock = some b) ∨ w10.heap.size ≤ b ∧ b < w11.heap.size) (fun b h => .inl h) fun b h => h.imp id fun h => ⟨h.2, by have := t10.hB; omega, fun e => by have := (t10.ho.lt b e).2; omega, fun e => by have := (t10.hg.lt b e).2; omega, fun e => by have := (t10.hc.lt b e).2; omega⟩)
    have S11 := Lib.hid (show SV bytesEl (fun b => w10.heap.size ≤ b ∧ b < w11.heap.size) w11 v11 (spanKeys u.pairs low high bd) from (o11.sv.bd bytesEl_k).wide bytesEl_k fun b h _ => by omega)
    have K11 := Lib.hid (K10.out.trans k11 fun _ h => h.elim)
    have K11n := Lib.hid k11
    have hkl : (spanKeys u.pairs low high bd).length ≤ 1000000 := by
      unfold spanKeys
      rw [List.length_map]
      exact Nat.le_trans (List.length_filter_le _ _) (by rw [Tr.pairs_len]; exact HU.out)
    have hby2 : (gl.length + (spanKeys u.pairs low high bd).length) * 24 ≤ 140737488355328 := by have := BG.out; omega
    have hR11 := Lib.hid T11.out.hR
    obtain ⟨a11, n11, c11, rfl⟩ := o11.slice'
    have hs10 := k11.size
    clear K hK o11 k11 t10 nS
    (try simp only [Act.put, List.setIfInBounds_toArray, List.set_cons_zero, List.set_cons_succ])
    refine SeqY.act (by rfl) rfl (by rfl) (by rfl) (fun K hK => ?_)
    refine wp_app_list (E := bytesEl) (.tmp 75) (.tmp 78) _ rfl tRows (D' := fun b => w10.heap.size ≤ b ∧ b < w11.heap.size) vg gl rfl T11.out.hg _ _ rfl S11.out (fun b h _ => ⟨.inr h, (hR11.out b (.inr h)).2.2.2.1⟩) hby2 (by decide) T11.out.hB ?_
    intro v12 w12 o12 k12 hb12
    have t11 := T11.out
    have lg := t11.hg.lt
    have lt := t11.lt
    have T12 := Lib.hid (t11.go k12 o12 hb12)
    have ng : ∀ b, b < c.B → vg.ownBlock ≠ some b := fun b hb e => by have := (lg b e).1; omega
    have nw : vg.ownBlock ≠ some w.heap.size := fun e => by have := (H.out.hg.lt _ e).2; omega
    have h5 := k12.obj (ng _ lt.2.2.2.1) t11.h5
    have h3 := k12.obj (ng _ lt.2.1) t11.h3
    have y12 := k12.obj (p := w.heap.size) nw (K11n.out.obj (fun h => h) Y10.out)
    have z12 : w12.cell? ⟨c.q5, 0, none⟩ = some vg := by simp [World.cell?, h5]
    have f12 : w12.frozen? ⟨c.q5, 0, none⟩ = false := by simp [World.frozen?, h5]
    refine hK.out _ _ ⟨z12, by simp [World.cell?, h3], by simp [World.cell?, y12], by simp [World.cell?, y12], by simp [World.cell?, y12]⟩ ?_
    have K12 := Lib.hid (K11.out.trans k12 fun b h => .inl (.inr (.inr (.inr (.inr (.inl h))))))
    obtain ⟨a12, n12, c12, rfl⟩ := o12.slice'
    have HB12 := Lib.hid hb12
    clear K hK o12 k12 t11 h5 h3 y12 hb12
    (try simp only [Act.put, List.setIfInBounds_toArray, List.set_cons_zero, List.set_cons_succ])
    refine SeqY.nil ?_
    go_wp2
    refine bodyPost_ret (results_none rfl _ _ _) rfl ?_
    have q1 : talk seed u .nil low high bd = [⟨low, high, bd, 0, 0, false, []⟩] := by simp only [talk, hs]
    have q2 : gones seed u .nil low high bd = spanKeys u.pairs low high bd := by simp only [gones, hs, if_neg, Bool.false_eq_true, not_false_eq_true]
    have q3 : comes seed u .nil low high bd = [] := rfl
    rw [q1, q2, q3, List.append_nil]
    have TF := T12.out
    have hw := HW6.out
    have hw10 := K10.out.size
    exact ⟨⟨_, rfl⟩, _, _, _, vc, TF, fun b h => .inl (.inl h), K12.out.setCell (p := ⟨c.q5, 0, none⟩) (.inl (.inr (.inl rfl))) _, fun b => ⟨fun e => (HB9.out b e).imp id fun h => by have := K8.out.size; omega, fun e => (HB12.out b e).imp id fun h => by omega, fun h => .inl h⟩⟩)
  | true =>
    rw [g1] at e1
    cases g2 : ((u.cut low true high bd).dg seed == 0) with
    | false =>
      have hs : sameAt seed u .nil low high bd = false := by unfold sameAt; rw [show Tr.nil.size = 0 from rfl, show Tr.dg seed Tr.nil = 0 from rfl, g1, g2]; rfl
      (
    have M7 := (Kept.refl (fun b => b = bm) w6).setCell (p := ⟨bm, 5, none⟩) (.inl rfl) (.bool false)
    have T7 := T6.out.kept M7 fun b e => by subst e; exact lT.out
    have OA7 := OA6.out.kept M7 fun b hb _ => ⟨fun h => h.elim, fun e => by have hb : b = bm := hb; subst hb; exact nA.out e⟩
    have OB7 := OB6.out.kept M7 fun b hb _ => ⟨fun h => h.elim, fun e => by have hb : b = bm := hb; subst hb; exact nB.out e⟩
    have GM7 := setCell_obj GM6.out (.bool false) (j := 5)
    have A7 := (Kept.refl Noneof (w6.setCell ⟨bm, 5, none⟩ (.bool false))).alloc (msgObj (.slice p1 n1 d1) (.slice p2 n2 d2) bd 0 0 false (.slice none 0 0))
    have G8 := heap_alloc_new (w6.setCell ⟨bm, 5, none⟩ (.bool false)) (msgObj (.slice p1 n1 d1) (.slice p2 n2 d2) bd 0 0 false (.slice none 0 0))
    rw [show (w6.setCell ⟨bm, 5, none⟩ (.bool false)).heap.size = w6.heap.size by simp] at G8
    have G8 := Lib.hid G8
    have OA8 := Lib.hid (OA7.kept A7 fun _ h => h.elim)
    have OB8 := Lib.hid (OB7.kept A7 fun _ h => h.elim)
    have GM8 := Lib.hid (A7.obj (fun h => h) GM7)
    have K8 := Lib.hid ((K6.out.trans M7 fun b e => .inr (by have := HBM.out; have := S0.out; omega)).trans A7 fun _ h => h.elim)
    have T8 := Lib.hid ((T7.kept0 A7).wide (R' := fun b => R b ∨ (Value.slice p1 n1 d1).ownBlock = some b ∨ (Value.slice p2 n2 d2).ownBlock = some b) (fun b h => .inl h) (by
      have t := H.out
      have e3 := t.hB
      have e2 := S0.out
      have la := OA8.out.lt
      have lb := OB8.out.lt
      have far : ∀ b, w1.heap.size ≤ b → b < ((w6.setCell ⟨bm, 5, none⟩ (.bool false)).alloc (msgObj (.slice p1 n1 d1) (.slice p2 n2 d2) bd 0 0 false (.slice none 0 0))).heap.size → b < ((w6.setCell ⟨bm, 5, none⟩ (.bool false)).alloc (msgObj (.slice p1 n1 d1) (.slice p2 n2 d2) bd 0 0 false (.slice none 0 0))).heap.size ∧ c.B ≤ b ∧ vo.ownBlock ≠ some b ∧ vg.ownBlock ≠ some b ∧ vc.ownBlock ≠ some b := fun b h1 h2 => ⟨h2, by omega, fun e => by have := (t.ho.lt b e).2; omega, fun e => by have := (t.hg.lt b e).2; omega, fun e => by have := (t.hc.lt b e).2; omega⟩
      rintro b (h | h | h)
      · exact .inl h
      · exact .inr (far b (la b h).1 (la b h).2)
      · exact .inr (far b (lb b h).1 (lb b h).2)))
    have hR8 := Lib.hid T8.out.hR
    have hB8 := T8.out.hB
    have bo := BO.out
    have BLA := Lib.hid (OA8.out.rd (D' := fun b => R b ∨ (Value.slice p1 n1 d1).ownBlock = some b ∨ (Value.slice p2 n2 d2).ownBlock = some b) (fun _ h => h.elim) fun b h => .inr (.inl h))
    have BLB := Lib.hid (OB8.out.rd (D' := fun b => R b ∨ (Value.slice p1 n1 d1).ownBlock = some b ∨ (Value.slice p2 n2 d2).ownBlock = some b) (fun _ h => h.elim) fun b h => .inr (.inr h))
    have HB8 := Lib.hid hB8
    have hby : (ol.length + 1) * 104 ≤ 140737488355328 := by omega
    clear M7 T7 OA7 OB7 GM7 A7 hB8 bo
    go_wp2_with (at_builtin; refine wl_app_one (E := msgEl) rfl (.tmp 68) (.tmp 70) _ rfl tMsgs (D' := fun b => R b ∨ (Value.slice p1 n1 d1).ownBlock = some b ∨ (Value.slice p2 n2 d2).ownBlock = some b) vo ol rfl T8.out.ho w6.heap.size _ ⟨low, high, bd, 0, 0, false, []⟩ rfl ⟨_, _, G8.out⟩ ⟨_, _, _, rfl, BLA.out, BLB.out, SV.nilv _ _ _⟩ (fun b h _ => ⟨h, (hR8.out b h).2.2.1⟩) hby (by decide) HB8.out ?_)
    intro v9 w9 o9 k9 hb9
    have hb9 : ∀ b, v9.ownBlock = some b → vo.ownBlock = some b ∨ ((w6.setCell ⟨bm, 5, none⟩ (.bool false)).alloc (msgObj (.slice p1 n1 d1) (.slice p2 n2 d2) bd 0 0 false (.slice none 0 0))).heap.size ≤ b := fun b e => by have := hb9 b e; simpa using this
    have T9 := Lib.hid (T8.out.say k9 o9 hb9)
    have LV := Lib.hid o9.lt
    obtain ⟨a9, n9, c9, rfl⟩ := o9.slice'
    have no9 : ∀ b, b < c.B → vo.ownBlock ≠ some b := fun b hb e => by have := (T8.out.ho.lt b e).1; omega
    have q9 : w9.heap[c.q4]? = some (.cells #[vo] 85) := k9.obj (no9 _ T8.out.lt.2.2.1) T8.out.h4
    have z9 : w9.cell? ⟨c.q4, 0, none⟩ = some vo := by simp [World.cell?, q9]
    have f9 : w9.frozen? ⟨c.q4, 0, none⟩ = false := by simp [World.frozen?, q9]
    have gm9 := k9.obj (p := bm) lT.out.2.2.1 GM8.out
    have m9 : w9.cell? ⟨bm, 5, none⟩ = some (.bool false) := by simp [World.cell?, gm9]
    have K9 := Lib.hid ((K8.out.mono (T := TalkS c vo vg vc) fun _ h => h.elim).trans k9 fun b h => .inl (.inr (.inr (.inr (.inl h)))))
    have K9' := Lib.hid (K9.out.setCell (p := ⟨c.q4, 0, none⟩) (.inl (.inl rfl)) (.slice a9 n9 c9))
    have HB9 := Lib.hid hb9
    have Y9 := Lib.hid (k9.obj (p := w.heap.size) (fun e => by have := (H.out.ho.lt _ e).2; omega) (((Kept.refl Noneof (w6.setCell ⟨bm, 5, none⟩ (.bool false))).alloc (msgObj (.slice p1 n1 d1) (.slice p2 n2 d2) bd 0 0 false (.slice none 0 0))).obj (fun h => h) (((Kept.refl (fun b => b = bm) w6).setCell (p := ⟨bm, 5, none⟩) (.inl rfl) (.bool false)).obj (p := w.heap.size) (fun e => hbm1 e.symm) Y6.out)))
    clear o9 k9 hb9 q9 gm9 no9)
      go_wp2_with fail
      (
    have KQ := (Kept.refl (fun b => b = c.q4) w9).setCell (p := ⟨c.q4, 0, none⟩) (.inl rfl) (.slice a9 n9 c9)
    have Y10 := Lib.hid (KQ.obj (p := w.heap.size) (by have := H.out.lt; have := H.out.hB; omega) Y9.out)
    generalize w9.setCell ⟨c.q4, 0, none⟩ (.slice a9 n9 c9) = w10 at *
    have T10 := T9
    have K10 := K9'
    clear KQ z9 f9 m9 K9 T9 K9' Y9
    have h10 := T10.out
    have z5' : w10.cell? ⟨c.q5, 0, none⟩ = some vg := by simp [World.cell?, h10.h5]
    have z3' : w10.cell? ⟨c.q3, 0, none⟩ = some (bp c.m2) := by simp [World.cell?, h10.h3]
    have y10 := Y10.out
    have y0' : w10.cell? ⟨w.heap.size, 0, none⟩ = some (.slice a1 low.length c1) := by simp [World.cell?, y10]
    have y1' : w10.cell? ⟨w.heap.size, 1, none⟩ = some (.slice a2 high.length c2) := by simp [World.cell?, y10]
    have y2' : w10.cell? ⟨w.heap.size, 2, none⟩ = some (.bool bd) := by simp [World.cell?, y10]
    have HW6 := Lib.hid (show w.heap.size ≤ w6.heap.size from K6.out.size)
    clear h10 y10 m0 m1 m2 m3 m4 m5 m6 mf y0 y1 y2 z2 z3 z4 z5
    refine wp_region_chain 5 [3, 4] (fun w' => w'.cell? ⟨c.q5, 0, none⟩ = some vg ∧ w'.cell? ⟨c.q3, 0, none⟩ = some (bp c.m2) ∧ w'.cell? ⟨w.heap.size, 0, none⟩ = some (.slice a1 low.length c1) ∧ w'.cell? ⟨w.heap.size, 1, none⟩ = some (.slice a2 high.length c2) ∧ w'.cell? ⟨w.heap.size, 2, none⟩ = some (.bool bd)) (by kernel_rfl) (by kernel_rfl) ?_ ?_
    · exact ⟨z5', z3', y0', y1', y2'⟩
    simp only [List.take_succ_cons, List.take_zero, List.drop_succ_cons, List.drop_zero]
    iterate 3 (refine SeqY.val (v := ?_) (by rfl) (by rfl) (fun wx hSw => ?_) ?_; rotate_left; (focus ((try dsimp only at hSw); go_simp; (try with_reducible rfl))); (try simp only [Act.put, List.setIfInBounds_toArray, List.set_cons_zero, List.set_cons_succ]))
    refine SeqY.act (by rfl) rfl (by rfl) (by rfl) (fun K hK => ?_)
    go_simp
    have nS : ∀ b, R b → b < w.heap.size → ¬ TalkS c vo vg vc b := fun b hb _ e => by
      have := H.out.hR b hb
      rcases e with e | e | e | e | e | e
      · exact this.2.1.1 e
      · exact this.2.1.2.1 e
      · exact this.2.1.2.2 e
      · exact this.2.2.1 e
      · exact this.2.2.2.1 e
      · exact this.2.2.2.2 e
    refine (swkeys_calls (w := w10.drew) (T10.out.hm.at rfl) HU.out HG.out ((H1.out.kept byteEl_k K10.out nS).at rfl) ((H2.out.kept byteEl_k K10.out nS).at rfl)).mono ?_
    rintro e w11 ⟨v11, rfl, o11, k11⟩
    have k11 : Kept Noneof w10 w11 := ⟨k11.os, k11.tape, k11.output, k11.size, k11.block⟩
    have o11 : Own 31 bytesEl (fun b => w10.heap.size ≤ b) w10.heap.size w11 v11 (spanKeys u.pairs low high bd) := o11
    refine hK.out _ _ ⟨k11.cell (p := ⟨c.q5, 0, none⟩) (fun h => h) z5', k11.cell (p := ⟨c.q3, 0, none⟩) (fun h => h) z3', k11.cell (p := ⟨w.heap.size, 0, none⟩) (fun h => h) y0', k11.cell (p := ⟨w.heap.size, 1, none⟩) (fun h => h) y1', k11.cell (p := ⟨w.heap.size, 2, none⟩) (fun h => h) y2'⟩ ?_
    have t10 := T10.out
    have T11 := Lib.hid ((t10.kept0 k11).wide (R' := fun b => (R b ∨ (Value.slice p1 n1 d1).ownBlock = some b ∨ (Value.slice p2 n2 d2).ownBlock = some b) ∨ w10.heap.size ≤ b ∧ b < w11.heap.size) (fun b h => .inl h) fun b h => h.imp id fun h => ⟨h.2, by have := t10.hB; omega, fun e => by have := (t10.ho.lt b e).2; omega, fun e => by have := (t10.hg.lt b e).2; omega, fun e => by have := (t10.hc.lt b e).2; omega⟩)
    have S11 := Lib.hid (show SV bytesEl (fun b => w10.heap.size ≤ b ∧ b < w11.heap.size) w11 v11 (spanKeys u.pairs low high bd) from (o11.sv.bd bytesEl_k).wide bytesEl_k fun b h _ => by omega)
    have K11 := Lib.hid (K10.out.trans k11 fun _ h => h.elim)
    have K11n := Lib.hid k11
    have hkl : (spanKeys u.pairs low high bd).length ≤ 1000000 := by
      unfold spanKeys
      rw [List.length_map]
      exact Nat.le_trans (List.length_filter_le _ _) (by rw [Tr.pairs_len]; exact HU.out)
    have hby2 : (gl.length + (spanKeys u.pairs low high bd).length) * 24 ≤ 140737488355328 := by have := BG.out; omega
    have hR11 := Lib.hid T11.out.hR
    obtain ⟨a11, n11, c11, rfl⟩ := o11.slice'
    have hs10 := k11.size
    clear K hK o11 k11 t10 nS
    (try simp only [Act.put, List.setIfInBounds_toArray, List.set_cons_zero, List.set_cons_succ])
    refine SeqY.act (by rfl) rfl (by rfl) (by rfl) (fun K hK => ?_)
    refine wp_app_list (E := bytesEl) (.tmp 75) (.tmp 78) _ rfl tRows (D' := fun b => w10.heap.size ≤ b ∧ b < w11.heap.size) vg gl rfl T11.out.hg _ _ rfl S11.out (fun b h _ => ⟨.inr h, (hR11.out b (.inr h)).2.2.2.1⟩) hby2 (by decide) T11.out.hB ?_
    intro v12 w12 o12 k12 hb12
    have t11 := T11.out
    have lg := t11.hg.lt
    have lt := t11.lt
    have T12 := Lib.hid (t11.go k12 o12 hb12)
    have ng : ∀ b, b < c.B → vg.ownBlock ≠ some b := fun b hb e => by have := (lg b e).1; omega
    have nw : vg.ownBlock ≠ some w.heap.size := fun e => by have := (H.out.hg.lt _ e).2; omega
    have h5 := k12.obj (ng _ lt.2.2.2.1) t11.h5
    have h3 := k12.obj (ng _ lt.2.1) t11.h3
    have y12 := k12.obj (p := w.heap.size) nw (K11n.out.obj (fun h => h) Y10.out)
    have z12 : w12.cell? ⟨c.q5, 0, none⟩ = some vg := by simp [World.cell?, h5]
    have f12 : w12.frozen? ⟨c.q5, 0, none⟩ = false := by simp [World.frozen?, h5]
    refine hK.out _ _ ⟨z12, by simp [World.cell?, h3], by simp [World.cell?, y12], by simp [World.cell?, y12], by simp [World.cell?, y12]⟩ ?_
    have K12 := Lib.hid (K11.out.trans k12 fun b h => .inl (.inr (.inr (.inr (.inr (.inl h))))))
    obtain ⟨a12, n12, c12, rfl⟩ := o12.slice'
    have HB12 := Lib.hid hb12
    clear K hK o12 k12 t11 h5 h3 y12 hb12
    (try simp only [Act.put, List.setIfInBounds_toArray, List.set_cons_zero, List.set_cons_succ])
    refine SeqY.nil ?_
    go_wp2
    refine bodyPost_ret (results_none rfl _ _ _) rfl ?_
    have q1 : talk seed u .nil low high bd = [⟨low, high, bd, 0, 0, false, []⟩] := by simp only [talk, hs]
    have q2 : gones seed u .nil low high bd = spanKeys u.pairs low high bd := by simp only [gones, hs, if_neg, Bool.false_eq_true, not_false_eq_true]
    have q3 : comes seed u .nil low high bd = [] := rfl
    rw [q1, q2, q3, List.append_nil]
    have TF := T12.out
    have hw := HW6.out
    have hw10 := K10.out.size
    exact ⟨⟨_, rfl⟩, _, _, _, vc, TF, fun b h => .inl (.inl h), K12.out.setCell (p := ⟨c.q5, 0, none⟩) (.inl (.inr (.inl rfl))) _, fun b => ⟨fun e => (HB9.out b e).imp id fun h => by have := K8.out.size; omega, fun e => (HB12.out b e).imp id fun h => by omega, fun h => .inl h⟩⟩)
    | true =>
      have hs : sameAt seed u .nil low high bd = true := by simp only [sameAt, Tr.size, Tr.dg, g1, g2, Bool.and_self]
      (
    have M7 := (Kept.refl (fun b => b = bm) w6).setCell (p := ⟨bm, 5, none⟩) (.inl rfl) (.bool true)
    have T7 := T6.out.kept M7 fun b e => by subst e; exact lT.out
    have OA7 := OA6.out.kept M7 fun b hb _ => ⟨fun h => h.elim, fun e => by have hb : b = bm := hb; subst hb; exact nA.out e⟩
    have OB7 := OB6.out.kept M7 fun b hb _ => ⟨fun h => h.elim, fun e => by have hb : b = bm := hb; subst hb; exact nB.out e⟩
    have GM7 := setCell_obj GM6.out (.bool true) (j := 5)
    have A7 := (Kept.refl Noneof (w6.setCell ⟨bm, 5, none⟩ (.bool true))).alloc (msgObj (.slice p1 n1 d1) (.slice p2 n2 d2) bd 0 0 true (.slice none 0 0))
    have G8 := heap_alloc_new (w6.setCell ⟨bm, 5, none⟩ (.bool true)) (msgObj (.slice p1 n1 d1) (.slice p2 n2 d2) bd 0 0 true (.slice none 0 0))
    rw [show (w6.setCell ⟨bm, 5, none⟩ (.bool true)).heap.size = w6.heap.size by simp] at G8
    have G8 := Lib.hid G8
    have OA8 := Lib.hid (OA7.kept A7 fun _ h => h.elim)
    have OB8 := Lib.hid (OB7.kept A7 fun _ h => h.elim)
    have GM8 := Lib.hid (A7.obj (fun h => h) GM7)
    have K8 := Lib.hid ((K6.out.trans M7 fun b e => .inr (by have := HBM.out; have := S0.out; omega)).trans A7 fun _ h => h.elim)
    have T8 := Lib.hid ((T7.kept0 A7).wide (R' := fun b => R b ∨ (Value.slice p1 n1 d1).ownBlock = some b ∨ (Value.slice p2 n2 d2).ownBlock = some b) (fun b h => .inl h) (by
      have t := H.out
      have e3 := t.hB
      have e2 := S0.out
      have la := OA8.out.lt
      have lb := OB8.out.lt
      have far : ∀ b, w1.heap.size ≤ b → b < ((w6.setCell ⟨bm, 5, none⟩ (.bool true)).alloc (msgObj (.slice p1 n1 d1) (.slice p2 n2 d2) bd 0 0 true (.slice none 0 0))).heap.size → b < ((w6.setCell ⟨bm, 5, none⟩ (.bool true)).alloc (msgObj (.slice p1 n1 d1) (.slice p2 n2 d2) bd 0 0 true (.slice none 0 0))).heap.size ∧ c.B ≤ b ∧ vo.ownBlock ≠ some b ∧ vg.ownBlock ≠ some b ∧ vc.ownBlock ≠ some b := fun b h1 h2 => ⟨h2, by omega, fun e => by have := (t.ho.lt b e).2; omega, fun e => by have := (t.hg.lt b e).2; omega, fun e => by have := (t.hc.lt b e).2; omega⟩
      rintro b (h | h | h)
      · exact .inl h
      · exact .inr (far b (la b h).1 (la b h).2)
      · exact .inr (far b (lb b h).1 (lb b h).2)))
    have hR8 := Lib.hid T8.out.hR
    have hB8 := T8.out.hB
    have bo := BO.out
    have BLA := Lib.hid (OA8.out.rd (D' := fun b => R b ∨ (Value.slice p1 n1 d1).ownBlock = some b ∨ (Value.slice p2 n2 d2).ownBlock = some b) (fun _ h => h.elim) fun b h => .inr (.inl h))
    have BLB := Lib.hid (OB8.out.rd (D' := fun b => R b ∨ (Value.slice p1 n1 d1).ownBlock = some b ∨ (Value.slice p2 n2 d2).ownBlock = some b) (fun _ h => h.elim) fun b h => .inr (.inr h))
    have HB8 := Lib.hid hB8
    have hby : (ol.length + 1) * 104 ≤ 140737488355328 := by omega
    clear M7 T7 OA7 OB7 GM7 A7 hB8 bo
    go_wp2_with (at_builtin; refine wl_app_one (E := msgEl) rfl (.tmp 68) (.tmp 70) _ rfl tMsgs (D' := fun b => R b ∨ (Value.slice p1 n1 d1).ownBlock = some b ∨ (Value.slice p2 n2 d2).ownBlock = some b) vo ol rfl T8.out.ho w6.heap.size _ ⟨low, high, bd, 0, 0, true, []⟩ rfl ⟨_, _, G8.out⟩ ⟨_, _, _, rfl, BLA.out, BLB.out, SV.nilv _ _ _⟩ (fun b h _ => ⟨h, (hR8.out b h).2.2.1⟩) hby (by decide) HB8.out ?_)
    intro v9 w9 o9 k9 hb9
    have hb9 : ∀ b, v9.ownBlock = some b → vo.ownBlock = some b ∨ ((w6.setCell ⟨bm, 5, none⟩ (.bool true)).alloc (msgObj (.slice p1 n1 d1) (.slice p2 n2 d2) bd 0 0 true (.slice none 0 0))).heap.size ≤ b := fun b e => by have := hb9 b e; simpa using this
    have T9 := Lib.hid (T8.out.say k9 o9 hb9)
    have LV := Lib.hid o9.lt
    obtain ⟨a9, n9, c9, rfl⟩ := o9.slice'
    have no9 : ∀ b, b < c.B → vo.ownBlock ≠ some b := fun b hb e => by have := (T8.out.ho.lt b e).1; omega
    have q9 : w9.heap[c.q4]? = some (.cells #[vo] 85) := k9.obj (no9 _ T8.out.lt.2.2.1) T8.out.h4
    have z9 : w9.cell? ⟨c.q4, 0, none⟩ = some vo := by simp [World.cell?, q9]
    have f9 : w9.frozen? ⟨c.q4, 0, none⟩ = false := by simp [World.frozen?, q9]
    have gm9 := k9.obj (p := bm) lT.out.2.2.1 GM8.out
    have m9 : w9.cell? ⟨bm, 5, none⟩ = some (.bool true) := by simp [World.cell?, gm9]
    have K9 := Lib.hid ((K8.out.mono (T := TalkS c vo vg vc) fun _ h => h.elim).trans k9 fun b h => .inl (.inr (.inr (.inr (.inl h)))))
    have K9' := Lib.hid (K9.out.setCell (p := ⟨c.q4, 0, none⟩) (.inl (.inl rfl)) (.slice a9 n9 c9))
    have HB9 := Lib.hid hb9
    have Y9 := Lib.hid (k9.obj (p := w.heap.size) (fun e => by have := (H.out.ho.lt _ e).2; omega) (((Kept.refl Noneof (w6.setCell ⟨bm, 5, none⟩ (.bool true))).alloc (msgObj (.slice p1 n1 d1) (.slice p2 n2 d2) bd 0 0 true (.slice none 0 0))).obj (fun h => h) (((Kept.refl (fun b => b = bm) w6).setCell (p := ⟨bm, 5, none⟩) (.inl rfl) (.bool true)).obj (p := w.heap.size) (fun e => hbm1 e.symm) Y6.out)))
    clear o9 k9 hb9 q9 gm9 no9)
      go_wp2
      refine bodyPost_ret (results_none rfl _ _ _) rfl ?_
      have q1 : talk seed u .nil low high bd = [⟨low, high, bd, 0, 0, true, []⟩] := by simp only [talk, hs]
      have q2 : gones seed u .nil low high bd = [] := by simp only [gones, hs, if_pos]
      have q3 : comes seed u .nil low high bd = [] := rfl
      rw [q1, q2, q3, List.append_nil, List.append_nil]
      have TF := T9.out
      exact ⟨⟨_, rfl⟩, _, _, vg, vc, TF, fun b h => .inl h, K9'.out, fun b => ⟨fun e => (HB9.out b e).imp id fun h => by have := K8.out.size; omega, fun h => .inl h, fun h => .inl h⟩⟩
end Go.Proofs.Ytaopjdjbpamhhaa
/- Proved: contract of the talk of a mirror (Mirror's closure), where a span has a node. Conditions: what TalkIn says. -/
namespace Go.Proofs.Ytaopjdjbpamhhaa
open Go Go.RowKit
set_option linter.unusedVariables false
set_option linter.unusedSimpArgs false

theorem Rd.node {D : Nat → Prop} {w : World} {a : Option Addr} {l : List ND} (h : Rd nodeEl D w a l) {i : Nat} (hi : i < l.length) : ∃ b o u v, a = some ⟨b, o, none⟩ ∧ D b ∧ w.cell? ⟨b, o + i * 6, none⟩ = some u ∧ w.cell? ⟨b, o + i * 6 + 1, none⟩ = some v ∧ w.cell? ⟨b, o + i * 6 + 2, none⟩ = some (.int .u64 l[i].dg) ∧ w.cell? ⟨b, o + i * 6 + 3, none⟩ = some (.int .i64 l[i].size) ∧ w.cell? ⟨b, o + i * 6 + 4, none⟩ = some (.int .i64 l[i].left) ∧ w.cell? ⟨b, o + i * 6 + 5, none⟩ = some (.int .i64 l[i].right) ∧ BV D w u l[i].k ∧ BV D w v l[i].v := by
  obtain ⟨b, o, cs, rfl, hD, hc, u, v, rfl, h1, h2⟩ := h i hi
  have k : nodeEl.k = 6 := rfl
  rw [k] at hc
  exact ⟨b, o, u, v, rfl, hD, hc 0 (by simp), hc 1 (by simp), hc 2 (by simp), hc 3 (by simp), hc 4 (by simp), hc 5 (by simp), h1, h2⟩

theorem TalkS.tr {c : TK} {vo vg vc vo' vg' vc' : Value} {n : Nat} (h : ∀ b, (vo'.ownBlock = some b → vo.ownBlock = some b ∨ n ≤ b) ∧ (vg'.ownBlock = some b → vg.ownBlock = some b ∨ n ≤ b) ∧ (vc'.ownBlock = some b → vc.ownBlock = some b ∨ n ≤ b)) (b : Nat) (hb : TalkS c vo' vg' vc' b) : TalkS c vo vg vc b ∨ n ≤ b := by
  rcases hb with e | e | e | e | e | e
  · exact .inl (.inl e)
  · exact .inl (.inr (.inl e))
  · exact .inl (.inr (.inr (.inl e)))
  · exact ((h b).1 e).imp (fun e => .inr (.inr (.inr (.inl e)))) id
  · exact ((h b).2.1 e).imp (fun e => .inr (.inr (.inr (.inr (.inl e))))) id
  · exact ((h b).2.2 e).imp (fun e => .inr (.inr (.inr (.inr (.inr e))))) id
theorem TalkIn.notS {seed : Int} {u : Tr} {c : TK} {R : Nat → Prop} {vo vg vc : Value} {w : World} {ol : List Msg} {gl : List Bts} {cl : List (Bts × Bts)} (h : TalkIn seed u c R vo vg vc w ol gl cl) (b : Nat) (hb : R b) : ¬ TalkS c vo vg vc b := fun e => by
  have := h.hR b hb
  rcases e with e | e | e | e | e | e
  · exact this.2.1.1 e
  · exact this.2.1.2.1 e
  · exact this.2.1.2.2 e
  · exact this.2.2.1 e
  · exact this.2.2.2.1 e
  · exact this.2.2.2.2 e
theorem TalkIn.newS {seed : Int} {u : Tr} {c : TK} {R : Nat → Prop} {vo vg vc : Value} {w : World} {ol : List Msg} {gl : List Bts} {cl : List (Bts × Bts)} (h : TalkIn seed u c R vo vg vc w ol gl cl) (b : Nat) (hb : w.heap.size ≤ b) : ¬ TalkS c vo vg vc b := fun e => by
  have l := h.lt
  have hB := h.hB
  rcases e with e | e | e | e | e | e
  · omega
  · omega
  · omega
  · have := (h.ho.lt b e).2; omega
  · have := (h.hg.lt b e).2; omega
  · have := (h.hc.lt b e).2; omega
theorem talk_le (seed : Int) (u : Tr) : ∀ (t : Tr) (low high : Bts) (bd : Bool), (talk seed u t low high bd).length ≤ 2 * t.size + 1
  | .nil, _, _, _ => by simp [talk]
  | .nd l k v r, low, high, bd => by
    have h1 := talk_le seed u l low k true
    have h2 := talk_le seed u r (k ++ [0]) high bd
    rw [talk]
    split
    · simp
    · simp only [List.length_cons, List.length_append, Tr.size]; omega
theorem gones_le (seed : Int) (u : Tr) (hu : u.size ≤ 1000000) : ∀ (t : Tr) (low high : Bts) (bd : Bool), (gones seed u t low high bd).length ≤ (t.size + 1) * 1000000
  | .nil, low, high, bd => by
    rw [gones]
    split
    · simp
    · unfold spanKeys
      rw [List.length_map]
      exact Nat.le_trans (List.length_filter_le _ _) (by rw [Tr.pairs_len]; simp [Tr.size]; exact hu)
  | .nd l k v r, low, high, bd => by
    have h1 := gones_le seed u hu l low k true
    have h2 := gones_le seed u hu r (k ++ [0]) high bd
    rw [gones]
    split
    · simp
    · simp only [List.length_append, Tr.size]; omega
theorem comes_le (seed : Int) (u : Tr) : ∀ (t : Tr) (low high : Bts) (bd : Bool), (comes seed u t low high bd).length ≤ t.size
  | .nil, _, _, _ => by simp [comes]
  | .nd l k v r, low, high, bd => by
    have h1 := comes_le seed u l low k true
    have h2 := comes_le seed u r (k ++ [0]) high bd
    rw [comes]
    split
    · simp
    · simp only [List.length_cons, List.length_append, Tr.size]; omega
theorem talk_bnd1 {o g cc ls rs : Nat} (b1 : o + 2 * (1 + ls + rs) + 1 ≤ 1000000) (b2 : g + (1 + ls + rs + 1) * 1000000 ≤ 1000000000000) (b3 : cc + (1 + ls + rs) ≤ 1000000) : o + 1 + 2 * ls + 1 ≤ 1000000 ∧ g + (ls + 1) * 1000000 ≤ 1000000000000 ∧ cc + 1 + ls ≤ 1000000 := by omega
theorem talk_bnd2 {o g cc ls rs a b d : Nat} (b1 : o + 2 * (1 + ls + rs) + 1 ≤ 1000000) (b2 : g + (1 + ls + rs + 1) * 1000000 ≤ 1000000000000) (b3 : cc + (1 + ls + rs) ≤ 1000000) (h1 : a ≤ 2 * ls + 1) (h2 : b ≤ (ls + 1) * 1000000) (h3 : d ≤ ls) : o + 1 + a + 2 * rs + 1 ≤ 1000000 ∧ g + b + (rs + 1) * 1000000 ≤ 1000000000000 ∧ cc + 1 + d + rs ≤ 1000000 := by omega
theorem len_one {α : Type} (l : List α) (x : α) : (l ++ [x]).length = l.length + 1 := by simp
theorem sv_pair1 {D : Nat → Prop} {w : World} {g : Nat} {a b : Value} {t : TypeId} {k v : Bts} (h : w.heap[g]? = some (.cells #[a, b] t)) (hD : D g) (h1 : BV D w a k) (h2 : BV D w b v) : SV pairEl D w (.slice (some ⟨g, 0, none⟩) 1 1) [(k, v)] := by
  refine ⟨_, _, rfl, ⟨by simp, fun h => by cases h⟩, by simp, fun i hi => ?_⟩
  obtain rfl : i = 0 := by simpa using hi
  refine ⟨g, 0, [a, b], rfl, hD, fun j hj => ?_, _, _, rfl, h1, h2⟩
  have hj : j < 2 := hj
  simp only [World.cell?, h, Nat.zero_mul, Nat.zero_add]
  rcases j with _ | _ | j
  · rfl
  · rfl
  · omega

set_option maxRecDepth 100000 in
set_option maxHeartbeats 8000000 in
theorem swMirror_1_nd {seed : Int} {u : Tr} {c : TK} (hg : Srt u.pairs) (hu : u.size ≤ 1000000) {l r : Tr} {k v : Bts} (hkv : 1 ≤ k.length ∧ k.length ≤ 64 ∧ v.length ≤ 1000) (hcL : c.L.length ≤ 1000000)
    (il : ∀ (R : Nat → Prop) (vo vg vc : Value) (w : World) (ol : List Msg) (gl : List Bts) (cl : List (Bts × Bts)) (lo hi : Value) (low high : Bts) (bd : Bool) (at' : Int), TalkIn seed u c R vo vg vc w ol gl cl → BV R w lo low → BV R w hi high → NodesAt seed c.L l at' → ol.length + 2 * l.size + 1 ≤ 1000000 → gl.length + (l.size + 1) * 1000000 ≤ 1000000000000 → cl.length + l.size ≤ 1000000 →
      Calls Try.prog 117 #[.agg #[lo, hi, .bool bd], .int .i64 at', bp c.q2, bp c.q3, bp c.q4, bp c.q5, bp c.q6, bp c.q7] w (TalkPost seed u c R vo vg vc w (ol ++ talk seed u l low high bd) (gl ++ gones seed u l low high bd) (cl ++ comes seed u l low high bd)))
    (ir : ∀ (R : Nat → Prop) (vo vg vc : Value) (w : World) (ol : List Msg) (gl : List Bts) (cl : List (Bts × Bts)) (lo hi : Value) (low high : Bts) (bd : Bool) (at' : Int), TalkIn seed u c R vo vg vc w ol gl cl → BV R w lo low → BV R w hi high → NodesAt seed c.L r at' → ol.length + 2 * r.size + 1 ≤ 1000000 → gl.length + (r.size + 1) * 1000000 ≤ 1000000000000 → cl.length + r.size ≤ 1000000 →
      Calls Try.prog 117 #[.agg #[lo, hi, .bool bd], .int .i64 at', bp c.q2, bp c.q3, bp c.q4, bp c.q5, bp c.q6, bp c.q7] w (TalkPost seed u c R vo vg vc w (ol ++ talk seed u r low high bd) (gl ++ gones seed u r low high bd) (cl ++ comes seed u r low high bd)))
    {R : Nat → Prop} {vo vg vc : Value} {w : World} {ol : List Msg} {gl : List Bts} {cl : List (Bts × Bts)} {lo hi : Value} {low high : Bts} {bd : Bool} {at' : Int}
    (h : TalkIn seed u c R vo vg vc w ol gl cl) (h1 : BV R w lo low) (h2 : BV R w hi high) (hn : NodesAt seed c.L (.nd l k v r) at') (b1 : ol.length + 2 * (Tr.nd l k v r).size + 1 ≤ 1000000) (b2 : gl.length + ((Tr.nd l k v r).size + 1) * 1000000 ≤ 1000000000000) (b3 : cl.length + (Tr.nd l k v r).size ≤ 1000000) :
    Calls Try.prog 117 #[.agg #[lo, hi, .bool bd], .int .i64 at', bp c.q2, bp c.q3, bp c.q4, bp c.q5, bp c.q6, bp c.q7] w
      (TalkPost seed u c R vo vg vc w (ol ++ talk seed u (.nd l k v r) low high bd) (gl ++ gones seed u (.nd l k v r) low high bd) (cl ++ comes seed u (.nd l k v r) low high bd)) := by
  obtain ⟨i, rfl, hLt, hL, hkl, hkr⟩ := hn.kids
  have H := Lib.hid h
  have H1 := Lib.hid h1
  have H2 := Lib.hid h2
  have HG := Lib.hid hg
  have HU := Lib.hid hu
  have BO := Lib.hid (show ol.length ≤ 1000000 by omega)
  have BO1 := Lib.hid b1
  have BG1 := Lib.hid b2
  have BC1 := Lib.hid b3
  have IL := Lib.hid il
  have IR := Lib.hid ir
  have NL := Lib.hid hkl
  have NR := Lib.hid hkr
  have KV := Lib.hid hkv
  have CL := Lib.hid hcL
  obtain ⟨a1, c1, rfl, _⟩ := h1
  obtain ⟨a2, c2, rfl, _⟩ := h2
  clear h hg hu b1 b2 b3 il ir hkl hkr hkv hn hcL
  go_enter Try.func117, Try.ntmps117
  go_wp2_with fail
  (
  have G0 := heap_alloc_new w (.cells #[.slice a1 low.length c1, .slice a2 high.length c2, .bool bd] 170)
  have K0 := (Kept.refl Noneof w).alloc (.cells #[.slice a1 low.length c1, .slice a2 high.length c2, .bool bd] 170)
  have s0 : (w.alloc (.cells #[.slice a1 low.length c1, .slice a2 high.length c2, .bool bd] 170)).heap.size = w.heap.size + 1 := by simp
  generalize w.alloc (.cells #[.slice a1 low.length c1, .slice a2 high.length c2, .bool bd] 170) = w1 at *
  have G0 := Lib.hid G0
  have K0 := Lib.hid K0
  have S0 := Lib.hid s0
  clear s0
  refine wp_region_kept 10 [(2, .act IsSlice fun u wx => Own 5 byteEl Noneof w1.heap.size wx u low), (5, .act IsSlice fun u wx => Own 5 byteEl Noneof w1.heap.size wx u high), (9, .act IsPtr fun u wx => ∃ b, u = bp b ∧ w1.heap.size ≤ b ∧ wx.heap[b]? = some (msgObj (.slice none 0 0) (.slice none 0 0) false 0 0 false (.slice none 0 0)))] Noneof (by kernel_rfl) (by kernel_rfl) (by kernel_rfl) ?_; simp only [List.take_succ_cons, List.take_zero, List.drop_succ_cons, List.drop_zero]
  have hS : ∀ w', Kept Noneof w1 w' → w'.cell? ⟨w.heap.size, 0, none⟩ = some (.slice a1 low.length c1) ∧ w'.cell? ⟨w.heap.size, 1, none⟩ = some (.slice a2 high.length c2) ∧ w'.cell? ⟨w.heap.size, 2, none⟩ = some (.bool bd) := fun w' k => by
    have := k.obj (p := w.heap.size) (fun h => h) G0.out
    simp [World.cell?, this]
  iterate 2 (refine SeqL.val (v := ?_) hS rfl (by rfl) (fun wx hSw => ?_) ?_; rotate_left; (focus ((try dsimp only at hSw); go_simp; (try with_reducible rfl))); (try simp only [Act.put, List.setIfInBounds_toArray, List.set_cons_zero, List.set_cons_succ]))
  refine SeqL.act rfl rfl (by rfl) (by rfl) isSlice (fun wx hx hh K hK => ?_) (fun u1 hu1 => ?_)
  · go_simp
    refine (byClone_calls (H1.out.kept byteEl_k (K0.out.tr hx) fun _ _ _ h => h)).mono ?_
    rintro e w2 ⟨v', rfl, o1, k1⟩
    exact hK.out v' w2 o1.slice' k1 (o1.base hx.size)
  obtain ⟨p1, n1, d1, rfl⟩ := hu1
  (try simp only [Act.put, List.setIfInBounds_toArray, List.set_cons_zero, List.set_cons_succ])
  iterate 2 (refine SeqL.val (v := ?_) hS rfl (by rfl) (fun wx hSw => ?_) ?_; rotate_left; (focus ((try dsimp only at hSw); go_simp; (try with_reducible rfl))); (try simp only [Act.put, List.setIfInBounds_toArray, List.set_cons_zero, List.set_cons_succ]))
  refine SeqL.act rfl rfl (by rfl) (by rfl) isSlice (fun wx hx hh K hK => ?_) (fun u1 hu1 => ?_)
  · go_simp
    refine (byClone_calls (H2.out.kept byteEl_k (K0.out.tr hx) fun _ _ _ h => h)).mono ?_
    rintro e w2 ⟨v', rfl, o1, k1⟩
    exact hK.out v' w2 o1.slice' k1 (o1.base hx.size)
  obtain ⟨p2, n2, d2, rfl⟩ := hu1
  (try simp only [Act.put, List.setIfInBounds_toArray, List.set_cons_zero, List.set_cons_succ])
  iterate 3 (refine SeqL.val (v := ?_) hS rfl (by rfl) (fun wx hSw => ?_) ?_; rotate_left; (focus ((try dsimp only at hSw); go_simp; (try with_reducible rfl))); (try simp only [Act.put, List.setIfInBounds_toArray, List.set_cons_zero, List.set_cons_succ]))
  refine SeqL.act rfl rfl (by rfl) (by rfl) isPtr (fun wx hx hh K hK => ?_) (fun u1 hu1 => ?_)
  · go_simp
    exact hK.out _ _ ⟨_, rfl⟩ ((Kept.refl _ _).alloc _) ⟨_, rfl, hx.size, heap_alloc_new wx _⟩
  obtain ⟨bm, rfl⟩ := hu1
  (try simp only [Act.put, List.setIfInBounds_toArray, List.set_cons_zero, List.set_cons_succ])
  refine SeqL.nil fun wz hz hh => ?_
  obtain ⟨wa, _, oa, ka⟩ := hh 2 (by decide) _ _ _ rfl rfl
  obtain ⟨wb, _, ob, kb⟩ := hh 5 (by decide) _ _ _ rfl rfl
  obtain ⟨wc, _, oc, kc⟩ := hh 9 (by decide) _ _ _ rfl rfl
  have OA := Lib.hid (show Own 5 byteEl Noneof w1.heap.size wz (.slice p1 n1 d1) low from Own.kept oa ka fun _ h => h.elim)
  have OB := Lib.hid (show Own 5 byteEl Noneof w1.heap.size wz (.slice p2 n2 d2) high from Own.kept ob kb fun _ h => h.elim)
  have hbm : w1.heap.size ≤ bm ∧ wz.heap[bm]? = some (msgObj (.slice none 0 0) (.slice none 0 0) false 0 0 false (.slice none 0 0)) := by
    obtain ⟨b', e1, e2, e3⟩ := oc
    have e1 : bp bm = bp b' := e1
    simp only [bp, Value.pointer.injEq, Option.some.injEq, Addr.mk.injEq, and_true] at e1
    subst e1
    exact ⟨e2, kc.obj (fun h => h) e3⟩
  obtain ⟨hbm, gm⟩ := hbm
  have HBM := Lib.hid hbm
  have GM := Lib.hid gm
  have KZ := Lib.hid (K0.out.tr hz)
  have KS := Lib.hid hz
  clear hh hS oa ob oc ka kb kc hz hbm
  have m0 : wz.cell? ⟨bm, 0, none⟩ = some (.slice none 0 0) := by simp [World.cell?, gm]
  have m1 : wz.cell? ⟨bm, 1, none⟩ = some (.slice none 0 0) := by simp [World.cell?, gm]
  have m2 : wz.cell? ⟨bm, 2, none⟩ = some (.bool false) := by simp [World.cell?, gm]
  have m3 : wz.cell? ⟨bm, 3, none⟩ = some (.int .i64 0) := by simp [World.cell?, gm]
  have m4 : wz.cell? ⟨bm, 4, none⟩ = some (.int .u64 0) := by simp [World.cell?, gm]
  have m5 : wz.cell? ⟨bm, 5, none⟩ = some (.bool false) := by simp [World.cell?, gm]
  have m6 : wz.cell? ⟨bm, 6, none⟩ = some (.slice none 0 0) := by simp [World.cell?, gm]
  have mf : ∀ j, wz.frozen? ⟨bm, j, none⟩ = false := fun j => by simp [World.frozen?, gm]
  clear gm
  have TZ := Lib.hid (H.out.kept0 KZ.out)
  have z3 : wz.cell? ⟨c.q3, 0, none⟩ = some (bp c.m2) := by simp [World.cell?, TZ.out.h3]
  have z2 : wz.cell? ⟨c.q2, 0, none⟩ = some c.vn := by simp [World.cell?, TZ.out.h2]
  have gz := KZ.out.block
  have hz0 : wz.heap[w.heap.size]? = some (.cells #[.slice a1 low.length c1, .slice a2 high.length c2, .bool bd] 170) := KS.out.obj (fun h => h) G0.out
  have y0 : wz.cell? ⟨w.heap.size, 0, none⟩ = some (.slice a1 low.length c1) := by simp [World.cell?, hz0]
  have y1 : wz.cell? ⟨w.heap.size, 1, none⟩ = some (.slice a2 high.length c2) := by simp [World.cell?, hz0]
  have y2 : wz.cell? ⟨w.heap.size, 2, none⟩ = some (.bool bd) := by simp [World.cell?, hz0]
  have HZ0 := Lib.hid hz0
  have hbm1 : bm ≠ w.heap.size := by have := HBM.out; have := S0.out; omega
  have hbm2 : bm ≠ c.q3 := by have := HBM.out; have := S0.out; have := H.out.lt; have := H.out.hB; omega
  have hbm3 : bm ≠ c.q2 := by have := HBM.out; have := S0.out; have := H.out.lt; have := H.out.hB; omega
  clear gz hz0)
  go_wp2_with fail
  (
  have MS := (((((((Kept.refl (fun b => b = bm) wz).setCell (p := ⟨bm, 0, none⟩) (.inl rfl) (.slice p1 n1 d1)).setCell (p := ⟨bm, 1, none⟩) (.inl rfl) (.slice p2 n2 d2)).setCell (p := ⟨bm, 2, none⟩) (.inl rfl) (.bool bd)).setCell (p := ⟨bm, 3, none⟩) (.inl rfl) (.int .i64 0)).setCell (p := ⟨bm, 4, none⟩) (.inl rfl) (.int .u64 0)).setCell (p := ⟨bm, 5, none⟩) (.inl rfl) (.bool false)).setCell (p := ⟨bm, 6, none⟩) (.inl rfl) (.slice none 0 0)
  have GM5 := setCell_obj (setCell_obj (setCell_obj (setCell_obj (setCell_obj (setCell_obj (setCell_obj GM.out (.slice p1 n1 d1) (j := 0)) (.slice p2 n2 d2) (j := 1)) (.bool bd) (j := 2)) (.int .i64 0) (j := 3)) (.int .u64 0) (j := 4)) (.bool false) (j := 5)) (.slice none 0 0) (j := 6)
  generalize ((((((wz.setCell ⟨bm, 0, none⟩ (.slice p1 n1 d1)).setCell ⟨bm, 1, none⟩ (.slice p2 n2 d2)).setCell ⟨bm, 2, none⟩ (.bool bd)).setCell ⟨bm, 3, none⟩ (.int .i64 0)).setCell ⟨bm, 4, none⟩ (.int .u64 0)).setCell ⟨bm, 5, none⟩ (.bool false)).setCell ⟨bm, 6, none⟩ (.slice none 0 0) = w5 at *
  have GM5 := Lib.hid (show w5.heap[bm]? = some (msgObj (.slice p1 n1 d1) (.slice p2 n2 d2) bd 0 0 false (.slice none 0 0)) from GM5)
  have lT := Lib.hid (show c.B ≤ bm ∧ ¬ R bm ∧ (vo : Value).ownBlock ≠ some bm ∧ (vg : Value).ownBlock ≠ some bm ∧ (vc : Value).ownBlock ≠ some bm from by
    have hh := H.out
    have e1 := HBM.out
    have e2 := S0.out
    have e3 := hh.hB
    exact ⟨by omega, fun e => by have := (hh.hR bm e).1; omega, fun e => by have := (hh.ho.lt bm e).2; omega, fun e => by have := (hh.hg.lt bm e).2; omega, fun e => by have := (hh.hc.lt bm e).2; omega⟩)
  have T5 := Lib.hid (TZ.out.kept MS fun b e => by subst e; exact lT.out)
  have nA := Lib.hid (show (Value.slice p1 n1 d1).ownBlock ≠ some bm from fun e => by
    obtain ⟨cur, hc⟩ := OA.out.obj e
    have := hc.symm.trans GM.out
    simp [msgObj] at this)
  have nB := Lib.hid (show (Value.slice p2 n2 d2).ownBlock ≠ some bm from fun e => by
    obtain ⟨cur, hc⟩ := OB.out.obj e
    have := hc.symm.trans GM.out
    simp [msgObj] at this)
  have OA5 := Lib.hid (OA.out.kept MS fun b hb _ => ⟨fun h => h.elim, fun e => by have hb : b = bm := hb; subst hb; exact nA.out e⟩)
  have OB5 := Lib.hid (OB.out.kept MS fun b hb _ => ⟨fun h => h.elim, fun e => by have hb : b = bm := hb; subst hb; exact nB.out e⟩)
  have K5 := Lib.hid (KZ.out.trans MS fun b e => .inr (by have := HBM.out; have := S0.out; omega))
  have Y5 := Lib.hid (MS.obj (p := w.heap.size) (fun e => hbm1 e.symm) HZ0.out)
  clear MS m0 m1 m2 m3 m4 m5 m6 mf z3 z2 y0 y1 y2 OA OB TZ GM KZ HZ0 KS)
  (
  obtain ⟨F3, hF3⟩ : ∃ F3 : Obj, F3 = msgObj (.slice p1 n1 d1) (.slice p2 n2 d2) bd ((Tr.nd l k v r).size : Nat) 0 false (.slice none 0 0) := ⟨_, rfl⟩
  have lbm := Lib.hid (show bm < w5.heap.size from block_lt GM5.out)
  obtain ⟨av, cv, hvn, hcap, hmx, hrd⟩ := T5.out.hn
  obtain ⟨bn, on, uk, uv, hav, hDb, g0, g1, g2, g3, g4, g5, hbk, hbv⟩ := Rd.node hrd hLt
  have hnd : c.L[i] = ndOf seed l k v r i := by rw [List.getElem?_eq_getElem hLt] at hL; exact Option.some.inj hL
  rw [hnd] at g2 g3 g4 g5 hbk hbv
  rw [hav] at hvn
  have HVN := Lib.hid hvn
  have BK := Lib.hid hbk
  have BV' := Lib.hid hbv
  have DB := Lib.hid hDb
  have hbnm : bn ≠ bm := fun e => lT.out.2.1 (e ▸ (T5.out.hD _ hDb).1)
  clear hrd hcap hmx hbk hbv hDb
  refine wp_region_grow 13 [(11, .act (fun _ => True) fun _ wx => wx.heap[bm]? = some F3)] (OnceTo bm F3) (OnceTo.refl _ _) OnceTo.trans (OnceTo.of lbm.out (Kept.drew1 _ _)) (by kernel_rfl) (by kernel_rfl) (by kernel_rfl) ?_
  simp only [List.take_succ_cons, List.take_zero, List.drop_succ_cons, List.drop_zero]
  have hS : ∀ w', OnceTo bm F3 w5 w' → w'.cell? ⟨c.q2, 0, none⟩ = some (.slice (some ⟨bn, on, none⟩) c.L.length cv) ∧ w'.cell? ⟨bn, on + i * 6 + 3, none⟩ = some (.int .i64 ((Tr.nd l k v r).size : Nat)) ∧ w'.cell? ⟨bn, on + i * 6 + 2, none⟩ = some (.int .u64 ((Tr.nd l k v r).dg seed)) := fun w' q => by
    have h2 := T5.out.h2
    rw [HVN.out] at h2
    have := q.1.obj (p := c.q2) (fun e => hbm3 e.symm) h2
    exact ⟨by simp [World.cell?, this], q.1.cell hbnm g3, q.1.cell hbnm g2⟩
  iterate 11 (refine SeqL.val (v := ?_) hS rfl (by rfl) (fun wx hSw => ?_) ?_; rotate_left; (focus ((try dsimp only at hSw); go_simp; (try with_reducible rfl))); (try simp only [Act.put, List.setIfInBounds_toArray, List.set_cons_zero, List.set_cons_succ]))
  refine SeqL.act0 rfl rfl (by rfl) (fun wx hx hh K hK => ?_) ?_
  · have G : ∃ x, wx.heap[bm]? = some (msgObj (.slice p1 n1 d1) (.slice p2 n2 d2) bd x 0 false (.slice none 0 0)) := by
      rcases hx.2 with e | e
      · exact ⟨_, e.trans GM5.out⟩
      · exact ⟨_, by rw [e, hF3]⟩
    obtain ⟨x, G⟩ := G
    have f3 : wx.cell? ⟨bm, 3, none⟩ = some (.int .i64 x) := by simp [World.cell?, G]
    have ff : wx.frozen? ⟨bm, 3, none⟩ = false := by simp [World.frozen?, G]
    go_simp
    have GF := setCell_obj G (.int .i64 (((Tr.nd l k v r).size : Nat) : Int)) (j := 3)
    have KF := (Kept.refl (fun x => x = bm) wx).setCell (p := ⟨bm, 3, none⟩) (.inl rfl) (.int .i64 (((Tr.nd l k v r).size : Nat) : Int))
    refine hK.out _ ⟨KF, .inr ?_⟩ ?_
    · rw [hF3]; exact GF
    · rw [hF3]; exact GF
  (refine SeqL.val (v := ?_) hS rfl (by rfl) (fun wx hSw => ?_) ?_; rotate_left; (focus ((try dsimp only at hSw); go_simp; (try with_reducible rfl))); (try simp only [Act.put, List.setIfInBounds_toArray, List.set_cons_zero, List.set_cons_succ]))
  refine SeqL.nil fun wz hz hh => ?_
  obtain ⟨wb, _, ob, kb⟩ := hh 11 (by decide) _ _ _ rfl rfl
  have GZ := Lib.hid (show wz.heap[bm]? = some (msgObj (.slice p1 n1 d1) (.slice p2 n2 d2) bd ((Tr.nd l k v r).size : Nat) 0 false (.slice none 0 0)) by
    rcases kb.2 with e | e
    · rw [e, ← hF3]; exact ob
    · rw [e, hF3])
  have KZ := Lib.hid hz.1
  clear hh hS ob kb hz
  have TZ := Lib.hid (T5.out.kept KZ.out fun b e => by have e : b = bm := e; subst e; exact lT.out)
  have YZ := Lib.hid (KZ.out.obj (p := w.heap.size) (fun e => hbm1 e.symm) Y5.out)
  have gz := GZ.out
  have yz := YZ.out
  have m4 : wz.cell? ⟨bm, 4, none⟩ = some (.int .u64 0) := by simp [World.cell?, gz]
  have mf : wz.frozen? ⟨bm, 4, none⟩ = false := by simp [World.frozen?, gz]
  have z3 : wz.cell? ⟨c.q3, 0, none⟩ = some (bp c.m2) := by simp [World.cell?, TZ.out.h3]
  have y0 : wz.cell? ⟨w.heap.size, 0, none⟩ = some (.slice a1 low.length c1) := by simp [World.cell?, yz]
  have y1 : wz.cell? ⟨w.heap.size, 1, none⟩ = some (.slice a2 high.length c2) := by simp [World.cell?, yz]
  have y2 : wz.cell? ⟨w.heap.size, 2, none⟩ = some (.bool bd) := by simp [World.cell?, yz]
  clear gz yz
  go_wp2_with fail
  have MZ := (Kept.refl (fun b => b = bm) wz).setCell (p := ⟨bm, 4, none⟩) (.inl rfl) (.int .u64 ((Tr.nd l k v r).dg seed))
  have GM9 := setCell_obj GZ.out (.int .u64 ((Tr.nd l k v r).dg seed)) (j := 4)
  generalize wz.setCell ⟨bm, 4, none⟩ (.int .u64 ((Tr.nd l k v r).dg seed)) = w9 at *
  have MM := KZ.out.tr MZ
  have T5 := Lib.hid (TZ.out.kept MZ fun b e => by have e : b = bm := e; subst e; exact lT.out)
  have GM5 := Lib.hid (show w9.heap[bm]? = some (msgObj (.slice p1 n1 d1) (.slice p2 n2 d2) bd ((Tr.nd l k v r).size : Nat) ((Tr.nd l k v r).dg seed) false (.slice none 0 0)) from GM9)
  have OA5 := Lib.hid (OA5.out.kept MM fun b hb _ => ⟨fun h => h.elim, fun e => by have hb : b = bm := hb; subst hb; exact nA.out e⟩)
  have OB5 := Lib.hid (OB5.out.kept MM fun b hb _ => ⟨fun h => h.elim, fun e => by have hb : b = bm := hb; subst hb; exact nB.out e⟩)
  have K5 := Lib.hid (K5.out.trans MM fun b e => .inr (by have := HBM.out; have := S0.out; omega))
  have Y5 := Lib.hid (MM.obj (p := w.heap.size) (fun e => hbm1 e.symm) Y5.out)
  have N5 := Lib.hid (show w9.cell? ⟨bn, on + i * 6, none⟩ = some uk ∧ w9.cell? ⟨bn, on + i * 6 + 1, none⟩ = some uv ∧ w9.cell? ⟨bn, on + i * 6 + 4, none⟩ = some (.int .i64 (ndOf seed l k v r i).left) ∧ w9.cell? ⟨bn, on + i * 6 + 5, none⟩ = some (.int .i64 (ndOf seed l k v r i).right) from ⟨MM.cell hbnm g0, MM.cell hbnm g1, MM.cell hbnm g4, MM.cell hbnm g5⟩)
  have BK := Lib.hid (SV.kept byteEl_k BK.out MM fun b h _ e => lT.out.2.1 ((show b = bm from e) ▸ (T5.out.hD _ h).1))
  have BV' := Lib.hid (SV.kept byteEl_k BV'.out MM fun b h _ e => lT.out.2.1 ((show b = bm from e) ▸ (T5.out.hD _ h).1))
  clear MZ MM GM9 TZ GZ KZ YZ m4 mf z3 y0 y1 y2 g0 g1 g2 g3 g4 g5)
  (
  refine (orSpanDigest_calls (seed := seed) (t := u) T5.out.hm (H1.out.kept byteEl_k K5.out fun _ _ _ h => h) (H2.out.kept byteEl_k K5.out fun _ _ _ h => h)).mono ?_
  rintro e w6 ⟨rfl, k6⟩
  have T6 := Lib.hid (T5.out.kept0 k6)
  have OA6 := Lib.hid (OA5.out.kept k6 fun _ h => h.elim)
  have OB6 := Lib.hid (OB5.out.kept k6 fun _ h => h.elim)
  have GM6 := Lib.hid (k6.obj (fun h => h) GM5.out)
  have K6 := Lib.hid (K5.out.trans k6 fun _ h => h.elim)
  have Y6 := Lib.hid (k6.obj (fun h => h) Y5.out)
  clear k6 T5 OA5 OB5 GM5 K5 Y5
  have gm6 := GM6.out
  have m0 : w6.cell? ⟨bm, 0, none⟩ = some (.slice p1 n1 d1) := by simp [World.cell?, gm6]
  have m1 : w6.cell? ⟨bm, 1, none⟩ = some (.slice p2 n2 d2) := by simp [World.cell?, gm6]
  have m2 : w6.cell? ⟨bm, 2, none⟩ = some (.bool bd) := by simp [World.cell?, gm6]
  have m3 : w6.cell? ⟨bm, 3, none⟩ = some (.int .i64 ((Tr.nd l k v r).size : Nat)) := by simp [World.cell?, gm6]
  have m4 : w6.cell? ⟨bm, 4, none⟩ = some (.int .u64 ((Tr.nd l k v r).dg seed)) := by simp [World.cell?, gm6]
  have m5 : w6.cell? ⟨bm, 5, none⟩ = some (.bool false) := by simp [World.cell?, gm6]
  have m6 : w6.cell? ⟨bm, 6, none⟩ = some (.slice none 0 0) := by simp [World.cell?, gm6]
  have mf : ∀ j, w6.frozen? ⟨bm, j, none⟩ = false := fun j => by simp [World.frozen?, gm6]
  have y6 := Y6.out
  have y0 : w6.cell? ⟨w.heap.size, 0, none⟩ = some (.slice a1 low.length c1) := by simp [World.cell?, y6]
  have y1 : w6.cell? ⟨w.heap.size, 1, none⟩ = some (.slice a2 high.length c2) := by simp [World.cell?, y6]
  have y2 : w6.cell? ⟨w.heap.size, 2, none⟩ = some (.bool bd) := by simp [World.cell?, y6]
  have z4 : w6.cell? ⟨c.q4, 0, none⟩ = some vo := by simp [World.cell?, T6.out.h4]
  have z5 : w6.cell? ⟨c.q5, 0, none⟩ = some vg := by simp [World.cell?, T6.out.h5]
  have z3 : w6.cell? ⟨c.q3, 0, none⟩ = some (bp c.m2) := by simp [World.cell?, T6.out.h3]
  have z2 : w6.cell? ⟨c.q2, 0, none⟩ = some c.vn := by simp [World.cell?, T6.out.h2]
  have hbm4 : bm ≠ c.q4 := by have := HBM.out; have := S0.out; have := H.out.lt; have := H.out.hB; omega
  have hbm5 : bm ≠ c.q5 := by have := HBM.out; have := S0.out; have := H.out.lt; have := H.out.hB; omega
  clear gm6 y6)
  have N6 := N5.out
  have e1 : ((((u.cut low true high bd).size : Nat) : Int) == (((Tr.nd l k v r).size : Nat) : Int)) = ((u.cut low true high bd).size == (Tr.nd l k v r).size) := by
    rw [Bool.eq_iff_iff, beq_iff_eq, beq_iff_eq]
    omega
  cases g1 : ((u.cut low true high bd).size == (Tr.nd l k v r).size) with
  | false =>
    rw [g1] at e1
    have hs : sameAt seed u (.nd l k v r) low high bd = false := by unfold sameAt; rw [g1]; rfl
    have HS := Lib.hid hs
    (
    go_wp2_with fail
    have M7 := (Kept.refl (fun b => b = bm) w6).setCell (p := ⟨bm, 5, none⟩) (.inl rfl) (.bool false)
    have T7 := T6.out.kept M7 fun b e => by have e : b = bm := e; subst e; exact lT.out
    have OA7 := OA6.out.kept M7 fun b hb _ => ⟨fun h => h.elim, fun e => by have hb : b = bm := hb; subst hb; exact nA.out e⟩
    have OB7 := OB6.out.kept M7 fun b hb _ => ⟨fun h => h.elim, fun e => by have hb : b = bm := hb; subst hb; exact nB.out e⟩
    have GM7 := setCell_obj GM6.out (.bool false) (j := 5)
    have K7 := K6.out.trans M7 fun b e => .inr (by have := HBM.out; have := S0.out; omega)
    have Y7 := M7.obj (p := w.heap.size) (fun e => hbm1 e.symm) Y6.out
    generalize w6.setCell ⟨bm, 5, none⟩ (.bool false) = w7 at *
    have T7 := Lib.hid T7
    have OA7 := Lib.hid OA7
    have OB7 := Lib.hid OB7
    have GM7 := Lib.hid (show w7.heap[bm]? = some (msgObj (.slice p1 n1 d1) (.slice p2 n2 d2) bd ((Tr.nd l k v r).size : Nat) ((Tr.nd l k v r).dg seed) false (.slice none 0 0)) from GM7)
    have K7 := Lib.hid K7
    have Y7 := Lib.hid Y7
    have D7 := Lib.hid (show SV nodeEl c.DN w7 c.vn c.L from T7.out.hn)
    clear M7 m0 m1 m2 m3 m4 m5 m6 mf y0 y1 y2 z2 z3 z4 z5 N6 N5 BK BV' HVN
    obtain ⟨av2, cv2, hvn2, hcap2, hmx2, hrd2⟩ := D7.out
    obtain ⟨bn2, on2, uk2, uv2, hav2, hDb2, g0, g1, g2, g3, g4, g5, hbk, hbv⟩ := Rd.node hrd2 hLt
    have hnd2 : c.L[i] = ndOf seed l k v r i := by rw [List.getElem?_eq_getElem hLt] at hL; exact Option.some.inj hL
    rw [hnd2] at g4 g5 hbk hbv
    rw [hav2] at hvn2
    obtain ⟨ak, ck, rfl, _⟩ := id hbk
    obtain ⟨av3, cv3, rfl, _⟩ := id hbv
    have HVN := Lib.hid hvn2
    have BK7 := Lib.hid (show BV c.DN w7 (.slice ak k.length ck) k from hbk)
    have BV7 := Lib.hid (show BV c.DN w7 (.slice av3 v.length cv3) v from hbv)
    have DB := Lib.hid hDb2
    have GL7 := Lib.hid g4
    have GR7 := Lib.hid g5
    have z2 : w7.cell? ⟨c.q2, 0, none⟩ = some (.slice (some ⟨bn2, on2, none⟩) c.L.length cv2) := by have h2 := T7.out.h2; rw [HVN.out] at h2; simp [World.cell?, h2]
    clear hrd2 hcap2 hmx2 hbk hbv hDb2 g2 g3 g4 g5 hvn2
    refine wp_region_chain 12 [] (fun w' => w'.cell? ⟨c.q2, 0, none⟩ = some (.slice (some ⟨bn2, on2, none⟩) c.L.length cv2) ∧ w'.cell? ⟨bn2, on2 + i * 6, none⟩ = some (.slice ak k.length ck) ∧ w'.cell? ⟨bn2, on2 + i * 6 + 1, none⟩ = some (.slice av3 v.length cv3)) (by kernel_rfl) (by kernel_rfl) ?_ ?_
    · exact ⟨z2, g0, g1⟩
    simp only [List.take_succ_cons, List.take_zero, List.drop_succ_cons, List.drop_zero]
    iterate 12 (refine SeqY.val (v := ?_) (by rfl) (by rfl) (fun wx hSw => ?_) ?_; rotate_left; (focus ((try dsimp only at hSw); go_simp; (try with_reducible rfl))); (try simp only [Act.put, List.setIfInBounds_toArray, List.set_cons_zero, List.set_cons_succ]))
    refine SeqY.nil ?_
    clear z2 g0 g1
    have kd : Kept Noneof w7 w7.drew := (Kept.refl Noneof w7).drew
    (
    have T8 := Lib.hid (T7.out.kept0 kd)
    have OA8 := Lib.hid (OA7.out.kept kd fun _ h => h.elim)
    have OB8 := Lib.hid (OB7.out.kept kd fun _ h => h.elim)
    have GM8 := Lib.hid (kd.obj (fun h => h) GM7.out)
    have K8 := Lib.hid (K7.out.trans kd fun _ h => h.elim)
    have Y8 := Lib.hid (kd.obj (fun h => h) Y7.out)
    have BK8 := Lib.hid (SV.kept byteEl_k BK7.out kd fun _ _ _ h => h)
    have BV8 := Lib.hid (SV.kept byteEl_k BV7.out kd fun _ _ _ h => h)
    have GL8 := Lib.hid (kd.cell (p := ⟨bn2, on2 + i * 6 + 4, none⟩) (fun h => h) GL7.out)
    have GR8 := Lib.hid (kd.cell (p := ⟨bn2, on2 + i * 6 + 5, none⟩) (fun h => h) GR7.out)
    clear T7 OA7 OB7 GM7 K7 Y7 BK7 BV7 GL7 GR7)
    generalize w7.drew = w8 at *
    clear kd D7
    go_wp2_with fail
    refine (byClone_calls BK8.out).mono ?_
    rintro e w9 ⟨kn, rfl, o9, k9⟩
    have lb8 := Lib.hid (block_lt GM8.out)
    have hs9 := Lib.hid k9.size
    have OK9 := Lib.hid o9
    obtain ⟨p3, n3, d3, rfl⟩ := o9.slice'
    (
    have T9 := Lib.hid (T8.out.kept0 k9)
    have OA9 := Lib.hid (OA8.out.kept k9 fun _ h => h.elim)
    have OB9 := Lib.hid (OB8.out.kept k9 fun _ h => h.elim)
    have GM9 := Lib.hid (k9.obj (fun h => h) GM8.out)
    have K9 := Lib.hid (K8.out.trans k9 fun _ h => h.elim)
    have Y9 := Lib.hid (k9.obj (fun h => h) Y8.out)
    have BK9 := Lib.hid (SV.kept byteEl_k BK8.out k9 fun _ _ _ h => h)
    have BV9 := Lib.hid (SV.kept byteEl_k BV8.out k9 fun _ _ _ h => h)
    have GL9 := Lib.hid (k9.cell (p := ⟨bn2, on2 + i * 6 + 4, none⟩) (fun h => h) GL8.out)
    have GR9 := Lib.hid (k9.cell (p := ⟨bn2, on2 + i * 6 + 5, none⟩) (fun h => h) GR8.out)
    clear T8 OA8 OB8 GM8 K8 Y8 BK8 BV8 GL8 GR8)
    clear o9 k9
    go_wp2_with fail
    refine (byClone_calls BV9.out).mono ?_
    rintro e w10 ⟨vn', rfl, o10, k10⟩
    have k9s := Lib.hid k10.size
    have OK10 := Lib.hid (OK9.out.kept k10 fun _ h => h.elim)
    have OV10 := Lib.hid o10
    obtain ⟨p4, n4, d4, rfl⟩ := o10.slice'
    (
    have T10 := Lib.hid (T9.out.kept0 k10)
    have OA10 := Lib.hid (OA9.out.kept k10 fun _ h => h.elim)
    have OB10 := Lib.hid (OB9.out.kept k10 fun _ h => h.elim)
    have GM10 := Lib.hid (k10.obj (fun h => h) GM9.out)
    have K10 := Lib.hid (K9.out.trans k10 fun _ h => h.elim)
    have Y10 := Lib.hid (k10.obj (fun h => h) Y9.out)
    have BK10 := Lib.hid (SV.kept byteEl_k BK9.out k10 fun _ _ _ h => h)
    have BV10 := Lib.hid (SV.kept byteEl_k BV9.out k10 fun _ _ _ h => h)
    have GL10 := Lib.hid (k10.cell (p := ⟨bn2, on2 + i * 6 + 4, none⟩) (fun h => h) GL9.out)
    have GR10 := Lib.hid (k10.cell (p := ⟨bn2, on2 + i * 6 + 5, none⟩) (fun h => h) GR9.out)
    clear T9 OA9 OB9 GM9 K9 Y9 BK9 BV9 GL9 GR9)
    clear o10 k10 OK9
    have lb10 := Lib.hid (block_lt GM10.out)
    have gm10 := GM10.out
    have m0 : ∀ o, (w10.alloc o).cell? ⟨bm, 0, none⟩ = some (.slice p1 n1 d1) := fun o => ((Kept.refl Noneof w10).alloc o).cell (p := ⟨bm, 0, none⟩) (fun h => h) (by simp [World.cell?, gm10])
    have m1 : ∀ o, (w10.alloc o).cell? ⟨bm, 1, none⟩ = some (.slice p2 n2 d2) := fun o => ((Kept.refl Noneof w10).alloc o).cell (p := ⟨bm, 1, none⟩) (fun h => h) (by simp [World.cell?, gm10])
    have m2 : ∀ o, (w10.alloc o).cell? ⟨bm, 2, none⟩ = some (.bool bd) := fun o => ((Kept.refl Noneof w10).alloc o).cell (p := ⟨bm, 2, none⟩) (fun h => h) (by simp [World.cell?, gm10])
    have m3 : ∀ o, (w10.alloc o).cell? ⟨bm, 3, none⟩ = some (.int .i64 ((Tr.nd l k v r).size : Nat)) := fun o => ((Kept.refl Noneof w10).alloc o).cell (p := ⟨bm, 3, none⟩) (fun h => h) (by simp [World.cell?, gm10])
    have m4 : ∀ o, (w10.alloc o).cell? ⟨bm, 4, none⟩ = some (.int .u64 ((Tr.nd l k v r).dg seed)) := fun o => ((Kept.refl Noneof w10).alloc o).cell (p := ⟨bm, 4, none⟩) (fun h => h) (by simp [World.cell?, gm10])
    have m5 : ∀ o, (w10.alloc o).cell? ⟨bm, 5, none⟩ = some (.bool false) := fun o => ((Kept.refl Noneof w10).alloc o).cell (p := ⟨bm, 5, none⟩) (fun h => h) (by simp [World.cell?, gm10])
    have m6 : ∀ o, (w10.alloc o).cell? ⟨bm, 6, none⟩ = some (.slice none 0 0) := fun o => ((Kept.refl Noneof w10).alloc o).cell (p := ⟨bm, 6, none⟩) (fun h => h) (by simp [World.cell?, gm10])
    have mf : ∀ o j, (w10.alloc o).frozen? ⟨bm, j, none⟩ = false := fun o j => by have := ((Kept.refl Noneof w10).alloc o).obj (fun h => h) gm10; simp [World.frozen?, this]
    have z4 : ∀ o, (w10.alloc o).cell? ⟨c.q4, 0, none⟩ = some vo := fun o => ((Kept.refl Noneof w10).alloc o).cell (p := ⟨c.q4, 0, none⟩) (fun h => h) (by simp [World.cell?, T10.out.h4])
    have kp := (Kept.refl Noneof w10).alloc (.cells #[.slice p3 n3 d3, .slice p4 n4 d4] 70)
    have M12 := (Kept.refl (fun b => b = bm) (w10.alloc (.cells #[.slice p3 n3 d3, .slice p4 n4 d4] 70))).setCell (p := ⟨bm, 6, none⟩) (.inl rfl) (.slice (some ⟨w10.heap.size, 0, none⟩) 1 1)
    have kA := (Kept.refl Noneof ((w10.alloc (.cells #[.slice p3 n3 d3, .slice p4 n4 d4] 70)).setCell ⟨bm, 6, none⟩ (.slice (some ⟨w10.heap.size, 0, none⟩) 1 1))).alloc (msgObj (.slice p1 n1 d1) (.slice p2 n2 d2) bd ((Tr.nd l k v r).size : Nat) ((Tr.nd l k v r).dg seed) false (.slice (some ⟨w10.heap.size, 0, none⟩) 1 1))
    have s12 : ((w10.alloc (.cells #[.slice p3 n3 d3, .slice p4 n4 d4] 70)).setCell ⟨bm, 6, none⟩ (.slice (some ⟨w10.heap.size, 0, none⟩) 1 1)).heap.size = w10.heap.size + 1 := by simp
    have far : ∀ b, w1.heap.size ≤ b → b < w10.heap.size + 1 → c.B ≤ b ∧ vo.ownBlock ≠ some b ∧ vg.ownBlock ≠ some b ∧ vc.ownBlock ≠ some b := fun b h1 h2 => by
      have t := H.out
      have e2 := S0.out
      have e3 := t.hB
      exact ⟨by omega, fun e => by have := (t.ho.lt b e).2; omega, fun e => by have := (t.hg.lt b e).2; omega, fun e => by have := (t.hc.lt b e).2; omega⟩
    have hs10 := lb10.out
    have hs8 := lb8.out
    have h18 : w1.heap.size ≤ w8.heap.size := by have := HBM.out; omega
    have h89 := hs9.out
    have h910 : w9.heap.size ≤ w10.heap.size := k9s.out
    have nC : (Value.slice p3 n3 d3).ownBlock ≠ some bm := fun e => by have := (OK10.out.lt _ e).1; omega
    have nE : (Value.slice p4 n4 d4).ownBlock ≠ some bm := fun e => by have := (OV10.out.lt _ e).1; omega
    have la := OA10.out.lt
    have lb := OB10.out.lt
    have lc := OK10.out.lt
    have ld := OV10.out.lt
    have T12 := (T10.out.kept0 kp).kept M12 fun b e => by have e : b = bm := e; subst e; exact lT.out
    have G13 := heap_alloc_new ((w10.alloc (.cells #[.slice p3 n3 d3, .slice p4 n4 d4] 70)).setCell ⟨bm, 6, none⟩ (.slice (some ⟨w10.heap.size, 0, none⟩) 1 1)) (msgObj (.slice p1 n1 d1) (.slice p2 n2 d2) bd ((Tr.nd l k v r).size : Nat) ((Tr.nd l k v r).dg seed) false (.slice (some ⟨w10.heap.size, 0, none⟩) 1 1))
    rw [s12] at G13
    have G13 := Lib.hid G13
    have GP := kA.obj (p := w10.heap.size) (fun h => h) (M12.obj (p := w10.heap.size) (by omega) (heap_alloc_new w10 (.cells #[.slice p3 n3 d3, .slice p4 n4 d4] 70)))
    have kAA : Kept (fun b => b = bm) w10 (((w10.alloc (.cells #[.slice p3 n3 d3, .slice p4 n4 d4] 70)).setCell ⟨bm, 6, none⟩ (.slice (some ⟨w10.heap.size, 0, none⟩) 1 1)).alloc (msgObj (.slice p1 n1 d1) (.slice p2 n2 d2) bd ((Tr.nd l k v r).size : Nat) ((Tr.nd l k v r).dg seed) false (.slice (some ⟨w10.heap.size, 0, none⟩) 1 1))) := ((kp.mono fun _ h => h.elim).tr M12).trans kA fun _ h => h.elim
    have T13 := Lib.hid ((T12.kept0 kA).wide (R' := (fun b => R b ∨ (Value.slice p1 n1 d1).ownBlock = some b ∨ (Value.slice p2 n2 d2).ownBlock = some b ∨ (Value.slice p3 n3 d3).ownBlock = some b ∨ (Value.slice p4 n4 d4).ownBlock = some b ∨ b = w10.heap.size)) (fun b h => .inl h) (by
      have sz : (((w10.alloc (.cells #[.slice p3 n3 d3, .slice p4 n4 d4] 70)).setCell ⟨bm, 6, none⟩ (.slice (some ⟨w10.heap.size, 0, none⟩) 1 1)).alloc (msgObj (.slice p1 n1 d1) (.slice p2 n2 d2) bd ((Tr.nd l k v r).size : Nat) ((Tr.nd l k v r).dg seed) false (.slice (some ⟨w10.heap.size, 0, none⟩) 1 1))).heap.size = w10.heap.size + 2 := by simp
      rintro b (h | h | h | h | h | h)
      · exact .inl h
      · exact .inr ⟨by have := la b h; omega, far b (la b h).1 (by have := la b h; omega)⟩
      · exact .inr ⟨by have := lb b h; omega, far b (lb b h).1 (by have := lb b h; omega)⟩
      · exact .inr ⟨by have := lc b h; omega, far b (by have := lc b h; omega) (by have := lc b h; omega)⟩
      · exact .inr ⟨by have := ld b h; omega, far b (by have := ld b h; omega) (by have := ld b h; omega)⟩
      · exact .inr ⟨by omega, far b (by omega) (by omega)⟩))
    have BLA := Lib.hid ((OA10.out.kept kAA fun b hb _ => ⟨fun h => h.elim, fun e => by have hb : b = bm := hb; subst hb; exact nA.out e⟩).rd (D' := (fun b => R b ∨ (Value.slice p1 n1 d1).ownBlock = some b ∨ (Value.slice p2 n2 d2).ownBlock = some b ∨ (Value.slice p3 n3 d3).ownBlock = some b ∨ (Value.slice p4 n4 d4).ownBlock = some b ∨ b = w10.heap.size)) (fun _ h => h.elim) fun b h => .inr (.inl h))
    have BLB := Lib.hid ((OB10.out.kept kAA fun b hb _ => ⟨fun h => h.elim, fun e => by have hb : b = bm := hb; subst hb; exact nB.out e⟩).rd (D' := (fun b => R b ∨ (Value.slice p1 n1 d1).ownBlock = some b ∨ (Value.slice p2 n2 d2).ownBlock = some b ∨ (Value.slice p3 n3 d3).ownBlock = some b ∨ (Value.slice p4 n4 d4).ownBlock = some b ∨ b = w10.heap.size)) (fun _ h => h.elim) fun b h => .inr (.inr (.inl h)))
    have BLC := (OK10.out.kept kAA fun b hb _ => ⟨fun h => h.elim, fun e => by have hb : b = bm := hb; subst hb; exact nC e⟩).rd (D' := (fun b => R b ∨ (Value.slice p1 n1 d1).ownBlock = some b ∨ (Value.slice p2 n2 d2).ownBlock = some b ∨ (Value.slice p3 n3 d3).ownBlock = some b ∨ (Value.slice p4 n4 d4).ownBlock = some b ∨ b = w10.heap.size)) (fun _ h => h.elim) fun b h => .inr (.inr (.inr (.inl h)))
    have BLD := (OV10.out.kept kAA fun b hb _ => ⟨fun h => h.elim, fun e => by have hb : b = bm := hb; subst hb; exact nE e⟩).rd (D' := (fun b => R b ∨ (Value.slice p1 n1 d1).ownBlock = some b ∨ (Value.slice p2 n2 d2).ownBlock = some b ∨ (Value.slice p3 n3 d3).ownBlock = some b ∨ (Value.slice p4 n4 d4).ownBlock = some b ∨ b = w10.heap.size)) (fun _ h => h.elim) fun b h => .inr (.inr (.inr (.inr (.inl h))))
    have SP := Lib.hid (sv_pair1 (D := (fun b => R b ∨ (Value.slice p1 n1 d1).ownBlock = some b ∨ (Value.slice p2 n2 d2).ownBlock = some b ∨ (Value.slice p3 n3 d3).ownBlock = some b ∨ (Value.slice p4 n4 d4).ownBlock = some b ∨ b = w10.heap.size)) GP (.inr (.inr (.inr (.inr (.inr rfl))))) BLC BLD)
    have K13 := Lib.hid (K10.out.trans kAA fun b e => .inr (by have := HBM.out; have := S0.out; omega))
    have Y13 := Lib.hid (kAA.obj (p := w.heap.size) (fun e => hbm1 e.symm) Y10.out)
    have nDN : ∀ b, c.DN b → b < w10.heap.size → ¬ b = bm := fun b h _ e => lT.out.2.1 (e ▸ (T10.out.hD b h).1)
    have BK13 := Lib.hid (SV.kept byteEl_k BK10.out kAA nDN)
    have BV13 := Lib.hid (SV.kept byteEl_k BV10.out kAA nDN)
    have nbn : bn2 ≠ bm := fun e => lT.out.2.1 (e ▸ (T10.out.hD _ DB.out).1)
    have GL13 := Lib.hid (kAA.cell (p := ⟨bn2, on2 + i * 6 + 4, none⟩) nbn GL10.out)
    have GR13 := Lib.hid (kAA.cell (p := ⟨bn2, on2 + i * 6 + 5, none⟩) nbn GR10.out)
    have hR13 := Lib.hid T13.out.hR
    have HB13 := Lib.hid T13.out.hB
    have hby : (ol.length + 1) * 104 ≤ 140737488355328 := by have := BO.out; omega
    clear gm10 kp M12 kA far nC nE la lb lc ld T12 GP kAA BLC BLD s12 hs10 hs8 h18 h89 h910 T10 OA10 OB10 GM10 K10 Y10 BK10 BV10 GL10 GR10
    go_wp2_with (at_builtin; refine wl_app_one (E := msgEl) rfl (.tmp 97) (.tmp 99) _ rfl tMsgs (D' := (fun b => R b ∨ (Value.slice p1 n1 d1).ownBlock = some b ∨ (Value.slice p2 n2 d2).ownBlock = some b ∨ (Value.slice p3 n3 d3).ownBlock = some b ∨ (Value.slice p4 n4 d4).ownBlock = some b ∨ b = w10.heap.size)) vo ol rfl T13.out.ho (w10.heap.size + 1) _ ⟨low, high, bd, (Tr.nd l k v r).size, (Tr.nd l k v r).dg seed, false, [(k, v)]⟩ rfl ⟨_, _, G13.out⟩ ⟨_, _, _, rfl, BLA.out, BLB.out, SP.out⟩ (fun b h _ => ⟨h, (hR13.out b h).2.2.1⟩) hby (by decide) HB13.out ?_)
    intro v14 w14 o14 k14 hb14
    have hb14 : ∀ b, v14.ownBlock = some b → vo.ownBlock = some b ∨ (((w10.alloc (.cells #[.slice p3 n3 d3, .slice p4 n4 d4] 70)).setCell ⟨bm, 6, none⟩ (.slice (some ⟨w10.heap.size, 0, none⟩) 1 1)).alloc (msgObj (.slice p1 n1 d1) (.slice p2 n2 d2) bd ((Tr.nd l k v r).size : Nat) ((Tr.nd l k v r).dg seed) false (.slice (some ⟨w10.heap.size, 0, none⟩) 1 1))).heap.size ≤ b := fun b e => by have := hb14 b e; simpa using this
    have T14 := T13.out.say k14 o14 hb14
    obtain ⟨a14, n14, c14, rfl⟩ := o14.slice'
    have lt := T13.out.lt
    have ne := T13.out.ne
    have lov := T13.out.ho.lt
    have hRo := hR13.out
    have no14 : ∀ b, b < c.B → vo.ownBlock ≠ some b := fun b hb e => by have := (lov b e).1; omega
    have q4' := k14.obj (no14 _ lt.2.2.1) T13.out.h4
    have q6' := k14.obj (no14 _ lt.2.2.2.2.1) T13.out.h6
    have z4' : w14.cell? ⟨c.q4, 0, none⟩ = some vo := by simp [World.cell?, q4']
    have f4' : w14.frozen? ⟨c.q4, 0, none⟩ = false := by simp [World.frozen?, q4']
    have z6' : w14.cell? ⟨c.q6, 0, none⟩ = some vc := by simp [World.cell?, q6']
    have k15 := (k14.mono (T := fun b => b = c.q4 ∨ vo.ownBlock = some b) fun b h => .inr h).setCell (p := ⟨c.q4, 0, none⟩) (.inl (.inl rfl)) (.slice a14 n14 c14)
    have nDR : ∀ b, c.DN b → ¬ (b = c.q4 ∨ vo.ownBlock = some b) := fun b h e => by
      have := hRo b (.inl (H.out.hD b h).1)
      exact e.elim this.2.1.1 this.2.2.1
    have BK15 := SV.kept byteEl_k BK13.out k15 fun b h _ => nDR b h
    have BV15 := SV.kept byteEl_k BV13.out k15 fun b h _ => nDR b h
    have GL15 := k15.cell (p := ⟨bn2, on2 + i * 6 + 4, none⟩) (nDR _ DB.out) GL13.out
    have GR15 := k15.cell (p := ⟨bn2, on2 + i * 6 + 5, none⟩) (nDR _ DB.out) GR13.out
    have nw0 : ¬ (w.heap.size = c.q4 ∨ vo.ownBlock = some w.heap.size) := fun e => by
      have h1 := H.out.lt
      have h2 := H.out.hB
      rcases e with e | e
      · omega
      · have := (H.out.ho.lt _ e).2; omega
    have Y15 := k15.obj (p := w.heap.size) nw0 Y13.out
    have K15 := (K13.out.mono (T := TalkS c vo vg vc) fun _ h => h.elim).trans k15 fun b h => .inl (h.elim (fun h => .inl h) fun h => .inr (.inr (.inr (.inl h))))
    have s15 : (w14.setCell ⟨c.q4, 0, none⟩ (.slice a14 n14 c14)).heap.size = w14.heap.size := by simp
    have k16 := (Kept.refl Noneof (w14.setCell ⟨c.q4, 0, none⟩ (.slice a14 n14 c14))).alloc (.cells #[(.slice ak k.length ck), (.slice av3 v.length cv3)] 70)
    have G16 := heap_alloc_new (w14.setCell ⟨c.q4, 0, none⟩ (.slice a14 n14 c14)) (.cells #[(.slice ak k.length ck), (.slice av3 v.length cv3)] 70)
    rw [s15] at G16
    have G16 := Lib.hid G16
    have T16 := Lib.hid (T14.kept0 k16)
    have BK16 := Lib.hid (SV.kept byteEl_k BK15 k16 fun _ _ _ h => h)
    have BV16 := Lib.hid (SV.kept byteEl_k BV15 k16 fun _ _ _ h => h)
    have GL16 := Lib.hid (k16.cell (p := ⟨bn2, on2 + i * 6 + 4, none⟩) (fun h => h) GL15)
    have GR16 := Lib.hid (k16.cell (p := ⟨bn2, on2 + i * 6 + 5, none⟩) (fun h => h) GR15)
    have Y16 := Lib.hid (k16.obj (p := w.heap.size) (fun h => h) Y15)
    have K16 := Lib.hid (K15.trans k16 fun _ h => h.elim)
    have HO14 := Lib.hid (show ∀ b, (Value.slice a14 n14 c14).ownBlock = some b → vo.ownBlock = some b ∨ w.heap.size ≤ b from fun b e => (hb14 b e).imp id fun h => by have := K13.out.size; omega)
    have hR16 := Lib.hid T16.out.hR
    have HB16 := Lib.hid T16.out.hB
    have hby2 : (cl.length + 1) * 48 ≤ 140737488355328 := by have := BC1.out; simp only [Tr.size] at this; omega
    have hq46 : c.q4 ≠ c.q6 := ne.2.2.2.1
    have hq64 : c.q6 ≠ c.q4 := fun e => hq46 e.symm
    clear o14 k14 hb14 T14 lt ne lov hRo no14 q4' q6' k15 nDR BK15 BV15 GL15 GR15 nw0 Y15 K15 s15 k16 T13 BLA BLB SP K13 Y13 BK13 BV13 GL13 GR13 hR13 HB13 hby G13
    go_wp2_with (at_builtin; refine wl_app_one (E := pairEl) rfl (.tmp 101) (.tmp 105) _ rfl tPairs (D' := c.DN) vc cl rfl T16.out.hc w14.heap.size _ (k, v) rfl ⟨_, _, G16.out⟩ ⟨_, _, rfl, BK16.out, BV16.out⟩ (fun b h _ => ⟨.inl (H.out.hD b h).1, (hR16.out b (.inl (H.out.hD b h).1)).2.2.2.2⟩) hby2 (by decide) HB16.out ?_)
    intro v17 w17 o17 k17 hb17
    have hb17 : ∀ b, v17.ownBlock = some b → vc.ownBlock = some b ∨ ((w14.setCell ⟨c.q4, 0, none⟩ (.slice a14 n14 c14)).alloc (.cells #[(.slice ak k.length ck), (.slice av3 v.length cv3)] 70)).heap.size ≤ b := fun b e => by have := hb17 b e; simpa using this
    have T17 := T16.out.come k17 o17 hb17
    obtain ⟨a17, n17, c17, rfl⟩ := o17.slice'
    have lt := T16.out.lt
    have lcv := T16.out.hc.lt
    have nc17 : ∀ b, b < c.B → vc.ownBlock ≠ some b := fun b hb e => by have := (lcv b e).1; omega
    have q6' := k17.obj (nc17 _ lt.2.2.2.2.1) T16.out.h6
    have z6' : w17.cell? ⟨c.q6, 0, none⟩ = some vc := by simp [World.cell?, q6']
    have f6' : w17.frozen? ⟨c.q6, 0, none⟩ = false := by simp [World.frozen?, q6']
    have k18 := (k17.mono (T := fun b => b = c.q6 ∨ vc.ownBlock = some b) fun b h => .inr h).setCell (p := ⟨c.q6, 0, none⟩) (.inl (.inl rfl)) (.slice a17 n17 c17)
    have nDR : ∀ b, c.DN b → ¬ (b = c.q6 ∨ vc.ownBlock = some b) := fun b h e => by
      have := hR16.out b (.inl (H.out.hD b h).1)
      exact e.elim this.2.1.2.2 this.2.2.2.2
    have nw0 : ¬ (w.heap.size = c.q6 ∨ vc.ownBlock = some w.heap.size) := fun e => by
      have h1 := H.out.lt
      have h2 := H.out.hB
      rcases e with e | e
      · omega
      · have := (H.out.hc.lt _ e).2; omega
    have nw1 : vc.ownBlock ≠ some w.heap.size := fun e => nw0 (.inr e)
    have y17 := k17.obj (p := w.heap.size) nw1 Y16.out
    have y0 : w17.cell? ⟨w.heap.size, 0, none⟩ = some (.slice a1 low.length c1) := by simp [World.cell?, y17]
    have y1 : w17.cell? ⟨w.heap.size, 1, none⟩ = some (.slice a2 high.length c2) := by simp [World.cell?, y17]
    have y2 : w17.cell? ⟨w.heap.size, 2, none⟩ = some (.bool bd) := by simp [World.cell?, y17]
    have hq6w : c.q6 ≠ w.heap.size := fun e => nw0 (.inl e.symm)
    have BK18 := SV.kept byteEl_k BK16.out k18 fun b h _ => nDR b h
    have GL18 := k18.cell (p := ⟨bn2, on2 + i * 6 + 4, none⟩) (nDR _ DB.out) GL16.out
    have GR18 := k18.cell (p := ⟨bn2, on2 + i * 6 + 5, none⟩) (nDR _ DB.out) GR16.out
    have Y18 := k18.obj (p := w.heap.size) nw0 Y16.out
    have K18 := K16.out.trans k18 fun b h => .inl (h.elim (fun h => .inr (.inr (.inl h))) fun h => .inr (.inr (.inr (.inr (.inr h)))))
    have HC17 := Lib.hid (show ∀ b, (Value.slice a17 n17 c17).ownBlock = some b → vc.ownBlock = some b ∨ w.heap.size ≤ b from fun b e => (hb17 b e).imp id fun h => by have := K16.out.size; omega)
    clear o17 k17 hb17 lt lcv nc17 q6' k18 nDR nw1 y17 T16 BK16 BV16 GL16 GR16 Y16 K16 hR16 HB16 hby2 G16 m0 m1 m2 m3 m4 m5 m6 mf z4 nw0
    have T17 := Lib.hid T17
    have BK18 := Lib.hid BK18
    have GL18 := Lib.hid GL18
    have GR18 := Lib.hid GR18
    have Y18 := Lib.hid Y18
    have K18 := Lib.hid K18
    go_wp2_with fail
    generalize w17.setCell ⟨c.q6, 0, none⟩ (.slice a17 n17 c17) = w18 at *
    have nS : ∀ b, R b → b < w.heap.size → ¬ TalkS c vo vg vc b := fun b hb _ e => by
      have := H.out.hR b hb
      rcases e with e | e | e | e | e | e
      · exact this.2.1.1 e
      · exact this.2.1.2.1 e
      · exact this.2.1.2.2 e
      · exact this.2.2.1 e
      · exact this.2.2.2.1 e
      · exact this.2.2.2.2 e
    have BL18 := Lib.hid (H1.out.kept byteEl_k K18.out nS)
    have BH18 := Lib.hid (H2.out.kept byteEl_k K18.out nS)
    clear nS z6' f6' y0 y1 y2 hq6w
    refine (swspan_parts_calls BL18.out BH18.out BK18.out (by have := KV.out; omega)).mono ?_
    rintro e w19 ⟨nv, rfl, bn19, k19⟩
    have BN19 := Lib.hid bn19
    obtain ⟨a19, n19, c19, rfl⟩ : ∃ a n c, nv = .slice a n c := by obtain ⟨a, c, h, _⟩ := bn19; exact ⟨_, _, _, h⟩
    have K19 := Lib.hid k19
    clear bn19 k19
    go_wp2_with fail
    have g1 := heap_alloc_new w19 (.cells #[.slice a1 low.length c1, .slice ak k.length ck, .bool true] 170)
    have k1 := (Kept.refl Noneof w19).alloc (.cells #[.slice a1 low.length c1, .slice ak k.length ck, .bool true] 170)
    have s1 : (w19.alloc (.cells #[.slice a1 low.length c1, .slice ak k.length ck, .bool true] 170)).heap.size = w19.heap.size + 1 := by simp
    generalize w19.alloc (.cells #[.slice a1 low.length c1, .slice ak k.length ck, .bool true] 170) = wx at *
    have g2 := heap_alloc_new wx (.cells #[.slice a19 n19 c19, .slice a2 high.length c2, .bool bd] 170)
    have k2 := (Kept.refl Noneof wx).alloc (.cells #[.slice a19 n19 c19, .slice a2 high.length c2, .bool bd] 170)
    have s2 : (wx.alloc (.cells #[.slice a19 n19 c19, .slice a2 high.length c2, .bool bd] 170)).heap.size = w19.heap.size + 2 := by simp [s1]
    generalize wx.alloc (.cells #[.slice a19 n19 c19, .slice a2 high.length c2, .bool bd] 170) = w20 at *
    rw [s1] at g2
    have k1820 := (K19.out.trans k1 fun _ h => h.elim).trans k2 fun _ h => h.elim
    have G15 := Lib.hid (k2.obj (fun h => h) g1)
    have G16 := Lib.hid g2
    have z19 : w18.heap.size ≤ w19.heap.size := K19.out.size
    have T20 := Lib.hid ((T17.out.kept0 k1820).wide (R' := fun b => (R b ∨ (Value.slice p1 n1 d1).ownBlock = some b ∨ (Value.slice p2 n2 d2).ownBlock = some b ∨ (Value.slice p3 n3 d3).ownBlock = some b ∨ (Value.slice p4 n4 d4).ownBlock = some b ∨ b = w10.heap.size) ∨ w18.heap.size ≤ b ∧ b < w19.heap.size) (fun b h => .inl h) (fun b h => h.imp id fun h => ⟨by omega, by have := T17.out.hB; omega, fun e => by have := (T17.out.ho.lt b e).2; omega, fun e => by have := (T17.out.hg.lt b e).2; omega, fun e => by have := (T17.out.hc.lt b e).2; omega⟩))
    have BL20 := Lib.hid ((BL18.out.kept byteEl_k k1820 fun _ _ _ h => h).wide (D' := fun b => (R b ∨ (Value.slice p1 n1 d1).ownBlock = some b ∨ (Value.slice p2 n2 d2).ownBlock = some b ∨ (Value.slice p3 n3 d3).ownBlock = some b ∨ (Value.slice p4 n4 d4).ownBlock = some b ∨ b = w10.heap.size) ∨ w18.heap.size ≤ b ∧ b < w19.heap.size) byteEl_k fun b h _ => .inl (.inl h))
    have BH20 := Lib.hid ((BH18.out.kept byteEl_k k1820 fun _ _ _ h => h).wide (D' := fun b => (R b ∨ (Value.slice p1 n1 d1).ownBlock = some b ∨ (Value.slice p2 n2 d2).ownBlock = some b ∨ (Value.slice p3 n3 d3).ownBlock = some b ∨ (Value.slice p4 n4 d4).ownBlock = some b ∨ b = w10.heap.size) ∨ w18.heap.size ≤ b ∧ b < w19.heap.size) byteEl_k fun b h _ => .inl (.inl h))
    have BK20 := Lib.hid ((SV.kept byteEl_k BK18.out k1820 fun _ _ _ h => h).wide (D' := fun b => (R b ∨ (Value.slice p1 n1 d1).ownBlock = some b ∨ (Value.slice p2 n2 d2).ownBlock = some b ∨ (Value.slice p3 n3 d3).ownBlock = some b ∨ (Value.slice p4 n4 d4).ownBlock = some b ∨ b = w10.heap.size) ∨ w18.heap.size ≤ b ∧ b < w19.heap.size) byteEl_k fun b h _ => .inl (.inl (H.out.hD b h).1))
    have BN20 := Lib.hid (((BN19.out.bd byteEl_k).kept byteEl_k (k1.trans k2 fun _ h => h.elim) fun _ _ _ h => h).wide (D' := fun b => (R b ∨ (Value.slice p1 n1 d1).ownBlock = some b ∨ (Value.slice p2 n2 d2).ownBlock = some b ∨ (Value.slice p3 n3 d3).ownBlock = some b ∨ (Value.slice p4 n4 d4).ownBlock = some b ∨ b = w10.heap.size) ∨ w18.heap.size ≤ b ∧ b < w19.heap.size) byteEl_k fun b h _ => .inr h)
    have GL20 := Lib.hid (k1820.cell (p := ⟨bn2, on2 + i * 6 + 4, none⟩) (fun h => h) GL18.out)
    have GR20 := Lib.hid (k1820.cell (p := ⟨bn2, on2 + i * 6 + 5, none⟩) (fun h => h) GR18.out)
    have K20 := Lib.hid (K18.out.trans k1820 fun _ h => h.elim)
    have n1516 : ∀ b, w19.heap.size ≤ b → ¬ TalkS c (.slice a14 n14 c14) vg (.slice a17 n17 c17) b := fun b h => T17.out.newS b (by omega)
    have HS2 := Lib.hid s2
    have HZ19 := Lib.hid z19
    have g15 := G15.out
    have t20 := T20.out.h2
    rw [HVN.out] at t20
    have x7 : w20.cell? ⟨c.q7, 0, none⟩ = some (.func (.func 117) #[] #[bp c.q2, bp c.q3, bp c.q4, bp c.q5, bp c.q6, bp c.q7]) := by simp [World.cell?, T20.out.h7]
    have x2 : w20.cell? ⟨c.q2, 0, none⟩ = some (.slice (some ⟨bn2, on2, none⟩) c.L.length cv2) := by simp [World.cell?, t20]
    have x0 : w20.cell? ⟨w19.heap.size, 0, none⟩ = some (.slice a1 low.length c1) := by simp [World.cell?, g15]
    have x1 : w20.cell? ⟨w19.heap.size, 1, none⟩ = some (.slice ak k.length ck) := by simp [World.cell?, g15]
    have x3 : w20.cell? ⟨w19.heap.size, 2, none⟩ = some (.bool true) := by simp [World.cell?, g15]
    have x4 := GL20.out
    clear g1 k1 s1 g2 k2 s2 k1820 z19 T17 BL18 BH18 BK18 BN19 GL18 GR18 K18 K19 g15 t20
    refine wp_region_chain 8 [7] (fun w' => w'.cell? ⟨c.q7, 0, none⟩ = some (.func (.func 117) #[] #[bp c.q2, bp c.q3, bp c.q4, bp c.q5, bp c.q6, bp c.q7]) ∧ w'.cell? ⟨c.q2, 0, none⟩ = some (.slice (some ⟨bn2, on2, none⟩) c.L.length cv2) ∧ w'.cell? ⟨w19.heap.size, 0, none⟩ = some (.slice a1 low.length c1) ∧ w'.cell? ⟨w19.heap.size, 1, none⟩ = some (.slice ak k.length ck) ∧ w'.cell? ⟨w19.heap.size, 2, none⟩ = some (.bool true) ∧ w'.cell? ⟨bn2, on2 + i * 6 + 4, none⟩ = some (.int .i64 (ndOf seed l k v r i).left)) (by kernel_rfl) (by kernel_rfl) ?_ ?_
    · exact ⟨x7, x2, x0, x1, x3, x4⟩
    simp only [List.take_succ_cons, List.take_zero, List.drop_succ_cons, List.drop_zero]
    iterate 7 (refine SeqY.val (v := ?_) (by rfl) (by rfl) (fun wx hSw => ?_) ?_; rotate_left; (focus ((try dsimp only at hSw); go_simp; (try with_reducible rfl))); (try simp only [Act.put, List.setIfInBounds_toArray, List.set_cons_zero, List.set_cons_succ]))
    refine SeqY.act (by rfl) rfl (by rfl) (by rfl) (fun K hK => ?_)
    go_simp
    have b1 := BO1.out
    have b2 := BG1.out
    have b3 := BC1.out
    have bb := Lib.hid (talk_bnd1 b1 b2 b3)
    refine (IL.out _ _ vg _ w20.drew (ol ++ [⟨low, high, bd, (Tr.nd l k v r).size, (Tr.nd l k v r).dg seed, false, [(k, v)]⟩]) gl (cl ++ [(k, v)]) _ _ low k true _ (T20.out.kept0 ((Kept.refl Noneof w20).drew)) (BL20.out.at rfl) (BK20.out.at rfl) NL.out (by rw [len_one]; exact bb.out.1) bb.out.2.1 (by rw [len_one]; exact bb.out.2.2)).mono ?_
    rintro e w21 ⟨⟨v21, rfl⟩, R21, vo21, vg21, vc21, T21, hR21, k21, hb21⟩
    have k21 : Kept (TalkS c (.slice a14 n14 c14) vg (.slice a17 n17 c17)) w20 w21 := ⟨k21.os, k21.tape, k21.output, k21.size, k21.block⟩
    have hb21 : ∀ b, (vo21.ownBlock = some b → (Value.slice a14 n14 c14).ownBlock = some b ∨ w20.heap.size ≤ b) ∧ (vg21.ownBlock = some b → vg.ownBlock = some b ∨ w20.heap.size ≤ b) ∧ (vc21.ownBlock = some b → (Value.slice a17 n17 c17).ownBlock = some b ∨ w20.heap.size ≤ b) := hb21
    have t20 := T20.out
    have n15 : ¬ TalkS c (.slice a14 n14 c14) vg (.slice a17 n17 c17) w19.heap.size := n1516 _ (Nat.le_refl _)
    have n16 : ¬ TalkS c (.slice a14 n14 c14) vg (.slice a17 n17 c17) (w19.heap.size + 1) := n1516 _ (Nat.le_succ _)
    have nbn2 : ¬ TalkS c (.slice a14 n14 c14) vg (.slice a17 n17 c17) bn2 := t20.notS bn2 (.inl (.inl (H.out.hD _ DB.out).1))
    have t21 := T21.h2
    rw [HVN.out] at t21
    have x7' : w21.cell? ⟨c.q7, 0, none⟩ = some (.func (.func 117) #[] #[bp c.q2, bp c.q3, bp c.q4, bp c.q5, bp c.q6, bp c.q7]) := by simp [World.cell?, T21.h7]
    have x2' : w21.cell? ⟨c.q2, 0, none⟩ = some (.slice (some ⟨bn2, on2, none⟩) c.L.length cv2) := by simp [World.cell?, t21]
    have g16 := k21.obj n16 G16.out
    have x0' : w21.cell? ⟨w19.heap.size + 1, 0, none⟩ = some (.slice a19 n19 c19) := by simp [World.cell?, g16]
    have x1' : w21.cell? ⟨w19.heap.size + 1, 1, none⟩ = some (.slice a2 high.length c2) := by simp [World.cell?, g16]
    have x3' : w21.cell? ⟨w19.heap.size + 1, 2, none⟩ = some (.bool bd) := by simp [World.cell?, g16]
    have x4' := k21.cell (p := ⟨bn2, on2 + i * 6 + 5, none⟩) nbn2 GR20.out
    refine hK.out _ _ ⟨x7', x2', k21.cell (p := ⟨w19.heap.size, 0, none⟩) n15 x0, k21.cell (p := ⟨w19.heap.size, 1, none⟩) n15 x1, k21.cell (p := ⟨w19.heap.size, 2, none⟩) n15 x3, k21.cell (p := ⟨bn2, on2 + i * 6 + 4, none⟩) nbn2 x4⟩ ?_
    have BN21 := Lib.hid ((BN20.out.kept byteEl_k k21 fun b h _ => t20.notS b h).wide byteEl_k fun b h _ => hR21 b h)
    have BH21 := Lib.hid ((BH20.out.kept byteEl_k k21 fun b h _ => t20.notS b h).wide byteEl_k fun b h _ => hR21 b h)
    have NN16 := Lib.hid (show ¬ TalkS c vo21 vg21 vc21 (w19.heap.size + 1) from fun e => (TalkS.tr (n := w20.heap.size) hb21 _ e).elim n16 fun h => by have := HS2.out; omega)
    have HR21 := Lib.hid (show ∀ b, R b → R21 b from fun b h => hR21 b (.inl (.inl h)))
    have K20b := Lib.hid (K20.out.trans k21 fun b hb => TalkS.tr (vo := vo) (vg := vg) (vc := vc) (fun b => ⟨HO14.out b, .inl, HC17.out b⟩) b hb)
    have hw20 := K20.out.size
    have HB21 := Lib.hid (show ∀ b, (vo21.ownBlock = some b → vo.ownBlock = some b ∨ w.heap.size ≤ b) ∧ (vg21.ownBlock = some b → vg.ownBlock = some b ∨ w.heap.size ≤ b) ∧ (vc21.ownBlock = some b → vc.ownBlock = some b ∨ w.heap.size ≤ b) from fun b => ⟨fun e => ((hb21 b).1 e).elim (HO14.out b) fun h => .inr (by omega), fun e => ((hb21 b).2.1 e).imp id fun h => by omega, fun e => ((hb21 b).2.2 e).elim (HC17.out b) fun h => .inr (by omega)⟩)
    have T21 := Lib.hid T21
    have BB2 := Lib.hid (talk_bnd2 b1 b2 b3 (talk_le seed u l low k true) (gones_le seed u HU.out l low k true) (comes_le seed u l low k true))
    clear K hK k21 hb21 t20 n15 n16 nbn2 t21 x7 x2 x0 x1 x3 x4 g16 hR21 hw20 bb T20 BL20 BH20 BK20 BN20 GL20 GR20 K20 G15 G16 b1 b2 b3
    (try simp only [Act.put, List.setIfInBounds_toArray, List.set_cons_zero, List.set_cons_succ])
    refine SeqY.nil ?_
    go_wp2_with fail
    refine wp_region_chain 8 [7] (fun w' => w'.cell? ⟨c.q7, 0, none⟩ = some (.func (.func 117) #[] #[bp c.q2, bp c.q3, bp c.q4, bp c.q5, bp c.q6, bp c.q7]) ∧ w'.cell? ⟨c.q2, 0, none⟩ = some (.slice (some ⟨bn2, on2, none⟩) c.L.length cv2) ∧ w'.cell? ⟨w19.heap.size + 1, 0, none⟩ = some (.slice a19 n19 c19) ∧ w'.cell? ⟨w19.heap.size + 1, 1, none⟩ = some (.slice a2 high.length c2) ∧ w'.cell? ⟨w19.heap.size + 1, 2, none⟩ = some (.bool bd) ∧ w'.cell? ⟨bn2, on2 + i * 6 + 5, none⟩ = some (.int .i64 (ndOf seed l k v r i).right)) (by kernel_rfl) (by kernel_rfl) ?_ ?_
    · exact ⟨x7', x2', x0', x1', x3', x4'⟩
    simp only [List.take_succ_cons, List.take_zero, List.drop_succ_cons, List.drop_zero]
    iterate 7 (refine SeqY.val (v := ?_) (by rfl) (by rfl) (fun wx hSw => ?_) ?_; rotate_left; (focus ((try dsimp only at hSw); go_simp; (try with_reducible rfl))); (try simp only [Act.put, List.setIfInBounds_toArray, List.set_cons_zero, List.set_cons_succ]))
    refine SeqY.act (by rfl) rfl (by rfl) (by rfl) (fun K hK => ?_)
    go_simp
    refine (IR.out _ _ _ _ w21.drew _ _ _ _ _ (k ++ [0]) high bd _ (T21.out.kept0 ((Kept.refl Noneof w21).drew)) (BN21.out.at rfl) (BH21.out.at rfl) NR.out (by rw [List.length_append, len_one]; exact BB2.out.1) (by rw [List.length_append]; exact BB2.out.2.1) (by rw [List.length_append, len_one]; exact BB2.out.2.2)).mono ?_
    rintro e w22 ⟨⟨v22, rfl⟩, R22, vo22, vg22, vc22, T22, hR22, k22, hb22⟩
    have k22 : Kept (TalkS c vo21 vg21 vc21) w21 w22 := ⟨k22.os, k22.tape, k22.output, k22.size, k22.block⟩
    have hb22 : ∀ b, (vo22.ownBlock = some b → vo21.ownBlock = some b ∨ w21.heap.size ≤ b) ∧ (vg22.ownBlock = some b → vg21.ownBlock = some b ∨ w21.heap.size ≤ b) ∧ (vc22.ownBlock = some b → vc21.ownBlock = some b ∨ w21.heap.size ≤ b) := hb22
    have t22 := T22.h2
    rw [HVN.out] at t22
    have nn : ∀ b, (b = w19.heap.size + 1 ∨ b = bn2) → ¬ TalkS c vo21 vg21 vc21 b := fun b hb => by
      rcases hb with rfl | rfl
      · exact NN16.out
      · exact T21.out.notS _ (HR21.out _ (H.out.hD _ DB.out).1)
    refine hK.out _ _ ⟨by simp [World.cell?, T22.h7], by simp [World.cell?, t22], k22.cell (p := ⟨w19.heap.size + 1, 0, none⟩) (nn _ (.inl rfl)) x0', k22.cell (p := ⟨w19.heap.size + 1, 1, none⟩) (nn _ (.inl rfl)) x1', k22.cell (p := ⟨w19.heap.size + 1, 2, none⟩) (nn _ (.inl rfl)) x3', k22.cell (p := ⟨bn2, on2 + i * 6 + 5, none⟩) (nn _ (.inr rfl)) x4'⟩ ?_
    clear K hK
    (try simp only [Act.put, List.setIfInBounds_toArray, List.set_cons_zero, List.set_cons_succ])
    refine SeqY.nil ?_
    go_wp2
    refine bodyPost_ret (results_none rfl _ _ _) rfl ?_
    have hs := HS.out
    have q1 : ol ++ talk seed u (.nd l k v r) low high bd = ol ++ [⟨low, high, bd, (Tr.nd l k v r).size, (Tr.nd l k v r).dg seed, false, [(k, v)]⟩] ++ talk seed u l low k true ++ talk seed u r (k ++ [0]) high bd := by rw [talk, if_neg (by rw [hs]; simp)]; simp
    have q2 : gl ++ gones seed u (.nd l k v r) low high bd = gl ++ gones seed u l low k true ++ gones seed u r (k ++ [0]) high bd := by rw [gones, if_neg (by rw [hs]; simp)]; simp
    have q3 : cl ++ comes seed u (.nd l k v r) low high bd = cl ++ [(k, v)] ++ comes seed u l low k true ++ comes seed u r (k ++ [0]) high bd := by rw [comes, if_neg (by rw [hs]; simp)]; simp
    rw [q1, q2, q3]
    have hw21 := K20b.out.size
    exact ⟨⟨_, rfl⟩, R22, vo22, vg22, vc22, T22, fun b h => hR22 b (HR21.out b h), K20b.out.trans k22 fun b hb => TalkS.tr HB21.out b hb, fun b => ⟨fun e => ((hb22 b).1 e).elim ((HB21.out b).1) fun h => .inr (by omega), fun e => ((hb22 b).2.1 e).elim ((HB21.out b).2.1) fun h => .inr (by omega), fun e => ((hb22 b).2.2 e).elim ((HB21.out b).2.2) fun h => .inr (by omega)⟩⟩)
  | true =>
    rw [g1] at e1
    cases g2 : ((u.cut low true high bd).dg seed == (Tr.nd l k v r).dg seed) with
    | false =>
      have hs : sameAt seed u (.nd l k v r) low high bd = false := by unfold sameAt; rw [g1, g2]; rfl
      have HS := Lib.hid hs
      (
    go_wp2_with fail
    have M7 := (Kept.refl (fun b => b = bm) w6).setCell (p := ⟨bm, 5, none⟩) (.inl rfl) (.bool false)
    have T7 := T6.out.kept M7 fun b e => by have e : b = bm := e; subst e; exact lT.out
    have OA7 := OA6.out.kept M7 fun b hb _ => ⟨fun h => h.elim, fun e => by have hb : b = bm := hb; subst hb; exact nA.out e⟩
    have OB7 := OB6.out.kept M7 fun b hb _ => ⟨fun h => h.elim, fun e => by have hb : b = bm := hb; subst hb; exact nB.out e⟩
    have GM7 := setCell_obj GM6.out (.bool false) (j := 5)
    have K7 := K6.out.trans M7 fun b e => .inr (by have := HBM.out; have := S0.out; omega)
    have Y7 := M7.obj (p := w.heap.size) (fun e => hbm1 e.symm) Y6.out
    generalize w6.setCell ⟨bm, 5, none⟩ (.bool false) = w7 at *
    have T7 := Lib.hid T7
    have OA7 := Lib.hid OA7
    have OB7 := Lib.hid OB7
    have GM7 := Lib.hid (show w7.heap[bm]? = some (msgObj (.slice p1 n1 d1) (.slice p2 n2 d2) bd ((Tr.nd l k v r).size : Nat) ((Tr.nd l k v r).dg seed) false (.slice none 0 0)) from GM7)
    have K7 := Lib.hid K7
    have Y7 := Lib.hid Y7
    have D7 := Lib.hid (show SV nodeEl c.DN w7 c.vn c.L from T7.out.hn)
    clear M7 m0 m1 m2 m3 m4 m5 m6 mf y0 y1 y2 z2 z3 z4 z5 N6 N5 BK BV' HVN
    obtain ⟨av2, cv2, hvn2, hcap2, hmx2, hrd2⟩ := D7.out
    obtain ⟨bn2, on2, uk2, uv2, hav2, hDb2, g0, g1, g2, g3, g4, g5, hbk, hbv⟩ := Rd.node hrd2 hLt
    have hnd2 : c.L[i] = ndOf seed l k v r i := by rw [List.getElem?_eq_getElem hLt] at hL; exact Option.some.inj hL
    rw [hnd2] at g4 g5 hbk hbv
    rw [hav2] at hvn2
    obtain ⟨ak, ck, rfl, _⟩ := id hbk
    obtain ⟨av3, cv3, rfl, _⟩ := id hbv
    have HVN := Lib.hid hvn2
    have BK7 := Lib.hid (show BV c.DN w7 (.slice ak k.length ck) k from hbk)
    have BV7 := Lib.hid (show BV c.DN w7 (.slice av3 v.length cv3) v from hbv)
    have DB := Lib.hid hDb2
    have GL7 := Lib.hid g4
    have GR7 := Lib.hid g5
    have z2 : w7.cell? ⟨c.q2, 0, none⟩ = some (.slice (some ⟨bn2, on2, none⟩) c.L.length cv2) := by have h2 := T7.out.h2; rw [HVN.out] at h2; simp [World.cell?, h2]
    clear hrd2 hcap2 hmx2 hbk hbv hDb2 g2 g3 g4 g5 hvn2
    refine wp_region_chain 12 [] (fun w' => w'.cell? ⟨c.q2, 0, none⟩ = some (.slice (some ⟨bn2, on2, none⟩) c.L.length cv2) ∧ w'.cell? ⟨bn2, on2 + i * 6, none⟩ = some (.slice ak k.length ck) ∧ w'.cell? ⟨bn2, on2 + i * 6 + 1, none⟩ = some (.slice av3 v.length cv3)) (by kernel_rfl) (by kernel_rfl) ?_ ?_
    · exact ⟨z2, g0, g1⟩
    simp only [List.take_succ_cons, List.take_zero, List.drop_succ_cons, List.drop_zero]
    iterate 12 (refine SeqY.val (v := ?_) (by rfl) (by rfl) (fun wx hSw => ?_) ?_; rotate_left; (focus ((try dsimp only at hSw); go_simp; (try with_reducible rfl))); (try simp only [Act.put, List.setIfInBounds_toArray, List.set_cons_zero, List.set_cons_succ]))
    refine SeqY.nil ?_
    clear z2 g0 g1
    have kd : Kept Noneof w7 w7.drew := (Kept.refl Noneof w7).drew
    (
    have T8 := Lib.hid (T7.out.kept0 kd)
    have OA8 := Lib.hid (OA7.out.kept kd fun _ h => h.elim)
    have OB8 := Lib.hid (OB7.out.kept kd fun _ h => h.elim)
    have GM8 := Lib.hid (kd.obj (fun h => h) GM7.out)
    have K8 := Lib.hid (K7.out.trans kd fun _ h => h.elim)
    have Y8 := Lib.hid (kd.obj (fun h => h) Y7.out)
    have BK8 := Lib.hid (SV.kept byteEl_k BK7.out kd fun _ _ _ h => h)
    have BV8 := Lib.hid (SV.kept byteEl_k BV7.out kd fun _ _ _ h => h)
    have GL8 := Lib.hid (kd.cell (p := ⟨bn2, on2 + i * 6 + 4, none⟩) (fun h => h) GL7.out)
    have GR8 := Lib.hid (kd.cell (p := ⟨bn2, on2 + i * 6 + 5, none⟩) (fun h => h) GR7.out)
    clear T7 OA7 OB7 GM7 K7 Y7 BK7 BV7 GL7 GR7)
    generalize w7.drew = w8 at *
    clear kd D7
    go_wp2_with fail
    refine (byClone_calls BK8.out).mono ?_
    rintro e w9 ⟨kn, rfl, o9, k9⟩
    have lb8 := Lib.hid (block_lt GM8.out)
    have hs9 := Lib.hid k9.size
    have OK9 := Lib.hid o9
    obtain ⟨p3, n3, d3, rfl⟩ := o9.slice'
    (
    have T9 := Lib.hid (T8.out.kept0 k9)
    have OA9 := Lib.hid (OA8.out.kept k9 fun _ h => h.elim)
    have OB9 := Lib.hid (OB8.out.kept k9 fun _ h => h.elim)
    have GM9 := Lib.hid (k9.obj (fun h => h) GM8.out)
    have K9 := Lib.hid (K8.out.trans k9 fun _ h => h.elim)
    have Y9 := Lib.hid (k9.obj (fun h => h) Y8.out)
    have BK9 := Lib.hid (SV.kept byteEl_k BK8.out k9 fun _ _ _ h => h)
    have BV9 := Lib.hid (SV.kept byteEl_k BV8.out k9 fun _ _ _ h => h)
    have GL9 := Lib.hid (k9.cell (p := ⟨bn2, on2 + i * 6 + 4, none⟩) (fun h => h) GL8.out)
    have GR9 := Lib.hid (k9.cell (p := ⟨bn2, on2 + i * 6 + 5, none⟩) (fun h => h) GR8.out)
    clear T8 OA8 OB8 GM8 K8 Y8 BK8 BV8 GL8 GR8)
    clear o9 k9
    go_wp2_with fail
    refine (byClone_calls BV9.out).mono ?_
    rintro e w10 ⟨vn', rfl, o10, k10⟩
    have k9s := Lib.hid k10.size
    have OK10 := Lib.hid (OK9.out.kept k10 fun _ h => h.elim)
    have OV10 := Lib.hid o10
    obtain ⟨p4, n4, d4, rfl⟩ := o10.slice'
    (
    have T10 := Lib.hid (T9.out.kept0 k10)
    have OA10 := Lib.hid (OA9.out.kept k10 fun _ h => h.elim)
    have OB10 := Lib.hid (OB9.out.kept k10 fun _ h => h.elim)
    have GM10 := Lib.hid (k10.obj (fun h => h) GM9.out)
    have K10 := Lib.hid (K9.out.trans k10 fun _ h => h.elim)
    have Y10 := Lib.hid (k10.obj (fun h => h) Y9.out)
    have BK10 := Lib.hid (SV.kept byteEl_k BK9.out k10 fun _ _ _ h => h)
    have BV10 := Lib.hid (SV.kept byteEl_k BV9.out k10 fun _ _ _ h => h)
    have GL10 := Lib.hid (k10.cell (p := ⟨bn2, on2 + i * 6 + 4, none⟩) (fun h => h) GL9.out)
    have GR10 := Lib.hid (k10.cell (p := ⟨bn2, on2 + i * 6 + 5, none⟩) (fun h => h) GR9.out)
    clear T9 OA9 OB9 GM9 K9 Y9 BK9 BV9 GL9 GR9)
    clear o10 k10 OK9
    have lb10 := Lib.hid (block_lt GM10.out)
    have gm10 := GM10.out
    have m0 : ∀ o, (w10.alloc o).cell? ⟨bm, 0, none⟩ = some (.slice p1 n1 d1) := fun o => ((Kept.refl Noneof w10).alloc o).cell (p := ⟨bm, 0, none⟩) (fun h => h) (by simp [World.cell?, gm10])
    have m1 : ∀ o, (w10.alloc o).cell? ⟨bm, 1, none⟩ = some (.slice p2 n2 d2) := fun o => ((Kept.refl Noneof w10).alloc o).cell (p := ⟨bm, 1, none⟩) (fun h => h) (by simp [World.cell?, gm10])
    have m2 : ∀ o, (w10.alloc o).cell? ⟨bm, 2, none⟩ = some (.bool bd) := fun o => ((Kept.refl Noneof w10).alloc o).cell (p := ⟨bm, 2, none⟩) (fun h => h) (by simp [World.cell?, gm10])
    have m3 : ∀ o, (w10.alloc o).cell? ⟨bm, 3, none⟩ = some (.int .i64 ((Tr.nd l k v r).size : Nat)) := fun o => ((Kept.refl Noneof w10).alloc o).cell (p := ⟨bm, 3, none⟩) (fun h => h) (by simp [World.cell?, gm10])
    have m4 : ∀ o, (w10.alloc o).cell? ⟨bm, 4, none⟩ = some (.int .u64 ((Tr.nd l k v r).dg seed)) := fun o => ((Kept.refl Noneof w10).alloc o).cell (p := ⟨bm, 4, none⟩) (fun h => h) (by simp [World.cell?, gm10])
    have m5 : ∀ o, (w10.alloc o).cell? ⟨bm, 5, none⟩ = some (.bool false) := fun o => ((Kept.refl Noneof w10).alloc o).cell (p := ⟨bm, 5, none⟩) (fun h => h) (by simp [World.cell?, gm10])
    have m6 : ∀ o, (w10.alloc o).cell? ⟨bm, 6, none⟩ = some (.slice none 0 0) := fun o => ((Kept.refl Noneof w10).alloc o).cell (p := ⟨bm, 6, none⟩) (fun h => h) (by simp [World.cell?, gm10])
    have mf : ∀ o j, (w10.alloc o).frozen? ⟨bm, j, none⟩ = false := fun o j => by have := ((Kept.refl Noneof w10).alloc o).obj (fun h => h) gm10; simp [World.frozen?, this]
    have z4 : ∀ o, (w10.alloc o).cell? ⟨c.q4, 0, none⟩ = some vo := fun o => ((Kept.refl Noneof w10).alloc o).cell (p := ⟨c.q4, 0, none⟩) (fun h => h) (by simp [World.cell?, T10.out.h4])
    have kp := (Kept.refl Noneof w10).alloc (.cells #[.slice p3 n3 d3, .slice p4 n4 d4] 70)
    have M12 := (Kept.refl (fun b => b = bm) (w10.alloc (.cells #[.slice p3 n3 d3, .slice p4 n4 d4] 70))).setCell (p := ⟨bm, 6, none⟩) (.inl rfl) (.slice (some ⟨w10.heap.size, 0, none⟩) 1 1)
    have kA := (Kept.refl Noneof ((w10.alloc (.cells #[.slice p3 n3 d3, .slice p4 n4 d4] 70)).setCell ⟨bm, 6, none⟩ (.slice (some ⟨w10.heap.size, 0, none⟩) 1 1))).alloc (msgObj (.slice p1 n1 d1) (.slice p2 n2 d2) bd ((Tr.nd l k v r).size : Nat) ((Tr.nd l k v r).dg seed) false (.slice (some ⟨w10.heap.size, 0, none⟩) 1 1))
    have s12 : ((w10.alloc (.cells #[.slice p3 n3 d3, .slice p4 n4 d4] 70)).setCell ⟨bm, 6, none⟩ (.slice (some ⟨w10.heap.size, 0, none⟩) 1 1)).heap.size = w10.heap.size + 1 := by simp
    have far : ∀ b, w1.heap.size ≤ b → b < w10.heap.size + 1 → c.B ≤ b ∧ vo.ownBlock ≠ some b ∧ vg.ownBlock ≠ some b ∧ vc.ownBlock ≠ some b := fun b h1 h2 => by
      have t := H.out
      have e2 := S0.out
      have e3 := t.hB
      exact ⟨by omega, fun e => by have := (t.ho.lt b e).2; omega, fun e => by have := (t.hg.lt b e).2; omega, fun e => by have := (t.hc.lt b e).2; omega⟩
    have hs10 := lb10.out
    have hs8 := lb8.out
    have h18 : w1.heap.size ≤ w8.heap.size := by have := HBM.out; omega
    have h89 := hs9.out
    have h910 : w9.heap.size ≤ w10.heap.size := k9s.out
    have nC : (Value.slice p3 n3 d3).ownBlock ≠ some bm := fun e => by have := (OK10.out.lt _ e).1; omega
    have nE : (Value.slice p4 n4 d4).ownBlock ≠ some bm := fun e => by have := (OV10.out.lt _ e).1; omega
    have la := OA10.out.lt
    have lb := OB10.out.lt
    have lc := OK10.out.lt
    have ld := OV10.out.lt
    have T12 := (T10.out.kept0 kp).kept M12 fun b e => by have e : b = bm := e; subst e; exact lT.out
    have G13 := heap_alloc_new ((w10.alloc (.cells #[.slice p3 n3 d3, .slice p4 n4 d4] 70)).setCell ⟨bm, 6, none⟩ (.slice (some ⟨w10.heap.size, 0, none⟩) 1 1)) (msgObj (.slice p1 n1 d1) (.slice p2 n2 d2) bd ((Tr.nd l k v r).size : Nat) ((Tr.nd l k v r).dg seed) false (.slice (some ⟨w10.heap.size, 0, none⟩) 1 1))
    rw [s12] at G13
    have G13 := Lib.hid G13
    have GP := kA.obj (p := w10.heap.size) (fun h => h) (M12.obj (p := w10.heap.size) (by omega) (heap_alloc_new w10 (.cells #[.slice p3 n3 d3, .slice p4 n4 d4] 70)))
    have kAA : Kept (fun b => b = bm) w10 (((w10.alloc (.cells #[.slice p3 n3 d3, .slice p4 n4 d4] 70)).setCell ⟨bm, 6, none⟩ (.slice (some ⟨w10.heap.size, 0, none⟩) 1 1)).alloc (msgObj (.slice p1 n1 d1) (.slice p2 n2 d2) bd ((Tr.nd l k v r).size : Nat) ((Tr.nd l k v r).dg seed) false (.slice (some ⟨w10.heap.size, 0, none⟩) 1 1))) := ((kp.mono fun _ h => h.elim).tr M12).trans kA fun _ h => h.elim
    have T13 := Lib.hid ((T12.kept0 kA).wide (R' := (fun b => R b ∨ (Value.slice p1 n1 d1).ownBlock = some b ∨ (Value.slice p2 n2 d2).ownBlock = some b ∨ (Value.slice p3 n3 d3).ownBlock = some b ∨ (Value.slice p4 n4 d4).ownBlock = some b ∨ b = w10.heap.size)) (fun b h => .inl h) (by
      have sz : (((w10.alloc (.cells #[.slice p3 n3 d3, .slice p4 n4 d4] 70)).setCell ⟨bm, 6, none⟩ (.slice (some ⟨w10.heap.size, 0, none⟩) 1 1)).alloc (msgObj (.slice p1 n1 d1) (.slice p2 n2 d2) bd ((Tr.nd l k v r).size : Nat) ((Tr.nd l k v r).dg seed) false (.slice (some ⟨w10.heap.size, 0, none⟩) 1 1))).heap.size = w10.heap.size + 2 := by simp
      rintro b (h | h | h | h | h | h)
      · exact .inl h
      · exact .inr ⟨by have := la b h; omega, far b (la b h).1 (by have := la b h; omega)⟩
      · exact .inr ⟨by have := lb b h; omega, far b (lb b h).1 (by have := lb b h; omega)⟩
      · exact .inr ⟨by have := lc b h; omega, far b (by have := lc b h; omega) (by have := lc b h; omega)⟩
      · exact .inr ⟨by have := ld b h; omega, far b (by have := ld b h; omega) (by have := ld b h; omega)⟩
      · exact .inr ⟨by omega, far b (by omega) (by omega)⟩))
    have BLA := Lib.hid ((OA10.out.kept kAA fun b hb _ => ⟨fun h => h.elim, fun e => by have hb : b = bm := hb; subst hb; exact nA.out e⟩).rd (D' := (fun b => R b ∨ (Value.slice p1 n1 d1).ownBlock = some b ∨ (Value.slice p2 n2 d2).ownBlock = some b ∨ (Value.slice p3 n3 d3).ownBlock = some b ∨ (Value.slice p4 n4 d4).ownBlock = some b ∨ b = w10.heap.size)) (fun _ h => h.elim) fun b h => .inr (.inl h))
    have BLB := Lib.hid ((OB10.out.kept kAA fun b hb _ => ⟨fun h => h.elim, fun e => by have hb : b = bm := hb; subst hb; exact nB.out e⟩).rd (D' := (fun b => R b ∨ (Value.slice p1 n1 d1).ownBlock = some b ∨ (Value.slice p2 n2 d2).ownBlock = some b ∨ (Value.slice p3 n3 d3).ownBlock = some b ∨ (Value.slice p4 n4 d4).ownBlock = some b ∨ b = w10.heap.size)) (fun _ h => h.elim) fun b h => .inr (.inr (.inl h)))
    have BLC := (OK10.out.kept kAA fun b hb _ => ⟨fun h => h.elim, fun e => by have hb : b = bm := hb; subst hb; exact nC e⟩).rd (D' := (fun b => R b ∨ (Value.slice p1 n1 d1).ownBlock = some b ∨ (Value.slice p2 n2 d2).ownBlock = some b ∨ (Value.slice p3 n3 d3).ownBlock = some b ∨ (Value.slice p4 n4 d4).ownBlock = some b ∨ b = w10.heap.size)) (fun _ h => h.elim) fun b h => .inr (.inr (.inr (.inl h)))
    have BLD := (OV10.out.kept kAA fun b hb _ => ⟨fun h => h.elim, fun e => by have hb : b = bm := hb; subst hb; exact nE e⟩).rd (D' := (fun b => R b ∨ (Value.slice p1 n1 d1).ownBlock = some b ∨ (Value.slice p2 n2 d2).ownBlock = some b ∨ (Value.slice p3 n3 d3).ownBlock = some b ∨ (Value.slice p4 n4 d4).ownBlock = some b ∨ b = w10.heap.size)) (fun _ h => h.elim) fun b h => .inr (.inr (.inr (.inr (.inl h))))
    have SP := Lib.hid (sv_pair1 (D := (fun b => R b ∨ (Value.slice p1 n1 d1).ownBlock = some b ∨ (Value.slice p2 n2 d2).ownBlock = some b ∨ (Value.slice p3 n3 d3).ownBlock = some b ∨ (Value.slice p4 n4 d4).ownBlock = some b ∨ b = w10.heap.size)) GP (.inr (.inr (.inr (.inr (.inr rfl))))) BLC BLD)
    have K13 := Lib.hid (K10.out.trans kAA fun b e => .inr (by have := HBM.out; have := S0.out; omega))
    have Y13 := Lib.hid (kAA.obj (p := w.heap.size) (fun e => hbm1 e.symm) Y10.out)
    have nDN : ∀ b, c.DN b → b < w10.heap.size → ¬ b = bm := fun b h _ e => lT.out.2.1 (e ▸ (T10.out.hD b h).1)
    have BK13 := Lib.hid (SV.kept byteEl_k BK10.out kAA nDN)
    have BV13 := Lib.hid (SV.kept byteEl_k BV10.out kAA nDN)
    have nbn : bn2 ≠ bm := fun e => lT.out.2.1 (e ▸ (T10.out.hD _ DB.out).1)
    have GL13 := Lib.hid (kAA.cell (p := ⟨bn2, on2 + i * 6 + 4, none⟩) nbn GL10.out)
    have GR13 := Lib.hid (kAA.cell (p := ⟨bn2, on2 + i * 6 + 5, none⟩) nbn GR10.out)
    have hR13 := Lib.hid T13.out.hR
    have HB13 := Lib.hid T13.out.hB
    have hby : (ol.length + 1) * 104 ≤ 140737488355328 := by have := BO.out; omega
    clear gm10 kp M12 kA far nC nE la lb lc ld T12 GP kAA BLC BLD s12 hs10 hs8 h18 h89 h910 T10 OA10 OB10 GM10 K10 Y10 BK10 BV10 GL10 GR10
    go_wp2_with (at_builtin; refine wl_app_one (E := msgEl) rfl (.tmp 97) (.tmp 99) _ rfl tMsgs (D' := (fun b => R b ∨ (Value.slice p1 n1 d1).ownBlock = some b ∨ (Value.slice p2 n2 d2).ownBlock = some b ∨ (Value.slice p3 n3 d3).ownBlock = some b ∨ (Value.slice p4 n4 d4).ownBlock = some b ∨ b = w10.heap.size)) vo ol rfl T13.out.ho (w10.heap.size + 1) _ ⟨low, high, bd, (Tr.nd l k v r).size, (Tr.nd l k v r).dg seed, false, [(k, v)]⟩ rfl ⟨_, _, G13.out⟩ ⟨_, _, _, rfl, BLA.out, BLB.out, SP.out⟩ (fun b h _ => ⟨h, (hR13.out b h).2.2.1⟩) hby (by decide) HB13.out ?_)
    intro v14 w14 o14 k14 hb14
    have hb14 : ∀ b, v14.ownBlock = some b → vo.ownBlock = some b ∨ (((w10.alloc (.cells #[.slice p3 n3 d3, .slice p4 n4 d4] 70)).setCell ⟨bm, 6, none⟩ (.slice (some ⟨w10.heap.size, 0, none⟩) 1 1)).alloc (msgObj (.slice p1 n1 d1) (.slice p2 n2 d2) bd ((Tr.nd l k v r).size : Nat) ((Tr.nd l k v r).dg seed) false (.slice (some ⟨w10.heap.size, 0, none⟩) 1 1))).heap.size ≤ b := fun b e => by have := hb14 b e; simpa using this
    have T14 := T13.out.say k14 o14 hb14
    obtain ⟨a14, n14, c14, rfl⟩ := o14.slice'
    have lt := T13.out.lt
    have ne := T13.out.ne
    have lov := T13.out.ho.lt
    have hRo := hR13.out
    have no14 : ∀ b, b < c.B → vo.ownBlock ≠ some b := fun b hb e => by have := (lov b e).1; omega
    have q4' := k14.obj (no14 _ lt.2.2.1) T13.out.h4
    have q6' := k14.obj (no14 _ lt.2.2.2.2.1) T13.out.h6
    have z4' : w14.cell? ⟨c.q4, 0, none⟩ = some vo := by simp [World.cell?, q4']
    have f4' : w14.frozen? ⟨c.q4, 0, none⟩ = false := by simp [World.frozen?, q4']
    have z6' : w14.cell? ⟨c.q6, 0, none⟩ = some vc := by simp [World.cell?, q6']
    have k15 := (k14.mono (T := fun b => b = c.q4 ∨ vo.ownBlock = some b) fun b h => .inr h).setCell (p := ⟨c.q4, 0, none⟩) (.inl (.inl rfl)) (.slice a14 n14 c14)
    have nDR : ∀ b, c.DN b → ¬ (b = c.q4 ∨ vo.ownBlock = some b) := fun b h e => by
      have := hRo b (.inl (H.out.hD b h).1)
      exact e.elim this.2.1.1 this.2.2.1
    have BK15 := SV.kept byteEl_k BK13.out k15 fun b h _ => nDR b h
    have BV15 := SV.kept byteEl_k BV13.out k15 fun b h _ => nDR b h
    have GL15 := k15.cell (p := ⟨bn2, on2 + i * 6 + 4, none⟩) (nDR _ DB.out) GL13.out
    have GR15 := k15.cell (p := ⟨bn2, on2 + i * 6 + 5, none⟩) (nDR _ DB.out) GR13.out
    have nw0 : ¬ (w.heap.size = c.q4 ∨ vo.ownBlock = some w.heap.size) := fun e => by
      have h1 := H.out.lt
      have h2 := H.out.hB
      rcases e with e | e
      · omega
      · have := (H.out.ho.lt _ e).2; omega
    have Y15 := k15.obj (p := w.heap.size) nw0 Y13.out
    have K15 := (K13.out.mono (T := TalkS c vo vg vc) fun _ h => h.elim).trans k15 fun b h => .inl (h.elim (fun h => .inl h) fun h => .inr (.inr (.inr (.inl h))))
    have s15 : (w14.setCell ⟨c.q4, 0, none⟩ (.slice a14 n14 c14)).heap.size = w14.heap.size := by simp
    have k16 := (Kept.refl Noneof (w14.setCell ⟨c.q4, 0, none⟩ (.slice a14 n14 c14))).alloc (.cells #[(.slice ak k.length ck), (.slice av3 v.length cv3)] 70)
    have G16 := heap_alloc_new (w14.setCell ⟨c.q4, 0, none⟩ (.slice a14 n14 c14)) (.cells #[(.slice ak k.length ck), (.slice av3 v.length cv3)] 70)
    rw [s15] at G16
    have G16 := Lib.hid G16
    have T16 := Lib.hid (T14.kept0 k16)
    have BK16 := Lib.hid (SV.kept byteEl_k BK15 k16 fun _ _ _ h => h)
    have BV16 := Lib.hid (SV.kept byteEl_k BV15 k16 fun _ _ _ h => h)
    have GL16 := Lib.hid (k16.cell (p := ⟨bn2, on2 + i * 6 + 4, none⟩) (fun h => h) GL15)
    have GR16 := Lib.hid (k16.cell (p := ⟨bn2, on2 + i * 6 + 5, none⟩) (fun h => h) GR15)
    have Y16 := Lib.hid (k16.obj (p := w.heap.size) (fun h => h) Y15)
    have K16 := Lib.hid (K15.trans k16 fun _ h => h.elim)
    have HO14 := Lib.hid (show ∀ b, (Value.slice a14 n14 c14).ownBlock = some b → vo.ownBlock = some b ∨ w.heap.size ≤ b from fun b e => (hb14 b e).imp id fun h => by have := K13.out.size; omega)
    have hR16 := Lib.hid T16.out.hR
    have HB16 := Lib.hid T16.out.hB
    have hby2 : (cl.length + 1) * 48 ≤ 140737488355328 := by have := BC1.out; simp only [Tr.size] at this; omega
    have hq46 : c.q4 ≠ c.q6 := ne.2.2.2.1
    have hq64 : c.q6 ≠ c.q4 := fun e => hq46 e.symm
    clear o14 k14 hb14 T14 lt ne lov hRo no14 q4' q6' k15 nDR BK15 BV15 GL15 GR15 nw0 Y15 K15 s15 k16 T13 BLA BLB SP K13 Y13 BK13 BV13 GL13 GR13 hR13 HB13 hby G13
    go_wp2_with (at_builtin; refine wl_app_one (E := pairEl) rfl (.tmp 101) (.tmp 105) _ rfl tPairs (D' := c.DN) vc cl rfl T16.out.hc w14.heap.size _ (k, v) rfl ⟨_, _, G16.out⟩ ⟨_, _, rfl, BK16.out, BV16.out⟩ (fun b h _ => ⟨.inl (H.out.hD b h).1, (hR16.out b (.inl (H.out.hD b h).1)).2.2.2.2⟩) hby2 (by decide) HB16.out ?_)
    intro v17 w17 o17 k17 hb17
    have hb17 : ∀ b, v17.ownBlock = some b → vc.ownBlock = some b ∨ ((w14.setCell ⟨c.q4, 0, none⟩ (.slice a14 n14 c14)).alloc (.cells #[(.slice ak k.length ck), (.slice av3 v.length cv3)] 70)).heap.size ≤ b := fun b e => by have := hb17 b e; simpa using this
    have T17 := T16.out.come k17 o17 hb17
    obtain ⟨a17, n17, c17, rfl⟩ := o17.slice'
    have lt := T16.out.lt
    have lcv := T16.out.hc.lt
    have nc17 : ∀ b, b < c.B → vc.ownBlock ≠ some b := fun b hb e => by have := (lcv b e).1; omega
    have q6' := k17.obj (nc17 _ lt.2.2.2.2.1) T16.out.h6
    have z6' : w17.cell? ⟨c.q6, 0, none⟩ = some vc := by simp [World.cell?, q6']
    have f6' : w17.frozen? ⟨c.q6, 0, none⟩ = false := by simp [World.frozen?, q6']
    have k18 := (k17.mono (T := fun b => b = c.q6 ∨ vc.ownBlock = some b) fun b h => .inr h).setCell (p := ⟨c.q6, 0, none⟩) (.inl (.inl rfl)) (.slice a17 n17 c17)
    have nDR : ∀ b, c.DN b → ¬ (b = c.q6 ∨ vc.ownBlock = some b) := fun b h e => by
      have := hR16.out b (.inl (H.out.hD b h).1)
      exact e.elim this.2.1.2.2 this.2.2.2.2
    have nw0 : ¬ (w.heap.size = c.q6 ∨ vc.ownBlock = some w.heap.size) := fun e => by
      have h1 := H.out.lt
      have h2 := H.out.hB
      rcases e with e | e
      · omega
      · have := (H.out.hc.lt _ e).2; omega
    have nw1 : vc.ownBlock ≠ some w.heap.size := fun e => nw0 (.inr e)
    have y17 := k17.obj (p := w.heap.size) nw1 Y16.out
    have y0 : w17.cell? ⟨w.heap.size, 0, none⟩ = some (.slice a1 low.length c1) := by simp [World.cell?, y17]
    have y1 : w17.cell? ⟨w.heap.size, 1, none⟩ = some (.slice a2 high.length c2) := by simp [World.cell?, y17]
    have y2 : w17.cell? ⟨w.heap.size, 2, none⟩ = some (.bool bd) := by simp [World.cell?, y17]
    have hq6w : c.q6 ≠ w.heap.size := fun e => nw0 (.inl e.symm)
    have BK18 := SV.kept byteEl_k BK16.out k18 fun b h _ => nDR b h
    have GL18 := k18.cell (p := ⟨bn2, on2 + i * 6 + 4, none⟩) (nDR _ DB.out) GL16.out
    have GR18 := k18.cell (p := ⟨bn2, on2 + i * 6 + 5, none⟩) (nDR _ DB.out) GR16.out
    have Y18 := k18.obj (p := w.heap.size) nw0 Y16.out
    have K18 := K16.out.trans k18 fun b h => .inl (h.elim (fun h => .inr (.inr (.inl h))) fun h => .inr (.inr (.inr (.inr (.inr h)))))
    have HC17 := Lib.hid (show ∀ b, (Value.slice a17 n17 c17).ownBlock = some b → vc.ownBlock = some b ∨ w.heap.size ≤ b from fun b e => (hb17 b e).imp id fun h => by have := K16.out.size; omega)
    clear o17 k17 hb17 lt lcv nc17 q6' k18 nDR nw1 y17 T16 BK16 BV16 GL16 GR16 Y16 K16 hR16 HB16 hby2 G16 m0 m1 m2 m3 m4 m5 m6 mf z4 nw0
    have T17 := Lib.hid T17
    have BK18 := Lib.hid BK18
    have GL18 := Lib.hid GL18
    have GR18 := Lib.hid GR18
    have Y18 := Lib.hid Y18
    have K18 := Lib.hid K18
    go_wp2_with fail
    generalize w17.setCell ⟨c.q6, 0, none⟩ (.slice a17 n17 c17) = w18 at *
    have nS : ∀ b, R b → b < w.heap.size → ¬ TalkS c vo vg vc b := fun b hb _ e => by
      have := H.out.hR b hb
      rcases e with e | e | e | e | e | e
      · exact this.2.1.1 e
      · exact this.2.1.2.1 e
      · exact this.2.1.2.2 e
      · exact this.2.2.1 e
      · exact this.2.2.2.1 e
      · exact this.2.2.2.2 e
    have BL18 := Lib.hid (H1.out.kept byteEl_k K18.out nS)
    have BH18 := Lib.hid (H2.out.kept byteEl_k K18.out nS)
    clear nS z6' f6' y0 y1 y2 hq6w
    refine (swspan_parts_calls BL18.out BH18.out BK18.out (by have := KV.out; omega)).mono ?_
    rintro e w19 ⟨nv, rfl, bn19, k19⟩
    have BN19 := Lib.hid bn19
    obtain ⟨a19, n19, c19, rfl⟩ : ∃ a n c, nv = .slice a n c := by obtain ⟨a, c, h, _⟩ := bn19; exact ⟨_, _, _, h⟩
    have K19 := Lib.hid k19
    clear bn19 k19
    go_wp2_with fail
    have g1 := heap_alloc_new w19 (.cells #[.slice a1 low.length c1, .slice ak k.length ck, .bool true] 170)
    have k1 := (Kept.refl Noneof w19).alloc (.cells #[.slice a1 low.length c1, .slice ak k.length ck, .bool true] 170)
    have s1 : (w19.alloc (.cells #[.slice a1 low.length c1, .slice ak k.length ck, .bool true] 170)).heap.size = w19.heap.size + 1 := by simp
    generalize w19.alloc (.cells #[.slice a1 low.length c1, .slice ak k.length ck, .bool true] 170) = wx at *
    have g2 := heap_alloc_new wx (.cells #[.slice a19 n19 c19, .slice a2 high.length c2, .bool bd] 170)
    have k2 := (Kept.refl Noneof wx).alloc (.cells #[.slice a19 n19 c19, .slice a2 high.length c2, .bool bd] 170)
    have s2 : (wx.alloc (.cells #[.slice a19 n19 c19, .slice a2 high.length c2, .bool bd] 170)).heap.size = w19.heap.size + 2 := by simp [s1]
    generalize wx.alloc (.cells #[.slice a19 n19 c19, .slice a2 high.length c2, .bool bd] 170) = w20 at *
    rw [s1] at g2
    have k1820 := (K19.out.trans k1 fun _ h => h.elim).trans k2 fun _ h => h.elim
    have G15 := Lib.hid (k2.obj (fun h => h) g1)
    have G16 := Lib.hid g2
    have z19 : w18.heap.size ≤ w19.heap.size := K19.out.size
    have T20 := Lib.hid ((T17.out.kept0 k1820).wide (R' := fun b => (R b ∨ (Value.slice p1 n1 d1).ownBlock = some b ∨ (Value.slice p2 n2 d2).ownBlock = some b ∨ (Value.slice p3 n3 d3).ownBlock = some b ∨ (Value.slice p4 n4 d4).ownBlock = some b ∨ b = w10.heap.size) ∨ w18.heap.size ≤ b ∧ b < w19.heap.size) (fun b h => .inl h) (fun b h => h.imp id fun h => ⟨by omega, by have := T17.out.hB; omega, fun e => by have := (T17.out.ho.lt b e).2; omega, fun e => by have := (T17.out.hg.lt b e).2; omega, fun e => by have := (T17.out.hc.lt b e).2; omega⟩))
    have BL20 := Lib.hid ((BL18.out.kept byteEl_k k1820 fun _ _ _ h => h).wide (D' := fun b => (R b ∨ (Value.slice p1 n1 d1).ownBlock = some b ∨ (Value.slice p2 n2 d2).ownBlock = some b ∨ (Value.slice p3 n3 d3).ownBlock = some b ∨ (Value.slice p4 n4 d4).ownBlock = some b ∨ b = w10.heap.size) ∨ w18.heap.size ≤ b ∧ b < w19.heap.size) byteEl_k fun b h _ => .inl (.inl h))
    have BH20 := Lib.hid ((BH18.out.kept byteEl_k k1820 fun _ _ _ h => h).wide (D' := fun b => (R b ∨ (Value.slice p1 n1 d1).ownBlock = some b ∨ (Value.slice p2 n2 d2).ownBlock = some b ∨ (Value.slice p3 n3 d3).ownBlock = some b ∨ (Value.slice p4 n4 d4).ownBlock = some b ∨ b = w10.heap.size) ∨ w18.heap.size ≤ b ∧ b < w19.heap.size) byteEl_k fun b h _ => .inl (.inl h))
    have BK20 := Lib.hid ((SV.kept byteEl_k BK18.out k1820 fun _ _ _ h => h).wide (D' := fun b => (R b ∨ (Value.slice p1 n1 d1).ownBlock = some b ∨ (Value.slice p2 n2 d2).ownBlock = some b ∨ (Value.slice p3 n3 d3).ownBlock = some b ∨ (Value.slice p4 n4 d4).ownBlock = some b ∨ b = w10.heap.size) ∨ w18.heap.size ≤ b ∧ b < w19.heap.size) byteEl_k fun b h _ => .inl (.inl (H.out.hD b h).1))
    have BN20 := Lib.hid (((BN19.out.bd byteEl_k).kept byteEl_k (k1.trans k2 fun _ h => h.elim) fun _ _ _ h => h).wide (D' := fun b => (R b ∨ (Value.slice p1 n1 d1).ownBlock = some b ∨ (Value.slice p2 n2 d2).ownBlock = some b ∨ (Value.slice p3 n3 d3).ownBlock = some b ∨ (Value.slice p4 n4 d4).ownBlock = some b ∨ b = w10.heap.size) ∨ w18.heap.size ≤ b ∧ b < w19.heap.size) byteEl_k fun b h _ => .inr h)
    have GL20 := Lib.hid (k1820.cell (p := ⟨bn2, on2 + i * 6 + 4, none⟩) (fun h => h) GL18.out)
    have GR20 := Lib.hid (k1820.cell (p := ⟨bn2, on2 + i * 6 + 5, none⟩) (fun h => h) GR18.out)
    have K20 := Lib.hid (K18.out.trans k1820 fun _ h => h.elim)
    have n1516 : ∀ b, w19.heap.size ≤ b → ¬ TalkS c (.slice a14 n14 c14) vg (.slice a17 n17 c17) b := fun b h => T17.out.newS b (by omega)
    have HS2 := Lib.hid s2
    have HZ19 := Lib.hid z19
    have g15 := G15.out
    have t20 := T20.out.h2
    rw [HVN.out] at t20
    have x7 : w20.cell? ⟨c.q7, 0, none⟩ = some (.func (.func 117) #[] #[bp c.q2, bp c.q3, bp c.q4, bp c.q5, bp c.q6, bp c.q7]) := by simp [World.cell?, T20.out.h7]
    have x2 : w20.cell? ⟨c.q2, 0, none⟩ = some (.slice (some ⟨bn2, on2, none⟩) c.L.length cv2) := by simp [World.cell?, t20]
    have x0 : w20.cell? ⟨w19.heap.size, 0, none⟩ = some (.slice a1 low.length c1) := by simp [World.cell?, g15]
    have x1 : w20.cell? ⟨w19.heap.size, 1, none⟩ = some (.slice ak k.length ck) := by simp [World.cell?, g15]
    have x3 : w20.cell? ⟨w19.heap.size, 2, none⟩ = some (.bool true) := by simp [World.cell?, g15]
    have x4 := GL20.out
    clear g1 k1 s1 g2 k2 s2 k1820 z19 T17 BL18 BH18 BK18 BN19 GL18 GR18 K18 K19 g15 t20
    refine wp_region_chain 8 [7] (fun w' => w'.cell? ⟨c.q7, 0, none⟩ = some (.func (.func 117) #[] #[bp c.q2, bp c.q3, bp c.q4, bp c.q5, bp c.q6, bp c.q7]) ∧ w'.cell? ⟨c.q2, 0, none⟩ = some (.slice (some ⟨bn2, on2, none⟩) c.L.length cv2) ∧ w'.cell? ⟨w19.heap.size, 0, none⟩ = some (.slice a1 low.length c1) ∧ w'.cell? ⟨w19.heap.size, 1, none⟩ = some (.slice ak k.length ck) ∧ w'.cell? ⟨w19.heap.size, 2, none⟩ = some (.bool true) ∧ w'.cell? ⟨bn2, on2 + i * 6 + 4, none⟩ = some (.int .i64 (ndOf seed l k v r i).left)) (by kernel_rfl) (by kernel_rfl) ?_ ?_
    · exact ⟨x7, x2, x0, x1, x3, x4⟩
    simp only [List.take_succ_cons, List.take_zero, List.drop_succ_cons, List.drop_zero]
    iterate 7 (refine SeqY.val (v := ?_) (by rfl) (by rfl) (fun wx hSw => ?_) ?_; rotate_left; (focus ((try dsimp only at hSw); go_simp; (try with_reducible rfl))); (try simp only [Act.put, List.setIfInBounds_toArray, List.set_cons_zero, List.set_cons_succ]))
    refine SeqY.act (by rfl) rfl (by rfl) (by rfl) (fun K hK => ?_)
    go_simp
    have b1 := BO1.out
    have b2 := BG1.out
    have b3 := BC1.out
    have bb := Lib.hid (talk_bnd1 b1 b2 b3)
    refine (IL.out _ _ vg _ w20.drew (ol ++ [⟨low, high, bd, (Tr.nd l k v r).size, (Tr.nd l k v r).dg seed, false, [(k, v)]⟩]) gl (cl ++ [(k, v)]) _ _ low k true _ (T20.out.kept0 ((Kept.refl Noneof w20).drew)) (BL20.out.at rfl) (BK20.out.at rfl) NL.out (by rw [len_one]; exact bb.out.1) bb.out.2.1 (by rw [len_one]; exact bb.out.2.2)).mono ?_
    rintro e w21 ⟨⟨v21, rfl⟩, R21, vo21, vg21, vc21, T21, hR21, k21, hb21⟩
    have k21 : Kept (TalkS c (.slice a14 n14 c14) vg (.slice a17 n17 c17)) w20 w21 := ⟨k21.os, k21.tape, k21.output, k21.size, k21.block⟩
    have hb21 : ∀ b, (vo21.ownBlock = some b → (Value.slice a14 n14 c14).ownBlock = some b ∨ w20.heap.size ≤ b) ∧ (vg21.ownBlock = some b → vg.ownBlock = some b ∨ w20.heap.size ≤ b) ∧ (vc21.ownBlock = some b → (Value.slice a17 n17 c17).ownBlock = some b ∨ w20.heap.size ≤ b) := hb21
    have t20 := T20.out
    have n15 : ¬ TalkS c (.slice a14 n14 c14) vg (.slice a17 n17 c17) w19.heap.size := n1516 _ (Nat.le_refl _)
    have n16 : ¬ TalkS c (.slice a14 n14 c14) vg (.slice a17 n17 c17) (w19.heap.size + 1) := n1516 _ (Nat.le_succ _)
    have nbn2 : ¬ TalkS c (.slice a14 n14 c14) vg (.slice a17 n17 c17) bn2 := t20.notS bn2 (.inl (.inl (H.out.hD _ DB.out).1))
    have t21 := T21.h2
    rw [HVN.out] at t21
    have x7' : w21.cell? ⟨c.q7, 0, none⟩ = some (.func (.func 117) #[] #[bp c.q2, bp c.q3, bp c.q4, bp c.q5, bp c.q6, bp c.q7]) := by simp [World.cell?, T21.h7]
    have x2' : w21.cell? ⟨c.q2, 0, none⟩ = some (.slice (some ⟨bn2, on2, none⟩) c.L.length cv2) := by simp [World.cell?, t21]
    have g16 := k21.obj n16 G16.out
    have x0' : w21.cell? ⟨w19.heap.size + 1, 0, none⟩ = some (.slice a19 n19 c19) := by simp [World.cell?, g16]
    have x1' : w21.cell? ⟨w19.heap.size + 1, 1, none⟩ = some (.slice a2 high.length c2) := by simp [World.cell?, g16]
    have x3' : w21.cell? ⟨w19.heap.size + 1, 2, none⟩ = some (.bool bd) := by simp [World.cell?, g16]
    have x4' := k21.cell (p := ⟨bn2, on2 + i * 6 + 5, none⟩) nbn2 GR20.out
    refine hK.out _ _ ⟨x7', x2', k21.cell (p := ⟨w19.heap.size, 0, none⟩) n15 x0, k21.cell (p := ⟨w19.heap.size, 1, none⟩) n15 x1, k21.cell (p := ⟨w19.heap.size, 2, none⟩) n15 x3, k21.cell (p := ⟨bn2, on2 + i * 6 + 4, none⟩) nbn2 x4⟩ ?_
    have BN21 := Lib.hid ((BN20.out.kept byteEl_k k21 fun b h _ => t20.notS b h).wide byteEl_k fun b h _ => hR21 b h)
    have BH21 := Lib.hid ((BH20.out.kept byteEl_k k21 fun b h _ => t20.notS b h).wide byteEl_k fun b h _ => hR21 b h)
    have NN16 := Lib.hid (show ¬ TalkS c vo21 vg21 vc21 (w19.heap.size + 1) from fun e => (TalkS.tr (n := w20.heap.size) hb21 _ e).elim n16 fun h => by have := HS2.out; omega)
    have HR21 := Lib.hid (show ∀ b, R b → R21 b from fun b h => hR21 b (.inl (.inl h)))
    have K20b := Lib.hid (K20.out.trans k21 fun b hb => TalkS.tr (vo := vo) (vg := vg) (vc := vc) (fun b => ⟨HO14.out b, .inl, HC17.out b⟩) b hb)
    have hw20 := K20.out.size
    have HB21 := Lib.hid (show ∀ b, (vo21.ownBlock = some b → vo.ownBlock = some b ∨ w.heap.size ≤ b) ∧ (vg21.ownBlock = some b → vg.ownBlock = some b ∨ w.heap.size ≤ b) ∧ (vc21.ownBlock = some b → vc.ownBlock = some b ∨ w.heap.size ≤ b) from fun b => ⟨fun e => ((hb21 b).1 e).elim (HO14.out b) fun h => .inr (by omega), fun e => ((hb21 b).2.1 e).imp id fun h => by omega, fun e => ((hb21 b).2.2 e).elim (HC17.out b) fun h => .inr (by omega)⟩)
    have T21 := Lib.hid T21
    have BB2 := Lib.hid (talk_bnd2 b1 b2 b3 (talk_le seed u l low k true) (gones_le seed u HU.out l low k true) (comes_le seed u l low k true))
    clear K hK k21 hb21 t20 n15 n16 nbn2 t21 x7 x2 x0 x1 x3 x4 g16 hR21 hw20 bb T20 BL20 BH20 BK20 BN20 GL20 GR20 K20 G15 G16 b1 b2 b3
    (try simp only [Act.put, List.setIfInBounds_toArray, List.set_cons_zero, List.set_cons_succ])
    refine SeqY.nil ?_
    go_wp2_with fail
    refine wp_region_chain 8 [7] (fun w' => w'.cell? ⟨c.q7, 0, none⟩ = some (.func (.func 117) #[] #[bp c.q2, bp c.q3, bp c.q4, bp c.q5, bp c.q6, bp c.q7]) ∧ w'.cell? ⟨c.q2, 0, none⟩ = some (.slice (some ⟨bn2, on2, none⟩) c.L.length cv2) ∧ w'.cell? ⟨w19.heap.size + 1, 0, none⟩ = some (.slice a19 n19 c19) ∧ w'.cell? ⟨w19.heap.size + 1, 1, none⟩ = some (.slice a2 high.length c2) ∧ w'.cell? ⟨w19.heap.size + 1, 2, none⟩ = some (.bool bd) ∧ w'.cell? ⟨bn2, on2 + i * 6 + 5, none⟩ = some (.int .i64 (ndOf seed l k v r i).right)) (by kernel_rfl) (by kernel_rfl) ?_ ?_
    · exact ⟨x7', x2', x0', x1', x3', x4'⟩
    simp only [List.take_succ_cons, List.take_zero, List.drop_succ_cons, List.drop_zero]
    iterate 7 (refine SeqY.val (v := ?_) (by rfl) (by rfl) (fun wx hSw => ?_) ?_; rotate_left; (focus ((try dsimp only at hSw); go_simp; (try with_reducible rfl))); (try simp only [Act.put, List.setIfInBounds_toArray, List.set_cons_zero, List.set_cons_succ]))
    refine SeqY.act (by rfl) rfl (by rfl) (by rfl) (fun K hK => ?_)
    go_simp
    refine (IR.out _ _ _ _ w21.drew _ _ _ _ _ (k ++ [0]) high bd _ (T21.out.kept0 ((Kept.refl Noneof w21).drew)) (BN21.out.at rfl) (BH21.out.at rfl) NR.out (by rw [List.length_append, len_one]; exact BB2.out.1) (by rw [List.length_append]; exact BB2.out.2.1) (by rw [List.length_append, len_one]; exact BB2.out.2.2)).mono ?_
    rintro e w22 ⟨⟨v22, rfl⟩, R22, vo22, vg22, vc22, T22, hR22, k22, hb22⟩
    have k22 : Kept (TalkS c vo21 vg21 vc21) w21 w22 := ⟨k22.os, k22.tape, k22.output, k22.size, k22.block⟩
    have hb22 : ∀ b, (vo22.ownBlock = some b → vo21.ownBlock = some b ∨ w21.heap.size ≤ b) ∧ (vg22.ownBlock = some b → vg21.ownBlock = some b ∨ w21.heap.size ≤ b) ∧ (vc22.ownBlock = some b → vc21.ownBlock = some b ∨ w21.heap.size ≤ b) := hb22
    have t22 := T22.h2
    rw [HVN.out] at t22
    have nn : ∀ b, (b = w19.heap.size + 1 ∨ b = bn2) → ¬ TalkS c vo21 vg21 vc21 b := fun b hb => by
      rcases hb with rfl | rfl
      · exact NN16.out
      · exact T21.out.notS _ (HR21.out _ (H.out.hD _ DB.out).1)
    refine hK.out _ _ ⟨by simp [World.cell?, T22.h7], by simp [World.cell?, t22], k22.cell (p := ⟨w19.heap.size + 1, 0, none⟩) (nn _ (.inl rfl)) x0', k22.cell (p := ⟨w19.heap.size + 1, 1, none⟩) (nn _ (.inl rfl)) x1', k22.cell (p := ⟨w19.heap.size + 1, 2, none⟩) (nn _ (.inl rfl)) x3', k22.cell (p := ⟨bn2, on2 + i * 6 + 5, none⟩) (nn _ (.inr rfl)) x4'⟩ ?_
    clear K hK
    (try simp only [Act.put, List.setIfInBounds_toArray, List.set_cons_zero, List.set_cons_succ])
    refine SeqY.nil ?_
    go_wp2
    refine bodyPost_ret (results_none rfl _ _ _) rfl ?_
    have hs := HS.out
    have q1 : ol ++ talk seed u (.nd l k v r) low high bd = ol ++ [⟨low, high, bd, (Tr.nd l k v r).size, (Tr.nd l k v r).dg seed, false, [(k, v)]⟩] ++ talk seed u l low k true ++ talk seed u r (k ++ [0]) high bd := by rw [talk, if_neg (by rw [hs]; simp)]; simp
    have q2 : gl ++ gones seed u (.nd l k v r) low high bd = gl ++ gones seed u l low k true ++ gones seed u r (k ++ [0]) high bd := by rw [gones, if_neg (by rw [hs]; simp)]; simp
    have q3 : cl ++ comes seed u (.nd l k v r) low high bd = cl ++ [(k, v)] ++ comes seed u l low k true ++ comes seed u r (k ++ [0]) high bd := by rw [comes, if_neg (by rw [hs]; simp)]; simp
    rw [q1, q2, q3]
    have hw21 := K20b.out.size
    exact ⟨⟨_, rfl⟩, R22, vo22, vg22, vc22, T22, fun b h => hR22 b (HR21.out b h), K20b.out.trans k22 fun b hb => TalkS.tr HB21.out b hb, fun b => ⟨fun e => ((hb22 b).1 e).elim ((HB21.out b).1) fun h => .inr (by omega), fun e => ((hb22 b).2.1 e).elim ((HB21.out b).2.1) fun h => .inr (by omega), fun e => ((hb22 b).2.2 e).elim ((HB21.out b).2.2) fun h => .inr (by omega)⟩⟩)
    | true =>
      have hs : sameAt seed u (.nd l k v r) low high bd = true := by unfold sameAt; rw [g1, g2]; rfl
      (
    have M7 := (Kept.refl (fun b => b = bm) w6).setCell (p := ⟨bm, 5, none⟩) (.inl rfl) (.bool true)
    have T7 := T6.out.kept M7 fun b e => by subst e; exact lT.out
    have OA7 := OA6.out.kept M7 fun b hb _ => ⟨fun h => h.elim, fun e => by have hb : b = bm := hb; subst hb; exact nA.out e⟩
    have OB7 := OB6.out.kept M7 fun b hb _ => ⟨fun h => h.elim, fun e => by have hb : b = bm := hb; subst hb; exact nB.out e⟩
    have GM7 := setCell_obj GM6.out (.bool true) (j := 5)
    have A7 := (Kept.refl Noneof (w6.setCell ⟨bm, 5, none⟩ (.bool true))).alloc (msgObj (.slice p1 n1 d1) (.slice p2 n2 d2) bd ((Tr.nd l k v r).size : Nat) ((Tr.nd l k v r).dg seed) true (.slice none 0 0))
    have G8 := heap_alloc_new (w6.setCell ⟨bm, 5, none⟩ (.bool true)) (msgObj (.slice p1 n1 d1) (.slice p2 n2 d2) bd ((Tr.nd l k v r).size : Nat) ((Tr.nd l k v r).dg seed) true (.slice none 0 0))
    rw [show (w6.setCell ⟨bm, 5, none⟩ (.bool true)).heap.size = w6.heap.size by simp] at G8
    have G8 := Lib.hid G8
    have OA8 := Lib.hid (OA7.kept A7 fun _ h => h.elim)
    have OB8 := Lib.hid (OB7.kept A7 fun _ h => h.elim)
    have GM8 := Lib.hid (A7.obj (fun h => h) GM7)
    have K8 := Lib.hid ((K6.out.trans M7 fun b e => .inr (by have := HBM.out; have := S0.out; omega)).trans A7 fun _ h => h.elim)
    have T8 := Lib.hid ((T7.kept0 A7).wide (R' := fun b => R b ∨ (Value.slice p1 n1 d1).ownBlock = some b ∨ (Value.slice p2 n2 d2).ownBlock = some b) (fun b h => .inl h) (by
      have t := H.out
      have e3 := t.hB
      have e2 := S0.out
      have la := OA8.out.lt
      have lb := OB8.out.lt
      have far : ∀ b, w1.heap.size ≤ b → b < ((w6.setCell ⟨bm, 5, none⟩ (.bool true)).alloc (msgObj (.slice p1 n1 d1) (.slice p2 n2 d2) bd ((Tr.nd l k v r).size : Nat) ((Tr.nd l k v r).dg seed) true (.slice none 0 0))).heap.size → b < ((w6.setCell ⟨bm, 5, none⟩ (.bool true)).alloc (msgObj (.slice p1 n1 d1) (.slice p2 n2 d2) bd ((Tr.nd l k v r).size : Nat) ((Tr.nd l k v r).dg seed) true (.slice none 0 0))).heap.size ∧ c.B ≤ b ∧ vo.ownBlock ≠ some b ∧ vg.ownBlock ≠ some b ∧ vc.ownBlock ≠ some b := fun b h1 h2 => ⟨h2, by omega, fun e => by have := (t.ho.lt b e).2; omega, fun e => by have := (t.hg.lt b e).2; omega, fun e => by have := (t.hc.lt b e).2; omega⟩
      rintro b (h | h | h)
      · exact .inl h
      · exact .inr (far b (la b h).1 (la b h).2)
      · exact .inr (far b (lb b h).1 (lb b h).2)))
    have hR8 := Lib.hid T8.out.hR
    have hB8 := T8.out.hB
    have bo := BO.out
    have BLA := Lib.hid (OA8.out.rd (D' := fun b => R b ∨ (Value.slice p1 n1 d1).ownBlock = some b ∨ (Value.slice p2 n2 d2).ownBlock = some b) (fun _ h => h.elim) fun b h => .inr (.inl h))
    have BLB := Lib.hid (OB8.out.rd (D' := fun b => R b ∨ (Value.slice p1 n1 d1).ownBlock = some b ∨ (Value.slice p2 n2 d2).ownBlock = some b) (fun _ h => h.elim) fun b h => .inr (.inr h))
    have HB8 := Lib.hid hB8
    have hby : (ol.length + 1) * 104 ≤ 140737488355328 := by omega
    clear M7 T7 OA7 OB7 GM7 A7 hB8 bo
    go_wp2_with (at_builtin; refine wl_app_one (E := msgEl) rfl (.tmp 68) (.tmp 70) _ rfl tMsgs (D' := fun b => R b ∨ (Value.slice p1 n1 d1).ownBlock = some b ∨ (Value.slice p2 n2 d2).ownBlock = some b) vo ol rfl T8.out.ho w6.heap.size _ ⟨low, high, bd, (Tr.nd l k v r).size, ((Tr.nd l k v r).dg seed), true, []⟩ rfl ⟨_, _, G8.out⟩ ⟨_, _, _, rfl, BLA.out, BLB.out, SV.nilv _ _ _⟩ (fun b h _ => ⟨h, (hR8.out b h).2.2.1⟩) hby (by decide) HB8.out ?_)
    intro v9 w9 o9 k9 hb9
    have hb9 : ∀ b, v9.ownBlock = some b → vo.ownBlock = some b ∨ ((w6.setCell ⟨bm, 5, none⟩ (.bool true)).alloc (msgObj (.slice p1 n1 d1) (.slice p2 n2 d2) bd ((Tr.nd l k v r).size : Nat) ((Tr.nd l k v r).dg seed) true (.slice none 0 0))).heap.size ≤ b := fun b e => by have := hb9 b e; simpa using this
    have T9 := Lib.hid (T8.out.say k9 o9 hb9)
    have LV := Lib.hid o9.lt
    obtain ⟨a9, n9, c9, rfl⟩ := o9.slice'
    have no9 : ∀ b, b < c.B → vo.ownBlock ≠ some b := fun b hb e => by have := (T8.out.ho.lt b e).1; omega
    have q9 : w9.heap[c.q4]? = some (.cells #[vo] 85) := k9.obj (no9 _ T8.out.lt.2.2.1) T8.out.h4
    have z9 : w9.cell? ⟨c.q4, 0, none⟩ = some vo := by simp [World.cell?, q9]
    have f9 : w9.frozen? ⟨c.q4, 0, none⟩ = false := by simp [World.frozen?, q9]
    have gm9 := k9.obj (p := bm) lT.out.2.2.1 GM8.out
    have m9 : w9.cell? ⟨bm, 5, none⟩ = some (.bool true) := by simp [World.cell?, gm9]
    have K9 := Lib.hid ((K8.out.mono (T := TalkS c vo vg vc) fun _ h => h.elim).trans k9 fun b h => .inl (.inr (.inr (.inr (.inl h)))))
    have K9' := Lib.hid (K9.out.setCell (p := ⟨c.q4, 0, none⟩) (.inl (.inl rfl)) (.slice a9 n9 c9))
    have HB9 := Lib.hid hb9
    have Y9 := Lib.hid (k9.obj (p := w.heap.size) (fun e => by have := (H.out.ho.lt _ e).2; omega) (((Kept.refl Noneof (w6.setCell ⟨bm, 5, none⟩ (.bool true))).alloc (msgObj (.slice p1 n1 d1) (.slice p2 n2 d2) bd ((Tr.nd l k v r).size : Nat) ((Tr.nd l k v r).dg seed) true (.slice none 0 0))).obj (fun h => h) (((Kept.refl (fun b => b = bm) w6).setCell (p := ⟨bm, 5, none⟩) (.inl rfl) (.bool true)).obj (p := w.heap.size) (fun e => hbm1 e.symm) Y6.out)))
    clear o9 k9 hb9 q9 gm9 no9)
      go_wp2
      refine bodyPost_ret (results_none rfl _ _ _) rfl ?_
      have q1 : talk seed u (.nd l k v r) low high bd = [⟨low, high, bd, (Tr.nd l k v r).size, (Tr.nd l k v r).dg seed, true, []⟩] := by rw [talk, if_pos hs]
      have q2 : gones seed u (.nd l k v r) low high bd = [] := by rw [gones, if_pos hs]
      have q3 : comes seed u (.nd l k v r) low high bd = [] := by rw [comes, if_pos hs]
      rw [q1, q2, q3, List.append_nil, List.append_nil]
      have TF := T9.out
      exact ⟨⟨_, rfl⟩, _, _, vg, vc, TF, fun b h => .inl h, K9'.out, fun b => ⟨fun e => (HB9.out b e).imp id fun h => by have := K8.out.size; omega, fun h => .inl h, fun h => .inl h⟩⟩
end Go.Proofs.Ytaopjdjbpamhhaa
/- Proved: contract of the talk of a mirror (Mirror's closure) at every span. Conditions: what TalkIn says. -/
namespace Go.Proofs.Ytaopjdjbpamhhaa
open Go Go.RowKit
set_option linter.unusedVariables false
set_option linter.unusedSimpArgs false

theorem swMirror_1_calls {seed : Int} {u : Tr} {c : TK} (hg : Srt u.pairs) (hu : u.size ≤ 1000000) (hcL : c.L.length ≤ 1000000) : ∀ (t : Tr), t.ok → ∀ (R : Nat → Prop) (vo vg vc : Value) (w : World) (ol : List Msg) (gl : List Bts) (cl : List (Bts × Bts)) (lo hi : Value) (low high : Bts) (bd : Bool) (at' : Int), TalkIn seed u c R vo vg vc w ol gl cl → BV R w lo low → BV R w hi high → NodesAt seed c.L t at' → ol.length + 2 * t.size + 1 ≤ 1000000 → gl.length + (t.size + 1) * 1000000 ≤ 1000000000000 → cl.length + t.size ≤ 1000000 →
      Calls Try.prog 117 #[.agg #[lo, hi, .bool bd], .int .i64 at', bp c.q2, bp c.q3, bp c.q4, bp c.q5, bp c.q6, bp c.q7] w (TalkPost seed u c R vo vg vc w (ol ++ talk seed u t low high bd) (gl ++ gones seed u t low high bd) (cl ++ comes seed u t low high bd))
  | .nil, _, R, vo, vg, vc, w, ol, gl, cl, lo, hi, low, high, bd, at', h, h1, h2, hn, b1, b2, b3 => by
    have hn : at' = -1 := hn
    subst hn
    exact swMirror_1_nil hg hu h h1 h2 (Nat.le_trans (Nat.le_trans (Nat.le_add_right _ _) (Nat.le_add_right _ _)) b1) (Nat.le_trans (Nat.le_add_right _ _) b2)
  | .nd l k v r, ok, R, vo, vg, vc, w, ol, gl, cl, lo, hi, low, high, bd, at', h, h1, h2, hn, b1, b2, b3 =>
    swMirror_1_nd hg hu ok.2.1 hcL (swMirror_1_calls hg hu hcL l ok.1) (swMirror_1_calls hg hu hcL r ok.2.2) h h1 h2 hn b1 b2 b3
end Go.Proofs.Ytaopjdjbpamhhaa
/- Proved: contract of swap.Mirror on two maps of one seed. Conditions: maps in memory, at different places, whose blocks are different. -/
namespace Go.Proofs.Ytaopjdjbpamhhaa
open Go Go.RowKit
set_option linter.unusedVariables false
set_option linter.unusedSimpArgs false

/-- A map without some keys; a map with some pairs. -/
def dropAll (seed : Int) (u : Tr) (ks : List Bts) : Tr := ks.foldl (fun t k => if (t.get k).isSome then t.drop seed k else t) u
def putAll (seed : Int) (u : Tr) (ps : List (Bts × Bts)) : Tr := ps.foldl (fun t p => t.put seed p.1 p.2) u

theorem alloc5 (w : World) (o1 o2 o3 o4 o5 : Obj) : (((((w.alloc o1).alloc o2).alloc o3).alloc o4).alloc o5).heap[w.heap.size]? = some o1 ∧ (((((w.alloc o1).alloc o2).alloc o3).alloc o4).alloc o5).heap[w.heap.size + 1]? = some o2 ∧ (((((w.alloc o1).alloc o2).alloc o3).alloc o4).alloc o5).heap[w.heap.size + 1 + 1]? = some o3 ∧ (((((w.alloc o1).alloc o2).alloc o3).alloc o4).alloc o5).heap[w.heap.size + 1 + 1 + 1]? = some o4 ∧ (((((w.alloc o1).alloc o2).alloc o3).alloc o4).alloc o5).heap[w.heap.size + 1 + 1 + 1 + 1]? = some o5 ∧ (((((w.alloc o1).alloc o2).alloc o3).alloc o4).alloc o5).heap.size = w.heap.size + 5 ∧ Kept Noneof w (((((w.alloc o1).alloc o2).alloc o3).alloc o4).alloc o5) := by
  have g1 := heap_alloc_new w o1
  have g2 := heap_alloc_new (w.alloc o1) o2
  have g3 := heap_alloc_new ((w.alloc o1).alloc o2) o3
  have g4 := heap_alloc_new (((w.alloc o1).alloc o2).alloc o3) o4
  have g5 := heap_alloc_new ((((w.alloc o1).alloc o2).alloc o3).alloc o4) o5
  simp only [World.size_alloc] at g2 g3 g4 g5
  have k : ∀ (A : World) (o : Obj), Kept Noneof A (A.alloc o) := fun A o => (Kept.refl _ A).alloc o
  exact ⟨(k _ _).obj (fun h => h) ((k _ _).obj (fun h => h) ((k _ _).obj (fun h => h) ((k _ _).obj (fun h => h) g1))), (k _ _).obj (fun h => h) ((k _ _).obj (fun h => h) ((k _ _).obj (fun h => h) g2)), (k _ _).obj (fun h => h) ((k _ _).obj (fun h => h) g3), (k _ _).obj (fun h => h) g4, g5, by simp only [World.size_alloc], (((((Kept.refl _ w).alloc _).alloc _).alloc _).alloc _).alloc _⟩
theorem mir_bnd {n : Nat} (h : n ≤ 100000) : ([] : List Bts).length + (n + 1) * 1000000 ≤ 1000000000000 := by simp only [List.length_nil]; omega
theorem dropAll_succ (seed : Int) (u : Tr) (G : List Bts) (n : Nat) (h : n < G.length) : dropAll seed u (G.take (n + 1)) = if ((dropAll seed u (G.take n)).get G[n]).isSome then (dropAll seed u (G.take n)).drop seed G[n] else dropAll seed u (G.take n) := by
  unfold dropAll
  rw [List.take_add_one, List.getElem?_eq_getElem h, List.foldl_append]
  rfl
theorem putAll_succ (seed : Int) (u : Tr) (C : List (Bts × Bts)) (n : Nat) (h : n < C.length) : putAll seed u (C.take (n + 1)) = (putAll seed u (C.take n)).put seed C[n].1 C[n].2 := by
  unfold putAll
  rw [List.take_add_one, List.getElem?_eq_getElem h, List.foldl_append]
  rfl
theorem dropAll_size (seed : Int) : ∀ (G : List Bts) (u : Tr), (dropAll seed u G).size ≤ u.size
  | [], u => Nat.le_refl _
  | k :: G, u => by
    show (dropAll seed (if (u.get k).isSome then u.drop seed k else u) G).size ≤ _
    refine Nat.le_trans (dropAll_size seed G _) ?_
    split
    · exact Tr.drop_size seed k u
    · exact Nat.le_refl _
theorem putAll_size (seed : Int) : ∀ (C : List (Bts × Bts)) (u : Tr), (putAll seed u C).size ≤ u.size + C.length
  | [], u => Nat.le_refl _
  | p :: C, u => by
    show (putAll seed (u.put seed p.1 p.2) C).size ≤ _
    have h1 := putAll_size seed C (u.put seed p.1 p.2)
    have h2 := Tr.put_size seed p.1 p.2 u
    simp only [List.length_cons]
    omega
theorem comes_ok (seed : Int) (u : Tr) : ∀ (t : Tr) (low high : Bts) (bd : Bool), t.ok → ∀ p ∈ comes seed u t low high bd, okP p
  | .nil, _, _, _, _ => by simp [comes]
  | .nd l k v r, low, high, bd, ok => by
    have h1 := comes_ok seed u l low k true ok.1
    have h2 := comes_ok seed u r (k ++ [0]) high bd ok.2.2
    rw [comes]
    split
    · simp
    · intro p hp
      simp only [List.mem_cons, List.mem_append] at hp
      rcases hp with rfl | hp | hp
      · exact ok.2.1
      · exact h1 p hp
      · exact h2 p hp
theorem Rd.bytes {D : Nat → Prop} {w : World} {a : Option Addr} {l : List Bts} (h : Rd bytesEl D w a l) {i : Nat} (hi : i < l.length) : ∃ b o v, a = some ⟨b, o, none⟩ ∧ D b ∧ w.cell? ⟨b, o + i, none⟩ = some v ∧ BV D w v l[i] := by
  obtain ⟨b, o, cs, rfl, hD, hc, v, rfl, h1⟩ := h i hi
  have k : bytesEl.k = 1 := rfl
  rw [k] at hc
  exact ⟨b, o, v, rfl, hD, by simpa using hc 0 (by simp), h1⟩
theorem okP_allowed {p : Bts × Bts} (h : okP p) : allowedK p.1 p.2 = true := by
  obtain ⟨h1, h2, h3⟩ := h
  simp [allowedK, h1, h2, h3]
theorem map_ne {s1 s2 : Int} {w : World} {m1 m2 : Nat} {t1 t2 : Tr} {F1 F2 : Nat → Prop} (h1 : MapAt s1 w m1 t1 F1) (h2 : MapAt s2 w m2 t2 F2) (hne : m1 ≠ m2) : (binOp .eql 83 (bp m1) (bp m2)).run Try.prog w = .ok (.bool false) w := by
  obtain ⟨p1, _, _, k1⟩ := h1
  obtain ⟨p2, _, _, k2⟩ := h2
  have hi : (Try.prog.info? 123).map (·.size) = some 3 := by kernel_rfl
  cases hj : Try.prog.info? 123 with
  | none => rw [hj] at hi; cases hi
  | some j =>
    rw [hj] at hi
    have hs : j.size = 3 := by simpa using hi
    exact run_eql_ptr_other w (te := 123) (by kernel_rfl) hj (by omega) (fun e => hne (congrArg Addr.block e)) k1.ho k2.ho

set_option maxRecDepth 100000 in
set_option maxHeartbeats 8000000 in
theorem swMirror_calls {seed : Int} {w : World} {m1 m2 : Nat} {t u : Tr} {F1 F2 : Nat → Prop} (hf : MapAt seed w m1 t F1) (ht : MapAt seed w m2 u F2) (hne : m1 ≠ m2) (hg : Srt u.pairs) (hok : t.ok) (h1 : t.size ≤ 100000) (h2 : u.size ≤ 100000) (h12 : u.size + t.size < 100000) (hd : ∀ b, F2 b → b < w.heap.size) :
    Calls Try.prog 56 #[bp m1, bp m2] w fun e w' => ∃ v F2', e = .returned (.tuple #[v, .int .i64 0]) ∧ SV msgEl (fun b => ¬ F2' b) w' v (talk seed u t [] [] false) ∧ MapAt seed w' m2 (putAll seed (dropAll seed u (gones seed u t [] [] false)) (comes seed u t [] [] false)) F2' ∧ (∀ b, F2' b → F2 b ∨ w.heap.size ≤ b) ∧ Kept F2 w w' := by
  have HF := Lib.hid hf
  have HT := Lib.hid ht
  have HG := Lib.hid hg
  have OK := Lib.hid hok
  have S1 := Lib.hid h1
  have S2 := Lib.hid h2
  have HD := Lib.hid hd
  have NE := Lib.hid hne
  have S12 := Lib.hid h12
  clear hf ht hg hok h1 h2 h12 hd
  go_enter Try.func56, Try.ntmps56
  have heq : ∀ o, (binOp .eql 83 (bp m1) (bp m2)).run Try.prog (w.alloc o) = .ok (.bool false) (w.alloc o) := fun o => map_ne (HF.out.kept ((Kept.refl Noneof w).alloc o) fun _ _ h => h) (HT.out.kept ((Kept.refl Noneof w).alloc o) fun _ _ h => h) NE.out
  go_wp2_with fail
  have G3 := heap_alloc_new w (.cells #[bp m2] 83)
  have K1 := (Kept.refl Noneof w).alloc (.cells #[bp m2] 83)
  have s3 : (w.alloc (.cells #[bp m2] 83)).heap.size = w.heap.size + 1 := by simp
  generalize w.alloc (.cells #[bp m2] 83) = w1 at *
  refine (orKin_calls (HF.out.kept K1 fun _ _ h => h) (HT.out.kept K1 fun _ _ h => h)).mono ?_
  rintro e w2 ⟨rfl, dw⟩
  have K2 := K1.drewn dw
  have G3 := (((Kept.refl Noneof w1).drewn dw)).obj (fun h => h) G3
  have e2 : w2.heap.size = w.heap.size + 1 := by rw [dw.heap, s3]
  have hkin : (seed == seed) = true := by simp
  clear dw heq K1 s3
  go_wp2_with fail
  refine (orNodes_calls (HF.out.kept K2 fun _ _ h => h) (by have := S1.out; omega)).mono ?_
  rintro e w3 ⟨vn, rfl, on, k3⟩
  have ON := Lib.hid on
  obtain ⟨an, cn, hvn⟩ := on.slice
  rw [Tr.nodes_len] at hvn
  subst hvn
  have K3 := Lib.hid (K2.trans k3 fun _ h => h.elim)
  have G3 := Lib.hid (k3.obj (fun h => h) G3)
  have E3 := Lib.hid (show w.heap.size + 1 ≤ w3.heap.size by have := k3.size; omega)
  have K2s := Lib.hid K2.size
  clear on K2 k3 e2 hkin
  have hst : ∀ (W : World) (a : Addr) (g : Fn) (x y : Array Value), (store a (.func g x y)).run Try.prog W = stored Try.prog W a (.func g x y) .plain := fun W a g x y => run_store _ _ _ _ _ rfl
  by_cases hz : t.size = 0
  · have hn : t = .nil := by cases t with
      | nil => rfl
      | nd l k v r => simp [Tr.size] at hz
    have ON : Hid (Own 172 nodeEl (fun b => w2.heap.size ≤ b) w2.heap.size w3 (.slice an 0 cn) (t.nodes seed 0)) := by rw [← hz]; exact ON
    rw [hz]
    go_wp2_with fail
    (
    obtain ⟨g2, g4, g5, g6, g7, s5, k35⟩ := alloc5 w3 (.cells #[.slice an 0 cn] 166) (.cells #[.slice none 0 0] 85) (.cells #[.slice none 0 0] 51) (.cells #[.slice none 0 0] 65) (.cells #[.func (.func 117) #[] #[bp w3.heap.size, bp w.heap.size, bp (w3.heap.size + 1), bp (w3.heap.size + 1 + 1), bp (w3.heap.size + 1 + 1 + 1), bp (w3.heap.size + 1 + 1 + 1 + 1)]] 168)
    generalize ((((w3.alloc (.cells #[.slice an 0 cn] 166)).alloc (.cells #[.slice none 0 0] 85)).alloc (.cells #[.slice none 0 0] 51)).alloc (.cells #[.slice none 0 0] 65)).alloc (.cells #[.func (.func 117) #[] #[bp w3.heap.size, bp w.heap.size, bp (w3.heap.size + 1), bp (w3.heap.size + 1 + 1), bp (w3.heap.size + 1 + 1 + 1), bp (w3.heap.size + 1 + 1 + 1 + 1)]] 168) = w4 at *
    have e3 := E3.out
    have SN : SV nodeEl (fun b => w2.heap.size ≤ b ∧ b < w3.heap.size) w4 (.slice an 0 cn) (t.nodes seed 0) := ((ON.out.sv.bd nodeEl_k).wide (D' := fun b => w2.heap.size ≤ b ∧ b < w3.heap.size) nodeEl_k fun b h _ => by omega).kept nodeEl_k k35 fun _ _ _ h => h
    have K4 := Lib.hid (K3.out.trans k35 fun _ h => h.elim)
    have TI : TalkIn seed u ⟨w3.heap.size, w.heap.size, w3.heap.size + 1, w3.heap.size + 1 + 1, w3.heap.size + 1 + 1 + 1, w3.heap.size + 1 + 1 + 1 + 1, .slice an 0 cn, m2, F2, fun b => w2.heap.size ≤ b ∧ b < w3.heap.size, w3.heap.size + 5, t.nodes seed 0⟩ (fun b => w2.heap.size ≤ b ∧ b < w3.heap.size) (.slice none 0 0) (.slice none 0 0) (.slice none 0 0) w4 [] [] [] :=
      ⟨g2, k35.obj (fun h => h) G3.out, g4, g5, g6, g7, SN, HT.out.kept K4.out fun _ _ h => h, Own.nil _ _ _ _ _, Own.nil _ _ _ _ _, Own.nil _ _ _ _ _, ⟨by simp, by simp; omega, by simp, by simp, by simp, by simp⟩, ⟨by simp, by simp; omega, by simp, by simp, by simp, by simp; omega, by simp; omega, by simp, by simp, by simp; omega, by simp; omega, by simp⟩,
        fun b h => ⟨h, by have : b < w3.heap.size := h.2; simp only; omega⟩, fun b h => by have := HD.out b h; simp only; omega, fun b h => ⟨by omega, by simp only; omega, by simp [Value.ownBlock], by simp [Value.ownBlock], by simp [Value.ownBlock]⟩, fun b => by simp [Value.ownBlock], by simp only; omega, fun b h e => by have := HD.out b e; have := K2s.out; omega⟩
    clear g2 g4 g5 g6 g7 k35 SN
    refine (swMirror_1_calls (c := ⟨w3.heap.size, w.heap.size, w3.heap.size + 1, w3.heap.size + 1 + 1, w3.heap.size + 1 + 1 + 1, w3.heap.size + 1 + 1 + 1 + 1, .slice an 0 cn, m2, F2, fun b => w2.heap.size ≤ b ∧ b < w3.heap.size, w3.heap.size + 5, t.nodes seed 0⟩) HG.out (by have := S2.out; omega) (by rw [Tr.nodes_len]; have := S1.out; omega) t OK.out _ _ _ _ w4 [] [] [] _ _ [] [] false _ TI (BV.nil _ _) (BV.nil _ _) (by subst hn; rfl) (by have := S1.out; simp only [List.length_nil]; omega) (mir_bnd S1.out) (by have := S1.out; simp only [List.length_nil]; omega)).mono ?_
    rintro e w5 ⟨⟨v5, rfl⟩, R5, vo, vg, vc, T5, hR5, k5, hb5⟩
    (
    rw [List.nil_append, List.nil_append, List.nil_append] at T5
    generalize hG : gones seed u t [] [] false = G at *
    generalize hC : comes seed u t [] [] false = C at *
    generalize hO : talk seed u t [] [] false = O at *
    have hlG : G.length ≤ 1000000000000 := by rw [← hG]; exact Nat.le_trans (gones_le seed u (by have := S2.out; omega) t [] [] false) (by have := mir_bnd S1.out; simpa using this)
    have hlC : C.length ≤ 100000 := by rw [← hC]; exact Nat.le_trans (comes_le seed u t [] [] false) S1.out
    have HT5 := Lib.hid T5
    have K5 := Lib.hid k5
    obtain ⟨ao, co, rfl⟩ := T5.ho.slice
    obtain ⟨ag, cg, rfl⟩ := T5.hg.slice
    obtain ⟨ac, cc, rfl⟩ := T5.hc.slice
    have z5 : w5.cell? ⟨w3.heap.size + 1 + 1, 0, none⟩ = some (.slice ag G.length cg) := by have := T5.h5; simp [World.cell?, this]
    clear T5 k5 hb5 TI
    have hF0 : ∀ b, R5 b ∨ w3.heap.size + 5 ≤ b → ¬ F2 b := fun b h e => h.elim (fun h => HT5.out.hRF b h e) fun h => by have := HD.out b e; have := E3.out; omega
    have HF0 := Lib.hid hF0
    have SG := Lib.hid (show SV bytesEl (fun b => R5 b ∨ w3.heap.size + 5 ≤ b) w5 (.slice ag G.length cg) G from HT5.out.hg.sv)
    have SC := Lib.hid (show SV pairEl (fun b => R5 b ∨ w3.heap.size + 5 ≤ b) w5 (.slice ac C.length cc) C from HT5.out.hc.sv)
    have M5 := Lib.hid (show MapAt seed w5 m2 u F2 from HT5.out.hm)
    have hFw : ¬ F2 w.heap.size := fun e => by have := HD.out _ e; omega
    have z3 : w5.cell? ⟨w.heap.size, 0, none⟩ = some (bp m2) := by have := HT5.out.h3; simp only at this; simp [World.cell?, this]
    have Z3 := Lib.hid z3
    have HFW := Lib.hid hFw
    clear hF0 hFw z3
    go_wp2_with fail
    go_loopw [37] (fun i wr => ∃ n : Nat, n ≤ G.length ∧ i = .int .i64 n ∧ Hid (MapAt seed wr m2 (dropAll seed u (G.take n)) F2) ∧ Hid (Kept F2 w5 wr)) (fun i _ => G.length - (intOf i).toNat)
    case atStart => exact ⟨0, Nat.zero_le _, rfl, M5, Lib.hid (Kept.refl _ _)⟩
    case round =>
      obtain ⟨n, hn, rfl, hm, kw⟩ := hrel
      have z3 := kw.out.cell (p := ⟨w.heap.size, 0, none⟩) HFW.out Z3.out
      by_cases hl : n < G.length
      · obtain ⟨_, _, hsl, _, _, rd⟩ := SG.out
        simp only [Value.slice.injEq] at hsl
        obtain ⟨rfl, -, rfl⟩ := hsl
        have rd := rd.kept bytesEl_k kw.out fun b h _ => HF0.out b h
        obtain ⟨b1, o1, kv, rfl, hDb, g0, hkv⟩ := Rd.bytes rd hl
        have HKV := Lib.hid hkv
        obtain ⟨a7, c7, rfl, _⟩ := id hkv
        clear rd hkv
        go_wp2_with fail
        cases hget : ((dropAll seed u (G.take n)).get G[n]).isSome
        · refine (orMapDrop_none hm.out HKV.out (by simpa using hget)).mono ?_
          rintro e w7 ⟨rfl, rfl⟩
          go_wp2
          go_roundw
          case rel => exact ⟨n + 1, by omega, by go_num, by rw [dropAll_succ seed u G n hl, hget]; exact hm, kw⟩
          case measure => simp [intOf]; omega
        · refine (orMapDrop_ok hm.out HKV.out (fun b h _ => HF0.out b h) hget).mono ?_
          rintro e w7 ⟨rfl, hm7, k7⟩
          go_wp2
          go_roundw
          case rel => exact ⟨n + 1, by omega, by go_num, by rw [dropAll_succ seed u G n hl, hget]; exact Lib.hid hm7, Lib.hid (kw.out.tr k7)⟩
          case measure => simp [intOf]; omega
      · obtain rfl : n = G.length := by omega
        have M6 := Lib.hid (show MapAt seed wr m2 (dropAll seed u G) F2 by have := hm.out; rwa [List.take_length] at this)
        have z6 : wr.cell? ⟨w3.heap.size + 1 + 1 + 1, 0, none⟩ = some (.slice ac C.length cc) := kw.out.cell (p := ⟨w3.heap.size + 1 + 1 + 1, 0, none⟩) (fun e => by have := HD.out (w3.heap.size + 1 + 1 + 1) e; have := E3.out; omega) (by have := HT5.out.h6; simp only at this; simp [World.cell?, this])
        have U1 := Lib.hid (show (dropAll seed u G).size + C.length < 100000 by have := dropAll_size seed G u; have := S12.out; rw [← hC]; have := comes_le seed u t [] [] false; omega)
        have CO := Lib.hid (show ∀ p ∈ C, okP p by rw [← hC]; exact comes_ok seed u t [] [] false OK.out)
        clear hm
        generalize hU : dropAll seed u G = U at *
        go_wp2_with fail
        go_loopw [47] (fun i wq => ∃ (n : Nat) (F' : Nat → Prop), n ≤ C.length ∧ i = .int .i64 n ∧ Hid (MapAt seed wq m2 (putAll seed U (C.take n)) F') ∧ Hid (∀ b, F' b → F2 b ∨ w5.heap.size ≤ b) ∧ Hid (Kept F2 w5 wq)) (fun i _ => C.length - (intOf i).toNat)
        case atStart => exact ⟨0, F2, Nat.zero_le _, rfl, M6, Lib.hid fun b h => .inl h, kw⟩
        case round =>
          obtain ⟨n, F', hn, rfl, hm, hF', kq⟩ := hrel
          have z3' := kq.out.cell (p := ⟨w.heap.size, 0, none⟩) HFW.out Z3.out
          by_cases hl : n < C.length
          · obtain ⟨_, _, hsl, _, _, rd⟩ := SC.out
            simp only [Value.slice.injEq] at hsl
            obtain ⟨rfl, -, rfl⟩ := hsl
            have rd := rd.kept pairEl_k kq.out fun b h _ => HF0.out b h
            obtain ⟨b1, o1, uk, uv, rfl, hDb, g0, g1, hkv, hvv⟩ := Rd.pair rd hl
            have HKV := Lib.hid hkv
            have HVV := Lib.hid hvv
            obtain ⟨a7, c7, rfl, _⟩ := id hkv
            obtain ⟨a8, c8, rfl, _⟩ := id hvv
            have zA : ∀ o, (wr.alloc o).cell? ⟨w.heap.size, 0, none⟩ = some (bp m2) := fun o => ((Kept.refl Noneof _).alloc o).cell (p := ⟨w.heap.size, 0, none⟩) (fun h => h) z3'
            clear rd hkv hvv
            have ka := (Kept.refl Noneof wr).alloc (.cells #[.slice a7 C[n].1.length c7, .slice a8 C[n].2.length c8] 70)
            have hps : (putAll seed U (C.take n)).size < 100000 := by
              have h1 := putAll_size seed (C.take n) U
              have h2 := U1.out
              rw [List.length_take] at h1
              omega
            have HPS := Lib.hid hps
            have KA := Lib.hid ka
            clear hps ka
            go_wp2_with fail
            refine (orMapPut_ok (hm.out.kept KA.out fun _ _ h => h) (HKV.out.kept byteEl_k KA.out fun _ _ _ h => h) (HVV.out.kept byteEl_k KA.out fun _ _ _ h => h) (okP_allowed (CO.out _ (List.getElem_mem hl))) HPS.out).mono ?_
            rintro e w7 ⟨rfl, F7, hm7, k7, hF7⟩
            have hM7 := Lib.hid hm7
            have hFF := Lib.hid (show ∀ b, F7 b → F2 b ∨ w5.heap.size ≤ b from fun b h => (hF7 b h).elim (hF'.out b) fun h => .inr (by have := kq.out.size; have := KA.out.size; omega))
            have hKK := Lib.hid ((kq.out.trans KA.out fun _ h => h.elim).trans k7 hF'.out)
            clear hm7 hF7 k7 zA
            go_wp2
            go_roundw
            case rel => exact ⟨n + 1, F7, by omega, by go_num, by rw [putAll_succ seed U C n hl]; exact hM7, hFF, hKK⟩
            case measure => simp [intOf]; omega
          · obtain rfl : n = C.length := by omega
            have M7 := Lib.hid (show MapAt seed wr m2 (putAll seed U C) F' by have := hm.out; rwa [List.take_length] at this)
            have z4 : wr.cell? ⟨w3.heap.size + 1, 0, none⟩ = some (.slice ao O.length co) := kq.out.cell (p := ⟨w3.heap.size + 1, 0, none⟩) (fun e => by have := HD.out (w3.heap.size + 1) e; have := E3.out; omega) (by have := HT5.out.h4; simp only at this; simp [World.cell?, this])
            have hsv := ((HT5.out.ho.sv.bd msgEl_k).kept msgEl_k kq.out fun b h _ => HF0.out b h.1).wide (D' := fun b => ¬ F' b) msgEl_k fun b h _ e => (hF'.out b e).elim (HF0.out b h.1) fun e => by omega
            have HSV := Lib.hid hsv
            have hw5 := K5.out.size
            have hw4 := K4.out.size
            have e3 := E3.out
            have KF := Lib.hid (((K4.out.trans K5.out fun b e => .inr (by
              rcases e with e | e | e | e | e | e
              · simp only at e; omega
              · simp only at e; omega
              · simp only at e; omega
              · cases e
              · cases e
              · cases e)).mono (T := F2) fun _ h => h.elim).tr kq.out)
            clear hsv
            go_wp2
            go_ret2
            exact ⟨.slice ao O.length co, F', rfl, by rw [hO]; exact HSV.out, by rw [hG, hC, hU]; exact M7.out, fun b h => (hF'.out b h).imp id fun h => by omega, KF.out⟩))
  · have hpos : 0 < t.size := by omega
    have NA : NodesAt seed (t.nodes seed 0) t 0 := by
      cases t with
      | nil => exact absurd rfl hz
      | nd l k v r => exact ⟨[], [], by simp, rfl⟩
    go_wp2_with fail
    (
    obtain ⟨g2, g4, g5, g6, g7, s5, k35⟩ := alloc5 w3 (.cells #[.slice an t.size cn] 166) (.cells #[.slice none 0 0] 85) (.cells #[.slice none 0 0] 51) (.cells #[.slice none 0 0] 65) (.cells #[.func (.func 117) #[] #[bp w3.heap.size, bp w.heap.size, bp (w3.heap.size + 1), bp (w3.heap.size + 1 + 1), bp (w3.heap.size + 1 + 1 + 1), bp (w3.heap.size + 1 + 1 + 1 + 1)]] 168)
    generalize ((((w3.alloc (.cells #[.slice an t.size cn] 166)).alloc (.cells #[.slice none 0 0] 85)).alloc (.cells #[.slice none 0 0] 51)).alloc (.cells #[.slice none 0 0] 65)).alloc (.cells #[.func (.func 117) #[] #[bp w3.heap.size, bp w.heap.size, bp (w3.heap.size + 1), bp (w3.heap.size + 1 + 1), bp (w3.heap.size + 1 + 1 + 1), bp (w3.heap.size + 1 + 1 + 1 + 1)]] 168) = w4 at *
    have e3 := E3.out
    have SN : SV nodeEl (fun b => w2.heap.size ≤ b ∧ b < w3.heap.size) w4 (.slice an t.size cn) (t.nodes seed 0) := ((ON.out.sv.bd nodeEl_k).wide (D' := fun b => w2.heap.size ≤ b ∧ b < w3.heap.size) nodeEl_k fun b h _ => by omega).kept nodeEl_k k35 fun _ _ _ h => h
    have K4 := Lib.hid (K3.out.trans k35 fun _ h => h.elim)
    have TI : TalkIn seed u ⟨w3.heap.size, w.heap.size, w3.heap.size + 1, w3.heap.size + 1 + 1, w3.heap.size + 1 + 1 + 1, w3.heap.size + 1 + 1 + 1 + 1, .slice an t.size cn, m2, F2, fun b => w2.heap.size ≤ b ∧ b < w3.heap.size, w3.heap.size + 5, t.nodes seed 0⟩ (fun b => w2.heap.size ≤ b ∧ b < w3.heap.size) (.slice none 0 0) (.slice none 0 0) (.slice none 0 0) w4 [] [] [] :=
      ⟨g2, k35.obj (fun h => h) G3.out, g4, g5, g6, g7, SN, HT.out.kept K4.out fun _ _ h => h, Own.nil _ _ _ _ _, Own.nil _ _ _ _ _, Own.nil _ _ _ _ _, ⟨by simp, by simp; omega, by simp, by simp, by simp, by simp⟩, ⟨by simp, by simp; omega, by simp, by simp, by simp, by simp; omega, by simp; omega, by simp, by simp, by simp; omega, by simp; omega, by simp⟩,
        fun b h => ⟨h, by have : b < w3.heap.size := h.2; simp only; omega⟩, fun b h => by have := HD.out b h; simp only; omega, fun b h => ⟨by omega, by simp only; omega, by simp [Value.ownBlock], by simp [Value.ownBlock], by simp [Value.ownBlock]⟩, fun b => by simp [Value.ownBlock], by simp only; omega, fun b h e => by have := HD.out b e; have := K2s.out; omega⟩
    clear g2 g4 g5 g6 g7 k35 SN
    refine (swMirror_1_calls (c := ⟨w3.heap.size, w.heap.size, w3.heap.size + 1, w3.heap.size + 1 + 1, w3.heap.size + 1 + 1 + 1, w3.heap.size + 1 + 1 + 1 + 1, .slice an t.size cn, m2, F2, fun b => w2.heap.size ≤ b ∧ b < w3.heap.size, w3.heap.size + 5, t.nodes seed 0⟩) HG.out (by have := S2.out; omega) (by rw [Tr.nodes_len]; have := S1.out; omega) t OK.out _ _ _ _ w4 [] [] [] _ _ [] [] false _ TI (BV.nil _ _) (BV.nil _ _) NA (by have := S1.out; simp only [List.length_nil]; omega) (mir_bnd S1.out) (by have := S1.out; simp only [List.length_nil]; omega)).mono ?_
    rintro e w5 ⟨⟨v5, rfl⟩, R5, vo, vg, vc, T5, hR5, k5, hb5⟩
    (
    rw [List.nil_append, List.nil_append, List.nil_append] at T5
    generalize hG : gones seed u t [] [] false = G at *
    generalize hC : comes seed u t [] [] false = C at *
    generalize hO : talk seed u t [] [] false = O at *
    have hlG : G.length ≤ 1000000000000 := by rw [← hG]; exact Nat.le_trans (gones_le seed u (by have := S2.out; omega) t [] [] false) (by have := mir_bnd S1.out; simpa using this)
    have hlC : C.length ≤ 100000 := by rw [← hC]; exact Nat.le_trans (comes_le seed u t [] [] false) S1.out
    have HT5 := Lib.hid T5
    have K5 := Lib.hid k5
    obtain ⟨ao, co, rfl⟩ := T5.ho.slice
    obtain ⟨ag, cg, rfl⟩ := T5.hg.slice
    obtain ⟨ac, cc, rfl⟩ := T5.hc.slice
    have z5 : w5.cell? ⟨w3.heap.size + 1 + 1, 0, none⟩ = some (.slice ag G.length cg) := by have := T5.h5; simp [World.cell?, this]
    clear T5 k5 hb5 TI
    have hF0 : ∀ b, R5 b ∨ w3.heap.size + 5 ≤ b → ¬ F2 b := fun b h e => h.elim (fun h => HT5.out.hRF b h e) fun h => by have := HD.out b e; have := E3.out; omega
    have HF0 := Lib.hid hF0
    have SG := Lib.hid (show SV bytesEl (fun b => R5 b ∨ w3.heap.size + 5 ≤ b) w5 (.slice ag G.length cg) G from HT5.out.hg.sv)
    have SC := Lib.hid (show SV pairEl (fun b => R5 b ∨ w3.heap.size + 5 ≤ b) w5 (.slice ac C.length cc) C from HT5.out.hc.sv)
    have M5 := Lib.hid (show MapAt seed w5 m2 u F2 from HT5.out.hm)
    have hFw : ¬ F2 w.heap.size := fun e => by have := HD.out _ e; omega
    have z3 : w5.cell? ⟨w.heap.size, 0, none⟩ = some (bp m2) := by have := HT5.out.h3; simp only at this; simp [World.cell?, this]
    have Z3 := Lib.hid z3
    have HFW := Lib.hid hFw
    clear hF0 hFw z3
    go_wp2_with fail
    go_loopw [37] (fun i wr => ∃ n : Nat, n ≤ G.length ∧ i = .int .i64 n ∧ Hid (MapAt seed wr m2 (dropAll seed u (G.take n)) F2) ∧ Hid (Kept F2 w5 wr)) (fun i _ => G.length - (intOf i).toNat)
    case atStart => exact ⟨0, Nat.zero_le _, rfl, M5, Lib.hid (Kept.refl _ _)⟩
    case round =>
      obtain ⟨n, hn, rfl, hm, kw⟩ := hrel
      have z3 := kw.out.cell (p := ⟨w.heap.size, 0, none⟩) HFW.out Z3.out
      by_cases hl : n < G.length
      · obtain ⟨_, _, hsl, _, _, rd⟩ := SG.out
        simp only [Value.slice.injEq] at hsl
        obtain ⟨rfl, -, rfl⟩ := hsl
        have rd := rd.kept bytesEl_k kw.out fun b h _ => HF0.out b h
        obtain ⟨b1, o1, kv, rfl, hDb, g0, hkv⟩ := Rd.bytes rd hl
        have HKV := Lib.hid hkv
        obtain ⟨a7, c7, rfl, _⟩ := id hkv
        clear rd hkv
        go_wp2_with fail
        cases hget : ((dropAll seed u (G.take n)).get G[n]).isSome
        · refine (orMapDrop_none hm.out HKV.out (by simpa using hget)).mono ?_
          rintro e w7 ⟨rfl, rfl⟩
          go_wp2
          go_roundw
          case rel => exact ⟨n + 1, by omega, by go_num, by rw [dropAll_succ seed u G n hl, hget]; exact hm, kw⟩
          case measure => simp [intOf]; omega
        · refine (orMapDrop_ok hm.out HKV.out (fun b h _ => HF0.out b h) hget).mono ?_
          rintro e w7 ⟨rfl, hm7, k7⟩
          go_wp2
          go_roundw
          case rel => exact ⟨n + 1, by omega, by go_num, by rw [dropAll_succ seed u G n hl, hget]; exact Lib.hid hm7, Lib.hid (kw.out.tr k7)⟩
          case measure => simp [intOf]; omega
      · obtain rfl : n = G.length := by omega
        have M6 := Lib.hid (show MapAt seed wr m2 (dropAll seed u G) F2 by have := hm.out; rwa [List.take_length] at this)
        have z6 : wr.cell? ⟨w3.heap.size + 1 + 1 + 1, 0, none⟩ = some (.slice ac C.length cc) := kw.out.cell (p := ⟨w3.heap.size + 1 + 1 + 1, 0, none⟩) (fun e => by have := HD.out (w3.heap.size + 1 + 1 + 1) e; have := E3.out; omega) (by have := HT5.out.h6; simp only at this; simp [World.cell?, this])
        have U1 := Lib.hid (show (dropAll seed u G).size + C.length < 100000 by have := dropAll_size seed G u; have := S12.out; rw [← hC]; have := comes_le seed u t [] [] false; omega)
        have CO := Lib.hid (show ∀ p ∈ C, okP p by rw [← hC]; exact comes_ok seed u t [] [] false OK.out)
        clear hm
        generalize hU : dropAll seed u G = U at *
        go_wp2_with fail
        go_loopw [47] (fun i wq => ∃ (n : Nat) (F' : Nat → Prop), n ≤ C.length ∧ i = .int .i64 n ∧ Hid (MapAt seed wq m2 (putAll seed U (C.take n)) F') ∧ Hid (∀ b, F' b → F2 b ∨ w5.heap.size ≤ b) ∧ Hid (Kept F2 w5 wq)) (fun i _ => C.length - (intOf i).toNat)
        case atStart => exact ⟨0, F2, Nat.zero_le _, rfl, M6, Lib.hid fun b h => .inl h, kw⟩
        case round =>
          obtain ⟨n, F', hn, rfl, hm, hF', kq⟩ := hrel
          have z3' := kq.out.cell (p := ⟨w.heap.size, 0, none⟩) HFW.out Z3.out
          by_cases hl : n < C.length
          · obtain ⟨_, _, hsl, _, _, rd⟩ := SC.out
            simp only [Value.slice.injEq] at hsl
            obtain ⟨rfl, -, rfl⟩ := hsl
            have rd := rd.kept pairEl_k kq.out fun b h _ => HF0.out b h
            obtain ⟨b1, o1, uk, uv, rfl, hDb, g0, g1, hkv, hvv⟩ := Rd.pair rd hl
            have HKV := Lib.hid hkv
            have HVV := Lib.hid hvv
            obtain ⟨a7, c7, rfl, _⟩ := id hkv
            obtain ⟨a8, c8, rfl, _⟩ := id hvv
            have zA : ∀ o, (wr.alloc o).cell? ⟨w.heap.size, 0, none⟩ = some (bp m2) := fun o => ((Kept.refl Noneof _).alloc o).cell (p := ⟨w.heap.size, 0, none⟩) (fun h => h) z3'
            clear rd hkv hvv
            have ka := (Kept.refl Noneof wr).alloc (.cells #[.slice a7 C[n].1.length c7, .slice a8 C[n].2.length c8] 70)
            have hps : (putAll seed U (C.take n)).size < 100000 := by
              have h1 := putAll_size seed (C.take n) U
              have h2 := U1.out
              rw [List.length_take] at h1
              omega
            have HPS := Lib.hid hps
            have KA := Lib.hid ka
            clear hps ka
            go_wp2_with fail
            refine (orMapPut_ok (hm.out.kept KA.out fun _ _ h => h) (HKV.out.kept byteEl_k KA.out fun _ _ _ h => h) (HVV.out.kept byteEl_k KA.out fun _ _ _ h => h) (okP_allowed (CO.out _ (List.getElem_mem hl))) HPS.out).mono ?_
            rintro e w7 ⟨rfl, F7, hm7, k7, hF7⟩
            have hM7 := Lib.hid hm7
            have hFF := Lib.hid (show ∀ b, F7 b → F2 b ∨ w5.heap.size ≤ b from fun b h => (hF7 b h).elim (hF'.out b) fun h => .inr (by have := kq.out.size; have := KA.out.size; omega))
            have hKK := Lib.hid ((kq.out.trans KA.out fun _ h => h.elim).trans k7 hF'.out)
            clear hm7 hF7 k7 zA
            go_wp2
            go_roundw
            case rel => exact ⟨n + 1, F7, by omega, by go_num, by rw [putAll_succ seed U C n hl]; exact hM7, hFF, hKK⟩
            case measure => simp [intOf]; omega
          · obtain rfl : n = C.length := by omega
            have M7 := Lib.hid (show MapAt seed wr m2 (putAll seed U C) F' by have := hm.out; rwa [List.take_length] at this)
            have z4 : wr.cell? ⟨w3.heap.size + 1, 0, none⟩ = some (.slice ao O.length co) := kq.out.cell (p := ⟨w3.heap.size + 1, 0, none⟩) (fun e => by have := HD.out (w3.heap.size + 1) e; have := E3.out; omega) (by have := HT5.out.h4; simp only at this; simp [World.cell?, this])
            have hsv := ((HT5.out.ho.sv.bd msgEl_k).kept msgEl_k kq.out fun b h _ => HF0.out b h.1).wide (D' := fun b => ¬ F' b) msgEl_k fun b h _ e => (hF'.out b e).elim (HF0.out b h.1) fun e => by omega
            have HSV := Lib.hid hsv
            have hw5 := K5.out.size
            have hw4 := K4.out.size
            have e3 := E3.out
            have KF := Lib.hid (((K4.out.trans K5.out fun b e => .inr (by
              rcases e with e | e | e | e | e | e
              · simp only at e; omega
              · simp only at e; omega
              · simp only at e; omega
              · cases e
              · cases e
              · cases e)).mono (T := F2) fun _ h => h.elim).tr kq.out)
            clear hsv
            go_wp2
            go_ret2
            exact ⟨.slice ao O.length co, F', rfl, by rw [hO]; exact HSV.out, by rw [hG, hC, hU]; exact M7.out, fun b h => (hF'.out b h).imp id fun h => by omega, KF.out⟩))
end Go.Proofs.Ytaopjdjbpamhhaa
/- Proved: contracts of layer 7's law functions few, sorted, filled. Conditions: pairs in memory. -/
namespace Go.Proofs.Ytaopjdjbpamhhaa
open Go Go.RowKit
set_option linter.unusedVariables false
set_option linter.unusedSimpArgs false

def fewK (l : List (Bts × Bts)) : Bool := decide (l.length ≤ 60) && l.all fun p => allowedK p.1 p.2
set_option maxRecDepth 100000 in
set_option maxHeartbeats 1000000 in
theorem l7few_calls {D : Nat → Prop} {w : World} {v : Value} {l : List (Bts × Bts)} (h : SV pairEl D w v l) :
    Calls Try.prog 54 #[v] w fun e w' => e = .returned (.bool (fewK l)) ∧ Kept Noneof w w' := by
  obtain ⟨a, c, rfl, _, m, rd⟩ := h
  have RD := Lib.hid rd
  clear rd
  go_enter Try.func54, Try.ntmps54
  by_cases h60 : l.length ≤ 60
  · go_wp2
    go_loopw [10] (fun i wr => ∃ n : Nat, n ≤ l.length ∧ i = .int .i64 n ∧ Hid (∀ p ∈ l.take n, allowedK p.1 p.2 = true) ∧ Hid (Kept Noneof w wr)) (fun i _ => l.length - (intOf i).toNat)
    case atStart => exact ⟨0, Nat.zero_le _, rfl, Lib.hid (by simp), Lib.hid (Kept.refl _ _)⟩
    case round =>
      obtain ⟨n, hn, rfl, ha, kw⟩ := hrel
      by_cases hl : n < l.length
      · have rd := RD.out.kept pairEl_k kw.out fun _ _ _ h => h
        obtain ⟨b1, o1, uk, uv, rfl, hDb, g0, g1, hkv, hvv⟩ := Rd.pair rd hl
        have HKV := Lib.hid hkv
        have HVV := Lib.hid hvv
        obtain ⟨a7, c7, rfl, _⟩ := id hkv
        obtain ⟨a8, c8, rfl, _⟩ := id hvv
        have KA := Lib.hid ((Kept.refl Noneof wr).alloc (.cells #[.slice a7 l[n].1.length c7, .slice a8 l[n].2.length c8] 70))
        clear rd hkv hvv
        go_wp2_with fail
        refine (r2Allowed_calls (HKV.out.kept byteEl_k KA.out fun _ _ _ h => h) (HVV.out.kept byteEl_k KA.out fun _ _ _ h => h)).mono ?_
        rintro e w7 ⟨rfl, hw⟩
        have kw7 := Lib.hid ((kw.out.tr KA.out).drewn hw)
        clear hw
        cases hal : allowedK l[n].1 l[n].2
        · go_wp2
          go_ret
          exact ⟨ret_bool (by
            have : l.all (fun p => allowedK p.1 p.2) = false := by
              rw [List.all_eq_false]
              exact ⟨l[n], List.getElem_mem hl, by rw [hal]; simp⟩
            simp [fewK, this]), kw7.out⟩
        · have ha2 := Lib.hid (show ∀ p ∈ l.take (n + 1), allowedK p.1 p.2 = true from fun p hp => by
            rw [List.take_add_one, List.getElem?_eq_getElem hl] at hp
            simp only [Option.toList_some, List.mem_append, List.mem_singleton] at hp
            rcases hp with hp | rfl
            · exact ha.out p hp
            · exact hal)
          go_wp2
          go_roundw
          case rel => exact ⟨n + 1, by omega, by go_num, ha2, kw7⟩
          case measure => simp [intOf]; omega
      · obtain rfl : n = l.length := by omega
        go_wp2
        go_ret
        exact ⟨ret_bool (by have := ha.out; rw [List.take_length] at this; simp [fewK, h60, List.all_eq_true.2 this]), kw.out⟩
  · go_wp2
    go_ret
    exact ⟨ret_bool (by simp [fewK, h60]), Kept.refl _ _⟩

/-- The pairs of a map into which some were put. -/
def sortedL (l : List (Bts × Bts)) : List (Bts × Bts) := l.foldl (fun out p => putK out p.1 p.2) []
theorem sortedL_succ (l : List (Bts × Bts)) (n : Nat) (h : n < l.length) : sortedL (l.take (n + 1)) = putK (sortedL (l.take n)) l[n].1 l[n].2 := by
  unfold sortedL
  rw [List.take_add_one, List.getElem?_eq_getElem h, List.foldl_append]
  rfl
end Go.Proofs.Ytaopjdjbpamhhaa
/- Proved: contract of the reference 02's Get. Conditions: pairs in memory. -/
namespace Go.Proofs.Ytaopjdjbpamhhaa
open Go Go.RowKit
set_option linter.unusedVariables false
set_option linter.unusedSimpArgs false

set_option maxRecDepth 100000 in
set_option maxHeartbeats 1000000 in
theorem r2Get_calls {D1 D2 : Nat → Prop} {v1 v2 : Value} {l : List (Bts × Bts)} {key : Bts} {w : World} (h1 : SV pairEl D1 w v1 l) (h2 : BV D2 w v2 key) :
    Calls Try.prog 143 #[v1, v2] w fun e w' => ((∃ v x, getK l key = some x ∧ e = .returned (.tuple #[v, .int .i64 0]) ∧ BV D1 w v x) ∨ (getK l key = none ∧ e = .returned (.tuple #[.slice none 0 0, .int .i64 3]))) ∧ Drew w w' := by
  have H1 := Lib.hid h1
  have H2 := Lib.hid h2
  obtain ⟨a, c, rfl, _, m, rd⟩ := h1
  have RD := Lib.hid rd
  obtain ⟨a2, c2, rfl, _⟩ := h2
  clear rd
  go_enter Try.func143, Try.ntmps143
  go_wp2_with fail
  refine (r2Has_calls H1.out H2.out).mono ?_
  rintro e w1 ⟨rfl, n1, rfl⟩
  cases hh : hasK l key
  · go_wp2
    go_ret2
    exact ⟨.inr ⟨by rw [hasK_getK] at hh; simpa using hh, rfl⟩, ⟨n1, rfl⟩⟩
  · have hlt := hasK_lt hh
    obtain ⟨b1, o1, uk, uv, rfl, hDb, g0, g1, hkv, hvv⟩ := Rd.pair RD.out hlt
    have HVV := Lib.hid hvv
    obtain ⟨a8, c8, rfl, _⟩ := id hvv
    clear hkv hvv
    go_wp2_with fail
    refine (r2Rank_calls (w := w.drewN n1) (H1.out.at rfl) (H2.out.at rfl)).mono ?_
    rintro e w2 ⟨rfl, n2, rfl⟩
    go_wp2
    go_ret2
    obtain ⟨x, hx⟩ := Option.isSome_iff_exists.1 (by rw [← hasK_getK]; exact hh : (getK l key).isSome = true)
    obtain ⟨y, hy⟩ := rank_getK hx
    have hxx : l[rank l key].2 = x := by
      rw [List.getElem?_eq_getElem hlt] at hy
      rw [Option.some.inj hy]
    refine ⟨.inl ⟨_, x, hx, rfl, ?_⟩, ⟨n1 + n2, rfl⟩⟩
    · rw [← hxx]; exact HVV.out.at rfl
end Go.Proofs.Ytaopjdjbpamhhaa
/- Proved: contracts of the vault's small functions (both, named, none, NewVault, Explain), of the law function explains and of the reference's Named. Conditions: bytes in memory. -/
namespace Go.Proofs.Ytaopjdjbpamhhaa
open Go Go.RowKit
set_option linter.unusedVariables false
set_option linter.unusedSimpArgs false

/-! ### Bytes xor others -/
def xorB (a b : Bts) : Bts := List.zipWith (fun x y => x ^^^ y) a b
theorem xorB_len (a b : Bts) : (xorB a b).length = min a.length b.length := by simp [xorB]
theorem xorB_get {a b : Bts} {i : Nat} (h1 : i < a.length) (h2 : i < b.length) : (xorB a b)[i]? = some (a[i] ^^^ b[i]) := by
  simp [xorB, List.getElem?_zipWith, List.getElem?_eq_getElem h1, List.getElem?_eq_getElem h2]
theorem bits_xor_u8 (x y : UInt8) : bits .xor .u8 ((x.toNat : Nat) : Int) ((y.toNat : Nat) : Int) = (((x ^^^ y).toNat : Nat) : Int) := by
  have ha := x.toNat_lt
  have hb := y.toNat_lt
  have hx : x.toNat ^^^ y.toNat < 2 ^ 8 := Nat.xor_lt_two_pow (by omega) (by omega)
  have h1 : (BitVec.ofInt 8 ((x.toNat : Nat) : Int)).toNat = x.toNat := by
    rw [BitVec.ofInt_natCast, BitVec.toNat_ofNat]; exact Nat.mod_eq_of_lt (by omega)
  have h2 : (BitVec.ofInt 8 ((y.toNat : Nat) : Int)).toNat = y.toNat := by
    rw [BitVec.ofInt_natCast, BitVec.toNat_ofNat]; exact Nat.mod_eq_of_lt (by omega)
  show IntKind.u8.wrap ((BitVec.ofInt 8 ((x.toNat : Nat) : Int) ^^^ BitVec.ofInt 8 ((y.toNat : Nat) : Int)).toNat : Int) = _
  rw [BitVec.toNat_xor, h1, h2, UInt8.toNat_xor]
  simp only [IntKind.wrap, IntKind.bits, IntKind.signed]
  simp
  omega
theorem xor_back (x y : UInt8) : (x ^^^ y) ^^^ y = x := by
  apply UInt8.toNat_inj.1
  rw [UInt8.toNat_xor, UInt8.toNat_xor, Nat.xor_assoc, Nat.xor_self, Nat.xor_zero]
theorem xor_comm8 (x y : UInt8) : x ^^^ y = y ^^^ x := by
  apply UInt8.toNat_inj.1
  rw [UInt8.toNat_xor, UInt8.toNat_xor, Nat.xor_comm]
theorem xorB_back {a b : Bts} (h : a.length = b.length) : xorB (xorB a b) b = a := by
  refine List.ext_getElem? fun i => ?_
  rcases Nat.lt_or_ge i a.length with hi | hi
  · have h2 : i < b.length := by omega
    have h3 : i < (xorB a b).length := by rw [xorB_len]; omega
    rw [xorB_get h3 h2]
    have := xorB_get hi h2
    rw [List.getElem?_eq_getElem h3] at this
    rw [Option.some.inj this, xor_back, List.getElem?_eq_getElem hi]
  · rw [List.getElem?_eq_none (by rw [xorB_len, xorB_len]; omega), List.getElem?_eq_none hi]
theorem xorB_comm (a b : Bts) : xorB a b = xorB b a := by
  unfold xorB
  rw [List.zipWith_comm]
  congr 1
  funext x y
  exact xor_comm8 y x
theorem xorB_inj {a b c : Bts} (h1 : a.length = b.length) (h2 : a.length = c.length) (h : xorB a b = xorB a c) : b = c := by
  have e1 := xorB_back (a := b) (b := a) h1.symm
  have e2 := xorB_back (a := c) (b := a) h2.symm
  rw [← e1, ← e2, xorB_comm b a, xorB_comm c a, h]

/-- A row of the call's own may be written at each place. -/
theorem Own.slot {D : Nat → Prop} {B : Nat} {w : World} {g n c i : Nat} {l : Bts} (h : Own 5 byteEl D B w (.slice (some ⟨g, 0, none⟩) n c) l) (hi : i < l.length) : (∃ u, w.cell? ⟨g, i, none⟩ = some u) ∧ w.frozen? ⟨g, i, none⟩ = false ∧ g < w.heap.size ∧ B ≤ g := by
  have hlt := h.lt g rfl
  obtain ⟨hl, D0, h0, xs, ⟨h1, h2⟩, h3⟩ := h
  rcases h2 with ⟨hh, _⟩ | ⟨g', cap, cur, hv, hg, hh, hc, hm', hs, ht⟩
  · cases hh
  · simp only [Value.slice.injEq, Option.some.injEq, Addr.mk.injEq, and_true] at hv
    obtain ⟨rfl, rfl, rfl⟩ := hv
    simp only [byteEl, Nat.mul_one] at hs
    have : i < cur.size := by omega
    exact ⟨⟨cur[i], by simp [World.cell?, hh, this]⟩, by simp [World.frozen?, hh], hlt.2, hlt.1⟩
theorem Own.put {D : Nat → Prop} {B : Nat} {w : World} {g n c i : Nat} {l : Bts} (h : Own 5 byteEl D B w (.slice (some ⟨g, 0, none⟩) n c) l) (hi : i < l.length) (y : UInt8) :
    Own 5 byteEl D B (w.setCell ⟨g, i, none⟩ (.int .u8 ((y.toNat : Nat) : Int))) (.slice (some ⟨g, 0, none⟩) n c) (l.set i y) := by
  refine h.setc (cs := [.int .u8 ((y.toNat : Nat) : Int)]) hi rfl (D' := fun _ => False) rfl (fun _ h => h.elim) ((Kept.refl (fun b => b = g) w).setCell (.inl rfl) _) fun cur hcur => ?_
  rw [setCell_obj hcur]
  simp only [putCells, byteEl, Nat.mul_one]

theorem BV.len {D : Nat → Prop} {w : World} {v : Value} {l : Bts} (h : BV D w v l) : l.length ≤ 140737488355328 := by
  obtain ⟨_, _, _, _, h, _⟩ := h
  exact h
set_option maxRecDepth 100000 in
set_option maxHeartbeats 1000000 in
theorem swboth_calls {D1 D2 : Nat → Prop} {v1 v2 : Value} {a b : Bts} {w : World} (h1 : BV D1 w v1 a) (h2 : BV D2 w v2 b) (hl : a.length = b.length) :
    Calls Try.prog 136 #[v1, v2] w fun e w' => ∃ v', e = .returned v' ∧ Own 5 byteEl Noneof w.heap.size w' v' (xorB a b) ∧ Kept Noneof w w' := by
  have H1 := Lib.hid (SV.bd byteEl_k h1)
  have H2 := Lib.hid (SV.bd byteEl_k h2)
  have HL := Lib.hid hl
  clear hl
  have hm := h1.len
  obtain ⟨a1, c1, rfl, _⟩ := h1
  obtain ⟨a2, c2, rfl, _⟩ := h2
  go_enter Try.func136, Try.ntmps136
  go_wp2_with (at_make; refine wl_make (E := byteEl) rfl _ _ _ rfl tBytes Noneof w.heap.size a.length .i64 .i64 _ _ rfl rfl rfl rfl 0 (fun _ => rfl) ?b1 ?b2 ?b3 ?_)
  case b1 => omega
  case b2 => omega
  case b3 => exact Nat.le_refl _
  intro w1 g hown hk hg
  have HG := Lib.hid hg
  have HK := Lib.hid hk
  have HO := Lib.hid hown
  clear hg hk hown
  go_wp2
  go_loopw [12] (fun i wr => ∃ n : Nat, n ≤ a.length ∧ i = .int .i64 n ∧ Hid (Own 5 byteEl Noneof w.heap.size wr (.slice (some ⟨g, 0, none⟩) a.length a.length) ((xorB a b).take n ++ List.replicate (a.length - n) 0)) ∧ Hid (Kept Noneof w wr)) (fun i _ => a.length - (intOf i).toNat)
  case atStart => exact ⟨0, Nat.zero_le _, rfl, Lib.hid (by simpa using HO.out), HK⟩
  case round =>
    obtain ⟨n, hn, rfl, ho, kw⟩ := hrel
    by_cases hlt : n < a.length
    · have hlt2 : n < b.length := by have := HL.out; omega
      obtain ⟨_, _, hsl, _, _, rd1⟩ := H1.out.still' kw.out
      simp only [Value.slice.injEq] at hsl
      obtain ⟨rfl, -, rfl⟩ := hsl
      obtain ⟨_, _, hsl, _, _, rd2⟩ := H2.out.still' kw.out
      simp only [Value.slice.injEq] at hsl
      obtain ⟨rfl, -, rfl⟩ := hsl
      obtain ⟨b1, o1, rfl, d1, g1⟩ := Rd.byte rd1 hlt
      obtain ⟨b2, o2, rfl, d2, g2⟩ := Rd.byte rd2 hlt2
      clear rd1 rd2
      have hx := bits_xor_u8 a[n] b[n]
      have hll : ((xorB a b).take n ++ List.replicate (a.length - n) 0).length = a.length := by rw [List.length_append, List.length_take, List.length_replicate, xorB_len]; have := HL.out; omega
      have hset : ((xorB a b).take n ++ List.replicate (a.length - n) 0).set n (a[n] ^^^ b[n]) = (xorB a b).take (n + 1) ++ List.replicate (a.length - (n + 1)) 0 := by
        have ht : ((xorB a b).take n).length = n := by rw [List.length_take, xorB_len]; have := HL.out; omega
        rw [List.set_append_right _ _ (by omega), ht, Nat.sub_self, show a.length - n = (a.length - (n + 1)) + 1 by omega, List.replicate_succ, List.set_cons_zero, List.take_add_one, xorB_get hlt hlt2, List.append_assoc]
        rfl
      have HSET := Lib.hid hset
      have HLL := Lib.hid hll
      clear hset hll
      have hnl : ¬ (a.length : Int) ≤ (n : Int) := by omega
      go_wp2_with fail
      refine wp_region_chain 13 [12] (fun w' => w'.cell? ⟨b1, o1 + n, none⟩ = some (.int .u8 ((a[n].toNat : Nat) : Int)) ∧ w'.cell? ⟨b2, o2 + n, none⟩ = some (.int .u8 ((b[n].toNat : Nat) : Int))) (by kernel_rfl) (by kernel_rfl) ?_ ?_
      · exact ⟨g1, g2⟩
      refine SeqW.out ?_
      simp only [List.take_succ_cons, List.take_zero, List.drop_succ_cons, List.drop_zero]
      have kd := (Kept.refl Noneof wr).drew
      replace ho := Lib.hid (ho.out.kept kd fun _ h => h.elim)
      replace kw := Lib.hid (kw.out.tr kd)
      replace g1 := kd.cell (fun h => h) g1
      replace g2 := kd.cell (fun h => h) g2
      generalize wr.drew = wd at *
      clear kd
      obtain ⟨⟨u, hu⟩, hf, hgl, hgb⟩ := ho.out.slot (i := n) (by rw [HLL.out]; exact hlt)
      iterate 11 (refine SeqW.val (v := ?_) (by rfl) (by rfl) (fun wx hSw => ?_) ?_; rotate_left; (focus ((try dsimp only at hSw); go_simp; (try with_reducible rfl))); (try simp only [Act.put, List.setIfInBounds_toArray, List.set_cons_zero, List.set_cons_succ]))
      (refine SeqW.val (v := ?_) (by rfl) (by rfl) (fun wx hSw => ?_) ?_; rotate_left; (focus ((try dsimp only at hSw); go_simp; (try with_reducible rfl))); (try simp only [Act.put, List.setIfInBounds_toArray, List.set_cons_zero, List.set_cons_succ]))
      refine SeqW.act0 (by rfl) rfl (by rfl) (fun K hK => ?_)
      go_simp
      have hy : (a[n] ^^^ b[n]).toNat = a[n].toNat ^^^ b[n].toNat := UInt8.toNat_xor _ _
      rw [← hy]
      have OP := ho.out.put (i := n) (by rw [HLL.out]; exact hlt) (a[n] ^^^ b[n])
      rw [HSET.out] at OP
      replace OP := Lib.hid OP
      have KS := Lib.hid ((Kept.refl (fun b => b = g) wd).setCell (p := ⟨g, n, none⟩) (.inl rfl) (.int .u8 (((a[n] ^^^ b[n]).toNat : Nat) : Int)))
      have hg := HG.out
      refine hK.out _ ⟨KS.out.cell (p := ⟨b1, o1 + n, none⟩) (fun e => by have e : b1 = g := e; have := d1.2; omega) g1, KS.out.cell (p := ⟨b2, o2 + n, none⟩) (fun e => by have e : b2 = g := e; have := d2.2; omega) g2⟩ ?_
      clear K hK hu hf hx hy
      generalize wd.setCell _ _ = we at *
      have KW := Lib.hid (kw.out.trans KS.out fun b e => .inr (by omega))
      clear KS ho kw g1 g2 hnl
      (try simp only [Act.put, List.setIfInBounds_toArray, List.set_cons_zero, List.set_cons_succ])
      refine SeqW.nil ?_
      go_wp2
      go_roundw
      case rel => exact ⟨n + 1, by omega, by go_num, OP, KW⟩
      case measure => simp [intOf]; omega
    · obtain rfl : n = a.length := by omega
      go_wp2
      go_ret
      refine ⟨_, rfl, ?_, kw.out⟩
      have := ho.out
      rwa [Nat.sub_self, List.replicate_zero, List.append_nil, List.take_of_length_le (by rw [xorB_len]; omega)] at this

/-! ### Names -/
def NameN (c : Nat) : Prop := (97 ≤ c ∧ c ≤ 122) ∨ (48 ≤ c ∧ c ≤ 57) ∨ c = 45 ∨ c = 46
instance (c : Nat) : Decidable (NameN c) := by unfold NameN; infer_instance
def nameB (c : UInt8) : Bool := decide (NameN c.toNat)
def namedK (s : Bts) : Bool := s.all nameB && decide (1 ≤ s.length) && decide (s.length ≤ 16)
/-- The bytes of a string. -/
def sB (s : ByteArray) : Bts := s.data.toList
theorem sB_len (s : ByteArray) : (sB s).length = s.size := by unfold sB; rw [Array.length_toList]; rfl
theorem strV_sB (s : ByteArray) : strV (sB s) = .string s := rfl
set_option maxRecDepth 100000 in
set_option maxHeartbeats 1000000 in
theorem r7Named_calls {s : ByteArray} {w : World} (hs : s.size ≤ 140737488355328) :
    Calls Try.prog 80 #[.string s] w fun e w' => e = .returned (.bool (namedK (sB s))) ∧ w' = w := by
  go_enter Try.func80, Try.ntmps80
  go_wp2
  go_loopw [3] (fun i wr => ∃ n : Nat, n ≤ s.size ∧ i = .int .i64 n ∧ Hid (∀ c ∈ (sB s).take n, nameB c = true) ∧ wr = w) (fun i _ => s.size - (intOf i).toNat)
  case atStart => exact ⟨0, Nat.zero_le _, rfl, Lib.hid (by simp), rfl⟩
  case round =>
    obtain ⟨n, hn, rfl, ha, rfl⟩ := hrel
    by_cases hl : n < s.size
    · have hl2 : n < (sB s).length := by rw [sB_len]; exact hl
      have hc : (sB s)[n] = s[n] := rfl
      have hT := Lib.hid (show NameN s[n].toNat → ∀ c ∈ (sB s).take (n + 1), nameB c = true from fun h c hc' => by
        rw [List.take_add_one, List.getElem?_eq_getElem hl2] at hc'
        simp only [Option.toList_some, List.mem_append, List.mem_singleton] at hc'
        rcases hc' with hc' | rfl
        · exact ha.out c hc'
        · rw [hc]; exact decide_eq_true h)
      have hF := Lib.hid (show ¬ NameN s[n].toNat → false = namedK (sB s) from fun h => by
        have : (sB s).all nameB = false := List.all_eq_false.2 ⟨_, List.getElem_mem hl2, by rw [hc]; simp [nameB, h]⟩
        simp [namedK, this])
      have hb : s[n].toNat < 256 := s[n].toNat_lt
      clear hc ha
      go_wp2_with fail
      all_goals
        generalize s[n].toNat = c at *
        first
        | (go_ret; exact ⟨ret_bool (hF.out (by unfold NameN; simp at *; omega)), rfl⟩)
        | exact ⟨⟨n + 1, by omega, by go_num, Lib.hid (hT.out (by unfold NameN; simp at *; omega)), trivial⟩, by simp [intOf]; omega⟩
    · have HN := Lib.hid (show (sB s).all nameB = true from List.all_eq_true.2 fun c hc => ha.out c (by rw [List.take_of_length_le (by rw [sB_len]; omega)]; exact hc))
      obtain rfl : n = s.size := by omega
      go_wp2
      all_goals
        go_ret
        refine ⟨ret_bool ?_, rfl⟩
        unfold namedK
        rw [HN.out, sB_len]
        rw [Bool.eq_iff_iff]
        simp
        try omega
/-- '[]byte(s)': the string's bytes in new memory. -/
theorem bytes_conv {w : World} {s : ByteArray} (hs : s.size ≤ 140737488355328) :
    ∃ c, (∀ w', w' = w → (convert 9 31 (.string s)).run Try.prog w' = .ok (.slice (some ⟨w.heap.size, 0, none⟩) s.size c) (Lib.bytesWorld w 5 s)) ∧ BV (fun b => w.heap.size ≤ b) (Lib.bytesWorld w 5 s) (.slice (some ⟨w.heap.size, 0, none⟩) s.size c) (sB s) ∧ Kept Noneof w (Lib.bytesWorld w 5 s) := by
  refine ⟨grownCap w s.size 0 5, fun w' e => by rw [e]; exact Lib.run_convert_string_bytes w 9 31 5 s Try.underlying9 Try.underlying31 Try.underlying5, ?_, ?_⟩
  · refine ⟨_, _, by rw [sB_len], ⟨?_, fun h => by cases h⟩, by rw [sB_len]; exact hs, fun i hi => ⟨w.heap.size, 0, [.int .u8 (((sB s)[i].toNat : Nat) : Int)], rfl, Nat.le_refl _, fun j hj => ?_, rfl⟩⟩
    · rw [sB_len]
      exact grownCap_ge w s.size 0 5
    · obtain rfl : j = 0 := by simpa using hj
      have k : byteEl.k = 1 := rfl
      rw [k, Nat.zero_add, Nat.mul_one, Nat.add_zero, Lib.bytesWorld_cell w 5 s i (by rw [← sB_len]; exact hi)]
      simp only [List.getElem_cons_zero]
      congr 3
      show (s.data.toList.getD i 0).toNat = (sB s)[i].toNat
      rw [List.getD_eq_getElem?_getD, show s.data.toList = sB s from rfl, List.getElem?_eq_getElem hi]
      rfl
  · exact ⟨rfl, rfl, rfl, by rw [Lib.bytesWorld_size]; omega, fun j hj _ => Lib.bytesWorld_at_old w 5 s j hj⟩
set_option maxRecDepth 100000 in
set_option maxHeartbeats 1000000 in
theorem swnamed_calls {s : ByteArray} {w : World} (hs : s.size ≤ 140737488355328) :
    Calls Try.prog 135 #[.string s] w fun e w' => e = .returned (.bool (namedK (sB s))) ∧ Kept Noneof w w' := by
  obtain ⟨c, hc, hb, hk⟩ := bytes_conv (w := w) hs
  have hc := hc w rfl
  have HB := Lib.hid hb
  have HK := Lib.hid hk
  go_enter Try.func135, Try.ntmps135
  generalize Lib.bytesWorld w 5 s = w1 at *
  clear hb hk
  go_wp2
  go_loopw [8] (fun i wr => ∃ n : Nat, n ≤ s.size ∧ i = .int .i64 n ∧ Hid (∀ c ∈ (sB s).take n, nameB c = true) ∧ wr = w1) (fun i _ => s.size - (intOf i).toNat)
  case atStart => exact ⟨0, Nat.zero_le _, rfl, Lib.hid (by simp), rfl⟩
  case round =>
    obtain ⟨n, hn, rfl, ha, rfl⟩ := hrel
    by_cases hl : n < s.size
    · have hl2 : n < (sB s).length := by rw [sB_len]; exact hl
      obtain ⟨_, _, hsl, _, _, rd⟩ := HB.out
      simp only [Value.slice.injEq] at hsl
      obtain ⟨rfl, -, rfl⟩ := hsl
      obtain ⟨b1, o1, hbo, _, g1⟩ := Rd.byte rd hl2
      simp only [Option.some.injEq, Addr.mk.injEq, and_true] at hbo
      obtain ⟨rfl, rfl⟩ := hbo
      rw [Nat.zero_add] at g1
      have hT := Lib.hid (show NameN (sB s)[n].toNat → ∀ c ∈ (sB s).take (n + 1), nameB c = true from fun h c hc' => by
        rw [List.take_add_one, List.getElem?_eq_getElem hl2] at hc'
        simp only [Option.toList_some, List.mem_append, List.mem_singleton] at hc'
        rcases hc' with hc' | rfl
        · exact ha.out c hc'
        · exact decide_eq_true h)
      have hF := Lib.hid (show ¬ NameN (sB s)[n].toNat → false = namedK (sB s) from fun h => by
        have : (sB s).all nameB = false := List.all_eq_false.2 ⟨_, List.getElem_mem hl2, by simp [nameB, h]⟩
        simp [namedK, this])
      have hb : (sB s)[n].toNat < 256 := (sB s)[n].toNat_lt
      clear ha rd hc
      generalize (sB s)[n].toNat = c at *
      go_wp2_with fail
      all_goals
        first
        | (go_ret; exact ⟨ret_bool (hF.out (by unfold NameN; simp at *; omega)), HK.out⟩)
        | exact ⟨⟨n + 1, by omega, by go_num, Lib.hid (hT.out (by unfold NameN; simp at *; omega)), trivial⟩, by simp [intOf]; omega⟩
    · have HN := Lib.hid (show (sB s).all nameB = true from List.all_eq_true.2 fun c hc => ha.out c (by rw [List.take_of_length_le (by rw [sB_len]; omega)]; exact hc))
      obtain rfl : n = s.size := by omega
      clear hc
      go_wp2
      all_goals
        go_ret
        refine ⟨ret_bool ?_, HK.out⟩
        unfold namedK
        rw [HN.out, sB_len]
        rw [Bool.eq_iff_iff]
        simp
        try omega
end Go.Proofs.Ytaopjdjbpamhhaa
/- Proved: contracts of the vault's functions NewVault, none, Put (where it takes), Explain, and of the law function explains. Conditions: vaults in memory. -/
namespace Go.Proofs.Ytaopjdjbpamhhaa
open Go Go.RowKit
set_option linter.unusedVariables false
set_option linter.unusedSimpArgs false

/-- '[]byte{x}'. -/
theorem Own.lit1b (w : World) (y : UInt8) : Own 5 byteEl Noneof w.heap.size (w.alloc (.cells #[.int .u8 ((y.toNat : Nat) : Int)] 5)) (.slice (some ⟨w.heap.size, 0, none⟩) 1 1) [y] := by
  have hs : w.heap.size < (w.alloc (.cells #[.int .u8 ((y.toNat : Nat) : Int)] 5)).heap.size := by simp
  refine ⟨by simp, fun _ => False, fun b hb => hb.elim, [.int .u8 ((y.toNat : Nat) : Int)], ⟨by simp [byteEl], .inr ⟨w.heap.size, 1, _, rfl, Nat.le_refl _, heap_alloc_new _ _, Nat.le_refl _, by unfold maxLen; omega, by simp [byteEl], by simp [byteEl]⟩⟩, Cells.single rfl⟩
theorem results_cell_row_tmp {P : Program} {fn : Func} {p u : Tmp} {ty : TypeId} (h : fn.results = #[.cell p ty, .tmp u]) (tmps : Array Value) (w : World) (g : Nat) (t : TypeId) (cs : Array Value) (fr : Nat × Nat) (d : TypeDesc)
    (hp : tmps.getD p undef = .pointer (some ⟨g, 0, none⟩)) (hg : w.heap[g]? = some (.cells cs t fr))
    (hu : P.underlying ty = some d) (hd : (match d with | .struct _ | .array _ _ => true | _ => false) = true) (hi : (P.info? ty).map (·.size) = some cs.size) :
    (results fn tmps).run P w = .ok (.tuple #[.agg cs, tmps.getD u undef]) w := by
  have hp' : tmps[p]?.getD undef = .pointer (some ⟨g, 0, none⟩) := by simpa using hp
  simp [results, h, hp', asAddr, Sem.run_bind, Result.andThen, run_loadVar_row w g t ty cs fr d hg hu hd hi]
def vltObj (t : Nat) : Obj := .cells #[bp t] 191
def VltAt (seed : Int) (w : World) (v : Nat) (l : List (Bts × Bts)) (F : Nat → Prop) : Prop := ∃ t F0, w.heap[v]? = some (vltObj t) ∧ TabAt seed w t l F0 ∧ F v ∧ (∀ b, F0 b → F b ∧ b ≠ v)
section
variable {seed : Int} {w w' : World} {v : Nat} {l : List (Bts × Bts)} {F : Nat → Prop}
theorem VltAt.kept {X : Nat → Prop} (h : VltAt seed w v l F) (k : Kept X w w') (hX : ∀ b, F b → ¬ X b) : VltAt seed w' v l F := by
  obtain ⟨t, F0, h1, h2, h3, h4⟩ := h
  exact ⟨t, F0, k.obj (hX v h3) h1, h2.kept k fun b hb => hX b (h4 b hb).1, h3, h4⟩
theorem VltAt.still (h : VltAt seed w v l F) (k : Kept Noneof w w') : VltAt seed w' v l F := h.kept k fun _ _ h => h
theorem VltAt.wide {F' : Nat → Prop} (h : VltAt seed w v l F) (hF : ∀ b, F b → b < w.heap.size → F' b) : VltAt seed w v l F' := by
  obtain ⟨t, F0, h1, h2, h3, h4⟩ := h
  exact ⟨t, fun b => F0 b ∧ b < w.heap.size, h1, h2.wide fun b hb hl => ⟨hb, hl⟩, hF v h3 (block_lt h1), fun b hb => ⟨hF b (h4 b hb.1).1 hb.2, (h4 b hb.1).2⟩⟩
theorem vlt_cell {t : Nat} (h : w.heap[v]? = some (vltObj t)) : w.cell? ⟨v, 0, none⟩ = some (bp t) := by
  unfold vltObj at h
  simp [World.cell?, h]
end
theorem vnone_calls {seed : Int} {w : World} {v : Nat} {l : List (Bts × Bts)} {F : Nat → Prop} (h : VltAt seed w v l F) :
    Calls Try.prog 134 #[bp v] w fun e w' => e = .returned (.bool false) ∧ w' = w := by
  obtain ⟨t, F0, h1, _⟩ := h
  have c0 := vlt_cell h1
  clear h1
  go_enter Try.func134, Try.ntmps134
  go_wp2
  go_ret
  exact ⟨rfl, rfl⟩
theorem swNew_calls {seed : Int} {w : World} :
    Calls Try.prog 65 #[.int .u64 seed] w fun e w' => ∃ v, e = .returned (bp v) ∧ VltAt seed w' v [] (fun b => w.heap.size ≤ b ∧ b < w'.heap.size) ∧ Kept Noneof w w' ∧ w.heap.size ≤ v := by
  go_enter Try.func65, Try.ntmps65
  go_wp2_with fail
  refine (slNew_calls (seed := seed)).mono ?_
  rintro e w1 ⟨rfl, ht, k1, s1⟩
  go_wp2
  go_ret
  have k2 := (Kept.refl Noneof w1).alloc (.cells #[bp (w.heap.size + 1)] 191)
  have g2 := heap_alloc_new w1 (.cells #[bp (w.heap.size + 1)] 191)
  have hs : (w1.alloc (.cells #[bp (w.heap.size + 1)] 191)).heap.size = w1.heap.size + 1 := by simp
  rw [s1] at g2
  generalize w1.alloc (.cells #[bp (w.heap.size + 1)] 191) = w2 at *
  exact ⟨w.heap.size + 2, rfl, ⟨w.heap.size + 1, _, g2, ht.still k2, ⟨by omega, by omega⟩, fun b hb => ⟨⟨hb.1, by have := hb.2; omega⟩, by have := hb.2; omega⟩⟩, k1.tr k2, by omega⟩
set_option maxRecDepth 100000 in
set_option maxHeartbeats 4000000 in
theorem vPut_ok {seed : Int} {w : World} {v : Nat} {l : List (Bts × Bts)} {F D1 D2 : Nat → Prop} {s : ByteArray} {v1 v2 : Value} {data pad : Bts} (h : VltAt seed w v l F) (h1 : BV D1 w v1 data) (h2 : BV D2 w v2 pad) (hFl : ∀ b, F b → b < w.heap.size) (hd1 : ∀ b, D1 b → ¬ F b) (hd2 : ∀ b, D2 b → ¬ F b)
    (hn : namedK (sB s) = true) (hl : data.length = pad.length) (h9 : data.length ≤ 999) (hg : tget l (sB s) = none) (hr : l.length < 100000) (hs : s.size ≤ 140737488355328) :
    Calls Try.prog 67 #[bp v, .string s, v1, v2] w fun e w' => ∃ v' F', e = .returned (.tuple #[.agg #[.string s, v'], .int .i64 0]) ∧ BV (fun b => w.heap.size ≤ b ∧ ¬ F' b) w' v' (xorB data pad) ∧ VltAt seed w' v (tput l (sB s) (1 :: pad)) F' ∧ (∀ b, F' b → F b ∨ w.heap.size ≤ b) ∧ Kept F w w' := by
  have H := Lib.hid h
  have H1 := Lib.hid h1
  have H2 := Lib.hid h2
  have HN := Lib.hid hn
  have HL := Lib.hid hl
  have HG := Lib.hid hg
  have HR := Lib.hid hr
  have HS := Lib.hid hs
  have HFL := Lib.hid hFl
  have H9 := Lib.hid h9
  obtain ⟨a1, c1, rfl, _⟩ := h1
  obtain ⟨a2, c2, rfl, _⟩ := h2
  obtain ⟨t, F0, hv, ht, hFv, hF0⟩ := h
  have HV := Lib.hid hv
  have TT := Lib.hid ht
  have HF0 := Lib.hid hF0
  have HFv := Lib.hid hFv
  have h9' : decide ((999 : Int) < (pad.length : Int)) = false := decide_eq_false (by omega)
  rw [hl] at H1
  have hl' : data.length = pad.length := hl
  clear hn hg hr hs hFl hv ht hFv hF0 h9
  go_enter Try.func67, Try.ntmps67
  go_wp2_with fail
  have K1 := (Kept.refl Noneof w).alloc (.cells #[.string { data := #[] }, .slice none 0 0] 105)
  have G := heap_alloc_new w (.cells #[.string { data := #[] }, .slice none 0 0] 105)
  have s1 : (w.alloc (.cells #[.string { data := #[] }, .slice none 0 0] 105)).heap.size = w.heap.size + 1 := by simp
  generalize w.alloc (.cells #[.string { data := #[] }, .slice none 0 0] 105) = w1 at *
  refine (vnone_calls (H.out.still K1)).mono ?_
  rintro e w1' ⟨rfl, rfl⟩
  go_wp2_with fail
  refine (swnamed_calls HS.out).mono ?_
  rintro e w2 ⟨rfl, k2⟩
  rw [HN.out]
  have K2 := Lib.hid (K1.tr k2)
  replace G := Lib.hid (k2.obj (fun h => h) G)
  have S1 := Lib.hid (show w.heap.size < w2.heap.size by have := k2.size; omega)
  clear K1 k2 s1
  have cv : w2.cell? ⟨v, 0, none⟩ = some (bp t) := vlt_cell (K2.out.obj (fun h => h) HV.out)
  obtain ⟨cc, hc, hb, hk⟩ := bytes_conv (w := w2) HS.out
  replace hc := hc w2 rfl
  have HB := Lib.hid hb
  have K3 := Lib.hid (K2.out.tr hk)
  replace G := Lib.hid (hk.obj (fun h => h) G.out)
  have S2 := Lib.hid hk.size
  generalize Lib.bytesWorld w2 5 s = w3 at *
  clear hb hk
  go_wp2_with fail
  clear hc cv
  refine (slGet_calls (TT.out.still K3.out) HB.out).mono ?_
  rintro e w4 ⟨hres, k4⟩
  have hres : e = .returned (.tuple #[.slice none 0 0, .int .i64 3]) := by
    rcases hres with ⟨x, v', hx, _⟩ | ⟨_, h⟩
    · rw [HG.out] at hx; cases hx
    · exact h
  subst hres
  have K4 := Lib.hid (K3.out.tr k4)
  replace G := Lib.hid (k4.obj (fun h => h) G.out)
  have S4 := Lib.hid (show w.heap.size < w4.heap.size by have := k4.size; have := S1.out; have := S2.out; omega)
  clear k4 HB h9'
  go_wp2_with fail
  refine wp_region_kept 9 [(5, .act IsSlice fun u w1 => BV (fun b => w4.heap.size ≤ b) w1 u (sB s)), (6, .act IsSlice fun u w1 => Own 5 byteEl Noneof w4.heap.size w1 u [1] ∧ ∀ p n c, u = .slice (some p) n c → c = n), (8, .act IsSlice fun u w1 => Own 5 byteEl Noneof w4.heap.size w1 u (1 :: pad))] Noneof (by kernel_rfl) (by kernel_rfl) (by kernel_rfl) ?_
  simp only [List.take_succ_cons, List.take_zero, List.drop_succ_cons, List.drop_zero]
  have hS : ∀ w', Kept Noneof w4 w' → w'.cell? ⟨v, 0, none⟩ = some (bp t) := fun w' k => vlt_cell ((K4.out.tr k).obj (fun h => h) HV.out)
  iterate 5 (refine SeqL.val (v := ?_) hS rfl (by rfl) (fun wx hSw => ?_) ?_; rotate_left; (focus ((try dsimp only at hSw); go_simp; (try with_reducible rfl))); (try simp only [Act.put, List.setIfInBounds_toArray, List.set_cons_zero, List.set_cons_succ]))
  refine SeqL.act rfl rfl (by rfl) (by rfl) isSlice (fun wx hx hh K hK => ?_) (fun u1 hu1 => ?_)
  · obtain ⟨cc, hc, hb, hk⟩ := bytes_conv (w := wx) HS.out
    replace hc := hc wx rfl
    go_simp
    exact hK.out _ _ ⟨_, _, _, rfl⟩ hk (hb.wide byteEl_k fun b h _ => Nat.le_trans hx.size h)
  obtain ⟨q1, q2, q3, rfl⟩ := hu1
  (try simp only [Act.put, List.setIfInBounds_toArray, List.set_cons_zero, List.set_cons_succ])
  refine SeqL.act rfl rfl (by rfl) (by rfl) isSlice (fun wx hx hh K hK => ?_) (fun u1 hu1 => ?_)
  · go_simp
    exact hK.out _ _ ⟨_, _, _, rfl⟩ ((Kept.refl _ _).alloc _) ⟨(Own.lit1b wx 1).base hx.size, fun p n c h => by cases h; rfl⟩
  obtain ⟨q4, q5, q6, rfl⟩ := hu1
  (try simp only [Act.put, List.setIfInBounds_toArray, List.set_cons_zero, List.set_cons_succ])
  (refine SeqL.val (v := ?_) hS rfl (by rfl) (fun wx hSw => ?_) ?_; rotate_left; (focus ((try dsimp only at hSw); go_simp; (try with_reducible rfl))); (try simp only [Act.put, List.setIfInBounds_toArray, List.set_cons_zero, List.set_cons_succ]))
  refine SeqL.act rfl rfl (by rfl) (by rfl) isSlice (fun wx hx hh K hK => ?_) (fun u1 hu1 => ?_)
  · obtain ⟨wy, _, ⟨o2, f2⟩, hxy⟩ := hh 6 (by decide) (by kernel_rfl) _ _ _ rfl rfl
    refine wp_app_full_bytes (.tmp 52) (.tmp 53) _ rfl tBytes _ [1] rfl (o2.kept hxy fun _ h => h.elim) f2 _ pad rfl ((H2.out.still' K4.out).still' hx) (by simp; have := H2.out.len; have := H9.out; have := HL.out; omega) hx.size ?_
    rintro v' w' o4 k4 _
    exact hK.out _ _ o4.slice' k4 o4
  obtain ⟨q7, q8, q9, rfl⟩ := hu1
  (try simp only [Act.put, List.setIfInBounds_toArray, List.set_cons_zero, List.set_cons_succ])
  refine SeqL.nil fun wz hz hh => ?_
  obtain ⟨wa, _, ba, ka⟩ := hh 5 (by decide) _ _ _ rfl rfl
  obtain ⟨wb, _, ob, kb⟩ := hh 8 (by decide) _ _ _ rfl rfl
  have BA := Lib.hid (show BV (fun b => w4.heap.size ≤ b) wz (.slice q1 q2 q3) (sB s) from ba.still' ka)
  have OB := Lib.hid (show Own 5 byteEl Noneof w4.heap.size wz (.slice q7 q8 q9) (1 :: pad) from ob.kept kb fun _ h => h.elim)
  have KZ := Lib.hid (K4.out.tr hz)
  replace G := Lib.hid (hz.obj (fun h => h) G.out)
  have SZ := Lib.hid (show w4.heap.size ≤ wz.heap.size from hz.size)
  clear hh ba ka ob kb hz hS
  have hal : allowedK (sB s) (1 :: pad) = true := by
    have h1 := HN.out
    have h2 := H9.out
    have h3 := HL.out
    simp only [namedK, Bool.and_eq_true, decide_eq_true_eq] at h1
    simp only [allowedK, Bool.and_eq_true, decide_eq_true_eq, List.length_cons]
    omega
  go_wp2_with fail
  refine (slPut_calls (TT.out.still KZ.out) BA.out OB.out.sv (fun b h hf => by have := HFL.out b (HF0.out b hf).1; have := S4.out; omega) hal (.inr HR.out)).mono ?_
  rintro e w5 ⟨rfl, F1, t5, hF1, k5⟩
  have T5 := Lib.hid (t5.wide (F' := fun b => F1 b ∧ b < w5.heap.size) fun b h hl => ⟨h, hl⟩)
  have HF1 := Lib.hid hF1
  have K5 := Lib.hid (show Kept F w w5 from (KZ.out.mono (T := F) fun _ h => h.elim).trans k5 fun b h => .inl (HF0.out b h).1)
  have HV5 := Lib.hid (show w5.heap[v]? = some (vltObj t) from k5.obj (fun h => (HF0.out v h).2 rfl) (KZ.out.obj (fun h => h) HV.out))
  have S5 := Lib.hid (show wz.heap.size ≤ w5.heap.size from k5.size)
  have hF0w : ¬ F0 w.heap.size := fun h => by have := HFL.out _ (HF0.out _ h).1; omega
  replace G := Lib.hid (k5.obj hF0w G.out)
  replace H1 := Lib.hid ((H1.out.still' KZ.out).kept byteEl_k k5 fun b h _ hf => hd1 b h (HF0.out b hf).1)
  replace H2 := Lib.hid ((H2.out.still' KZ.out).kept byteEl_k k5 fun b h _ hf => hd2 b h (HF0.out b hf).1)
  clear k5 t5 hF0w hal BA OB
  go_wp2_with fail
  refine (swboth_calls H1.out H2.out HL.out).mono ?_
  rintro e w6 ⟨v6, rfl, o6, k6⟩
  have O6 := Lib.hid o6
  have K6 := Lib.hid (K5.out.trans k6 fun b h => h.elim)
  have T6 := Lib.hid (T5.out.still k6)
  have HV6 := Lib.hid (k6.obj (fun h => h) HV5.out)
  have G6 := Lib.hid (k6.obj (fun h => h) G.out)
  have S6 := Lib.hid k6.size
  obtain ⟨x1, x2, x3, rfl⟩ := o6.slice'
  have f0 : w6.cell? ⟨w.heap.size, 0, none⟩ = some (.string { data := #[] }) := by simp [World.cell?, G6.out]
  have f1 : w6.cell? ⟨w.heap.size, 1, none⟩ = some (.slice none 0 0) := by simp [World.cell?, G6.out]
  have ff : ∀ j, w6.frozen? ⟨w.heap.size, j, none⟩ = false := fun j => by simp [World.frozen?, G6.out]
  clear o6 k6 HV5 T5 G
  go_wp2
  have KT := ((Kept.refl (fun b => b = w.heap.size) w6).setCell (p := ⟨w.heap.size, 0, none⟩) (.inl rfl) (.string s)).setCell (p := ⟨w.heap.size, 1, none⟩) (.inl rfl) (.slice x1 x2 x3)
  have GF := setCell_obj (setCell_obj G6.out (.string s) (j := 0)) (.slice x1 x2 x3) (j := 1)
  refine bodyPost_ret (results_cell_row_tmp rfl _ _ w.heap.size _ #[_, _] (0, 0) _ rfl GF Try.underlying105 rfl (by kernel_rfl)) rfl ?_
  have hvw : v ≠ w.heap.size := by have := block_lt HV.out; omega
  have hFw : ¬ F w.heap.size := fun h => by have := HFL.out _ h; omega
  have hs4 := S4.out
  have hsz := SZ.out
  have hs5 := S5.out
  have hs6 := S6.out
  have ht : t < w.heap.size := TT.out.lt
  refine ⟨_, fun b => (F b ∨ (w.heap.size < b ∧ F1 b)) ∧ b < w5.heap.size, rfl, ?_, ⟨t, fun b => F1 b ∧ b < w5.heap.size, KT.obj hvw HV6.out, ?_, ⟨.inl HFv.out, by have := block_lt HV.out; omega⟩, fun b hb => ?_⟩, fun b hb => hb.1.elim .inl fun h => .inr (by omega), K6.out.trans KT fun b e => .inr (by omega)⟩
  · refine (O6.out.sv.wide (D' := fun b => w5.heap.size ≤ b) byteEl_k fun b h _ => h.elim (fun h => h.elim) fun h => h).kept byteEl_k KT (fun b h _ e => by omega) |>.wide byteEl_k fun b h _ => ⟨by omega, fun hb => by omega⟩
  · refine T6.out.kept KT fun b hb e => ?_
    rcases HF1.out b hb.1 with h | h
    · exact hFw (e ▸ (HF0.out b h).1)
    · omega
  · rcases HF1.out b hb.1 with h | h
    · exact ⟨⟨.inl (HF0.out b h).1, hb.2⟩, (HF0.out b h).2⟩
    · exact ⟨⟨.inr ⟨by omega, hb.1⟩, hb.2⟩, by have := block_lt HV.out; omega⟩

set_option maxRecDepth 100000 in
set_option maxHeartbeats 1000000 in
theorem swExplain_calls {D1 D2 : Nat → Prop} {w : World} {s : ByteArray} {v1 v2 : Value} {bs data : Bts} (h1 : BV D1 w v1 bs) (h2 : BV D2 w v2 data) :
    Calls Try.prog 78 #[.agg #[.string s, v1], v2] w fun e w' => ((¬ data.length = bs.length ∧ e = .returned (.tuple #[.slice none 0 0, .int .i64 1])) ∨ ∃ v', data.length = bs.length ∧ e = .returned (.tuple #[v', .int .i64 0]) ∧ Own 5 byteEl Noneof w.heap.size w' v' (xorB bs data)) ∧ Kept Noneof w w' := by
  have H1 := Lib.hid h1
  have H2 := Lib.hid h2
  obtain ⟨a1, c1, rfl, _⟩ := h1
  obtain ⟨a2, c2, rfl, _⟩ := h2
  have K1 := Lib.hid ((Kept.refl Noneof w).alloc (.cells #[.string s, .slice a1 bs.length c1] 105))
  have sz := Lib.hid (show w.heap.size ≤ (w.alloc (.cells #[.string s, .slice a1 bs.length c1] 105)).heap.size from K1.out.size)
  go_enter Try.func78, Try.ntmps78
  by_cases hl : data.length = bs.length
  · have HL := Lib.hid hl
    have e1 : ((data.length : Int) != (bs.length : Int)) = false := by rw [hl]; simp
    clear hl
    go_wp2_with fail
    clear e1
    generalize w.alloc (.cells #[.string s, .slice a1 bs.length c1] 105) = w1 at *
    refine (swboth_calls (H1.out.still' K1.out) (H2.out.still' K1.out) HL.out.symm).mono ?_
    rintro e w2 ⟨v', rfl, o2, k2⟩
    have O2 := Lib.hid o2
    have K2 := Lib.hid (K1.out.tr k2)
    obtain ⟨x1, x2, x3, rfl⟩ := o2.slice'
    clear o2 k2
    go_wp2
    go_ret2
    exact ⟨.inr ⟨_, HL.out, rfl, O2.out.base sz.out⟩, K2.out⟩
  · have HL := Lib.hid hl
    have e1 : ((data.length : Int) != (bs.length : Int)) = true := by rw [bne_iff_ne]; omega
    clear hl
    go_wp2
    go_ret2
    exact ⟨.inl ⟨HL.out, rfl⟩, K1.out⟩
def explB (pad data bs : Bts) : Bool := decide (pad.length = data.length) && xorB pad data == bs
end Go.Proofs.Ytaopjdjbpamhhaa
/- Proved: contracts of a vault's Open and Forget; of Put, Open, Forget and Image at a vault that there is not. Conditions: vaults and bytes in memory. -/
namespace Go.Proofs.Ytaopjdjbpamhhaa
open Go Go.RowKit
set_option linter.unusedVariables false
set_option linter.unusedSimpArgs false

/-- A vault that there is not: nil, or one that no function has returned. -/
def VNone (w : World) (x : Value) : Prop := x = .pointer none ∨ ∃ v, x = bp v ∧ w.cell? ⟨v, 0, none⟩ = some (.pointer none)
theorem VNone.still {w w' : World} {x : Value} (h : VNone w x) (k : Kept Noneof w w') : VNone w' x := by
  rcases h with h | ⟨v, h1, h2⟩
  · exact .inl h
  · exact .inr ⟨v, h1, k.cell (fun h => h) h2⟩
theorem vnone_none {w : World} {x : Value} (h : VNone w x) : Calls Try.prog 134 #[x] w fun e w' => e = .returned (.bool true) ∧ w' = w := by
  rcases h with rfl | ⟨v, rfl, hc⟩
  · go_enter Try.func134, Try.ntmps134
    go_wp2
    go_ret
    exact ⟨rfl, rfl⟩
  · go_enter Try.func134, Try.ntmps134
    go_wp2
    go_ret
    exact ⟨rfl, rfl⟩
set_option maxRecDepth 100000 in
set_option maxHeartbeats 1000000 in
theorem vPut_none {w : World} {x : Value} {s : ByteArray} {a1 a2 : Option Addr} {n1 c1 n2 c2 : Nat} (h : VNone w x) :
    Calls Try.prog 67 #[x, .string s, .slice a1 n1 c1, .slice a2 n2 c2] w fun e w' => e = .returned (.tuple #[.agg #[.string { data := #[] }, .slice none 0 0], .int .i64 1]) ∧ Kept Noneof w w' := by
  have H := Lib.hid h
  have hx : ∃ p, x = .pointer p := by
    rcases h with rfl | ⟨v, rfl, _⟩
    · exact ⟨_, rfl⟩
    · exact ⟨_, rfl⟩
  obtain ⟨p, rfl⟩ := hx
  clear h
  go_enter Try.func67, Try.ntmps67
  go_wp2_with fail
  have K1 := Lib.hid ((Kept.refl Noneof w).alloc (.cells #[.string { data := #[] }, .slice none 0 0] 105))
  have G := heap_alloc_new w (.cells #[.string { data := #[] }, .slice none 0 0] 105)
  generalize w.alloc (.cells #[.string { data := #[] }, .slice none 0 0] 105) = w1 at *
  refine (vnone_none (H.out.still K1.out)).mono ?_
  rintro e w1' ⟨rfl, rfl⟩
  have f0 : w1'.cell? ⟨w.heap.size, 0, none⟩ = some (.string { data := #[] }) := by simp [World.cell?, G]
  have f1 : w1'.cell? ⟨w.heap.size, 1, none⟩ = some (.slice none 0 0) := by simp [World.cell?, G]
  have ff : ∀ j, w1'.frozen? ⟨w.heap.size, j, none⟩ = false := fun j => by simp [World.frozen?, G]
  go_wp2
  have KT := ((Kept.refl (fun b => b = w.heap.size) w1').setCell (p := ⟨w.heap.size, 0, none⟩) (.inl rfl) (.string { data := #[] })).setCell (p := ⟨w.heap.size, 1, none⟩) (.inl rfl) (.slice none 0 0)
  have GF := setCell_obj (setCell_obj G (.string { data := #[] }) (j := 0)) (.slice none 0 0) (j := 1)
  refine bodyPost_ret (results_cell_row_tmp rfl _ _ w.heap.size _ #[_, _] (0, 0) _ rfl GF Try.underlying105 rfl (by kernel_rfl)) rfl ?_
  exact ⟨rfl, K1.out.trans KT fun b e => .inr (by omega)⟩
theorem vOpen_none {w : World} {x : Value} {s : ByteArray} {a1 : Option Addr} {n1 c1 : Nat} (h : VNone w x) :
    Calls Try.prog 69 #[x, .agg #[.string s, .slice a1 n1 c1]] w fun e w' => e = .returned (.tuple #[.slice none 0 0, .int .i64 3]) ∧ Kept Noneof w w' := by
  have H := Lib.hid h
  have hx : ∃ p, x = .pointer p := by
    rcases h with rfl | ⟨v, rfl, _⟩
    · exact ⟨_, rfl⟩
    · exact ⟨_, rfl⟩
  obtain ⟨p, rfl⟩ := hx
  clear h
  go_enter Try.func69, Try.ntmps69
  go_wp2_with fail
  have K1 := Lib.hid ((Kept.refl Noneof w).alloc (.cells #[.string s, .slice a1 n1 c1] 105))
  generalize w.alloc (.cells #[.string s, .slice a1 n1 c1] 105) = w1 at *
  refine (vnone_none (H.out.still K1.out)).mono ?_
  rintro e w1' ⟨rfl, rfl⟩
  go_wp2
  go_ret2
  exact ⟨rfl, K1.out⟩
theorem vForget_none {w : World} {x : Value} {s : ByteArray} (h : VNone w x) :
    Calls Try.prog 70 #[x, .string s] w fun e w' => e = .returned (.int .i64 1) ∧ w' = w := by
  have H := Lib.hid h
  clear h
  go_enter Try.func70, Try.ntmps70
  go_wp2_with fail
  refine (vnone_none H.out).mono ?_
  rintro e w1' ⟨rfl, rfl⟩
  go_wp2
  go_ret
  exact ⟨rfl, rfl⟩
theorem vImage_none {w : World} {x : Value} (h : VNone w x) :
    Calls Try.prog 71 #[x] w fun e w' => e = .returned (.slice none 0 0) ∧ w' = w := by
  have H := Lib.hid h
  clear h
  go_enter Try.func71, Try.ntmps71
  go_wp2_with fail
  refine (vnone_none H.out).mono ?_
  rintro e w1' ⟨rfl, rfl⟩
  go_wp2
  go_ret
  exact ⟨rfl, rfl⟩
/-! ### A vault that there is -/
set_option maxRecDepth 100000 in
set_option maxHeartbeats 1000000 in
theorem vForget_calls {seed : Int} {w : World} {v : Nat} {l : List (Bts × Bts)} {F : Nat → Prop} {s : ByteArray} (h : VltAt seed w v l F) (hFl : ∀ b, F b → b < w.heap.size) (hs : s.size ≤ 140737488355328) :
    Calls Try.prog 70 #[bp v, .string s] w fun e w' => e = .returned (.int .i64 (dropE l (sB s))) ∧ VltAt seed w' v (tdel l (sB s)) F ∧ Kept F w w' := by
  have H := Lib.hid h
  obtain ⟨t, F0, hv, ht, hFv, hF0⟩ := h
  have cv := vlt_cell hv
  have TT := Lib.hid ht
  have HV := Lib.hid hv
  have HF0 := Lib.hid hF0
  have HFv := Lib.hid hFv
  have HFL := Lib.hid hFl
  obtain ⟨cc, hc, hb, hk⟩ := bytes_conv (w := w) hs
  replace hc := hc w rfl
  have HB := Lib.hid hb
  have K1 := Lib.hid hk
  clear hv ht hFv hF0 hFl hb hk
  go_enter Try.func70, Try.ntmps70
  go_wp2_with fail
  refine (vnone_calls H.out).mono ?_
  rintro e w1' ⟨rfl, rfl⟩
  generalize Lib.bytesWorld w1' 5 s = w3 at *
  go_wp2_with fail
  clear hc cv
  refine (slDrop_calls (TT.out.still K1.out) HB.out (fun b h hf => by have := HFL.out b (HF0.out b hf).1; omega)).mono ?_
  rintro e w4 ⟨rfl, t4, k4⟩
  have T4 := Lib.hid t4
  have K4 := Lib.hid k4
  clear t4 k4
  go_wp2
  go_ret
  refine ⟨rfl, ⟨t, F0, K4.out.obj (fun hh => (HF0.out v hh).2 rfl) (K1.out.obj (fun h => h) HV.out), T4.out, HFv.out, HF0.out⟩, (K1.out.mono (T := F) fun _ h => h.elim).trans K4.out fun b hb => .inl (HF0.out b hb).1⟩
/-- What Open returns: the error, and the record. -/
def openK (o : Option Bts) (bs : Bts) : Int × Bts := match o with
  | none => (3, [])
  | some kept => if kept.length = bs.length + 1 then (0, xorB bs (kept.drop 1)) else (2, [])
set_option maxRecDepth 100000 in
set_option maxHeartbeats 4000000 in
theorem vOpen_calls {seed : Int} {w : World} {v : Nat} {l : List (Bts × Bts)} {F D1 : Nat → Prop} {s : ByteArray} {v1 : Value} {bs : Bts} (h : VltAt seed w v l F) (h1 : BV D1 w v1 bs) (hs : s.size ≤ 140737488355328) :
    Calls Try.prog 69 #[bp v, .agg #[.string s, v1]] w fun e w' => ∃ v', e = .returned (.tuple #[v', .int .i64 (openK (tget l (sB s)) bs).1]) ∧ Own 5 byteEl Noneof w.heap.size w' v' (openK (tget l (sB s)) bs).2 ∧ Kept Noneof w w' := by
  have H := Lib.hid h
  have H1 := Lib.hid h1
  have HS := Lib.hid hs
  obtain ⟨⟨er, rb⟩, hres⟩ : ∃ r, openK (tget l (sB s)) bs = r := ⟨_, rfl⟩
  rw [hres]
  have RES := Lib.hid hres
  clear hres
  obtain ⟨a1, c1, rfl, _, hm, _⟩ := h1
  obtain ⟨t, F0, hv, ht, _⟩ := h
  have TT := Lib.hid ht
  have HV := Lib.hid hv
  clear hv ht hs
  go_enter Try.func69, Try.ntmps69
  go_wp2_with fail
  have K1 := Lib.hid ((Kept.refl Noneof w).alloc (.cells #[.string s, .slice a1 bs.length c1] 105))
  have G := Lib.hid (heap_alloc_new w (.cells #[.string s, .slice a1 bs.length c1] 105))
  have sz : w.heap.size ≤ (w.alloc (.cells #[.string s, .slice a1 bs.length c1] 105)).heap.size := by simp
  replace sz := Lib.hid sz
  generalize w.alloc (.cells #[.string s, .slice a1 bs.length c1] 105) = w1 at *
  refine (vnone_calls (H.out.still K1.out)).mono ?_
  rintro e w1' ⟨rfl, rfl⟩
  have G0 := Lib.hid (fun (w' : World) (k : Kept Noneof w1' w') => show w'.cell? ⟨v, 0, none⟩ = some (bp t) ∧ w'.cell? ⟨w.heap.size, 0, none⟩ = some (.string s) ∧ w'.cell? ⟨w.heap.size, 1, none⟩ = some (.slice a1 bs.length c1) from
    ⟨vlt_cell ((K1.out.tr k).obj (fun h => h) HV.out), by have := k.obj (fun h => h) G.out; simp [World.cell?, this], by have := k.obj (fun h => h) G.out; simp [World.cell?, this]⟩)
  go_wp2_with fail
  refine wp_region_chain 13 [6, 7] (fun w' => w'.cell? ⟨v, 0, none⟩ = some (bp t) ∧ w'.cell? ⟨w.heap.size, 0, none⟩ = some (.string s) ∧ w'.cell? ⟨w.heap.size, 1, none⟩ = some (.slice a1 bs.length c1)) (by kernel_rfl) (by kernel_rfl) ?_ ?_
  · exact G0.out _ (Kept.refl _ _).drew
  refine SeqW.out ?_
  simp only [List.take_succ_cons, List.take_zero, List.drop_succ_cons, List.drop_zero]
  have kd := (Kept.refl Noneof w1').drew
  generalize w1'.drew = wd at *
  iterate 6 (refine SeqW.val (v := ?_) (by rfl) (by rfl) (fun wx hSw => ?_) ?_; rotate_left; (focus ((try dsimp only at hSw); go_simp; (try with_reducible rfl))); (try simp only [Act.put, List.setIfInBounds_toArray, List.set_cons_zero, List.set_cons_succ]))
  refine SeqW.act (by rfl) rfl (by rfl) (by rfl) (fun K hK => ?_)
  go_simp
  obtain ⟨cc, hc, hb, hk⟩ := bytes_conv (w := wd) HS.out
  replace hc := hc wd rfl
  go_simp
  refine hK.out _ _ (G0.out _ (kd.tr hk)) ?_
  have K3 := Lib.hid (kd.tr hk)
  have HB := Lib.hid hb
  generalize Lib.bytesWorld wd 5 s = w3 at *
  clear K hK kd hk hb hc
  (try simp only [Act.put, List.setIfInBounds_toArray, List.set_cons_zero, List.set_cons_succ])
  refine SeqW.act (by rfl) rfl (by rfl) (by rfl) (fun K hK => ?_)
  go_simp
  refine (slGet_calls (TT.out.still (K1.out.tr K3.out)) HB.out).mono ?_
  rintro e w4 ⟨hres, k4⟩
  have S4 := Lib.hid (show w1'.heap.size ≤ w4.heap.size from (K3.out.tr k4).size)
  have K4 := Lib.hid (K3.out.tr k4)
  have S3 := Lib.hid (show w1'.heap.size ≤ w3.heap.size from K3.out.size)
  rcases hres with ⟨x, v', hx, rfl, o4⟩ | ⟨hx, rfl⟩
  · have O4 := Lib.hid o4
    obtain ⟨x1, x3, rfl⟩ := o4.slice
    have R2 := RES.out
    rw [hx] at R2
    unfold openK at R2
    simp only at R2
    obtain ⟨m, hm2⟩ : ∃ m, x.length = m := ⟨_, rfl⟩
    rw [hm2] at R2 ⊢
    have HM := Lib.hid hm2
    have GS := Lib.hid (G0.out _ K4.out)
    refine hK.out _ _ (G0.out _ K4.out) ?_
    clear K hK k4 o4 HB hx RES hm2
    (try simp only [Act.put, List.setIfInBounds_toArray, List.set_cons_zero, List.set_cons_succ])
    iterate 5 (refine SeqW.val (v := ?_) (by rfl) (by rfl) (fun wx hSw => ?_) ?_; rotate_left; (focus ((try dsimp only at hSw); go_simp; (try with_reducible rfl))); (try simp only [Act.put, List.setIfInBounds_toArray, List.set_cons_zero, List.set_cons_succ]))
    refine SeqW.nil ?_
    obtain ⟨g0, g1, g2⟩ := GS.out
    by_cases hl : m = bs.length + 1
    rotate_left
    · rw [if_neg hl] at R2
      obtain ⟨rfl, rfl⟩ := Prod.mk.inj R2
      have e1 : ((m : Int) != (bs.length : Int) + 1) = true := by rw [bne_iff_ne]; omega
      clear hl R2
      go_wp2
      go_ret2
      exact ⟨_, rfl, Own.nil _ _ _ _ _, K1.out.tr K4.out⟩
    rw [if_pos hl] at R2
    obtain ⟨rfl, hrb⟩ := Prod.mk.inj R2
    have RB := Lib.hid hrb
    clear R2 hrb
    subst hl
    go_upto_region 8 with (fail)
    refine wp_region_chain 7 [4] (fun w' => w'.cell? ⟨w.heap.size, 1, none⟩ = some (.slice a1 bs.length c1)) (by kernel_rfl) (by kernel_rfl) ?_ ?_
    · exact g2
    refine SeqW.out ?_
    simp only [List.take_succ_cons, List.take_zero, List.drop_succ_cons, List.drop_zero]
    have kd := (Kept.refl Noneof w4).drew
    have K5 := Lib.hid (K4.out.tr kd)
    replace O4 := Lib.hid (O4.out.kept kd fun _ h => h.elim)
    replace S4 := Lib.hid (show w.heap.size ≤ w4.drew.heap.size from Nat.le_trans sz.out S4.out)
    replace g2 := kd.cell (p := ⟨w.heap.size, 1, none⟩) (fun h => h) g2
    generalize w4.drew = wf at *
    clear kd
    have hb1 : (1 : Int) ≤ (bs.length : Int) + 1 := by omega
    iterate 4 (refine SeqW.val (v := ?_) (by rfl) (by rfl) (fun wx hSw => ?_) ?_; rotate_left; (focus ((try dsimp only at hSw); go_simp; (try with_reducible rfl))); (try simp only [Act.put, List.setIfInBounds_toArray, List.set_cons_zero, List.set_cons_succ]))
    refine SeqW.act (by rfl) rfl (by rfl) (by rfl) (fun K hK => ?_)
    go_simp
    have XD := SV.drop (n := 1) (d := 1) O4.out.sv (by rw [HM.out]; omega) rfl
    rw [HM.out] at XD
    refine (swboth_calls (H1.out.still' (K1.out.tr K5.out)) XD (by rw [List.length_drop, HM.out]; omega)).mono ?_
    rintro e w6 ⟨v6, rfl, o6, k6⟩
    refine hK.out _ _ (k6.cell (p := ⟨w.heap.size, 1, none⟩) (fun h => h) g2) ?_
    have O6 := Lib.hid (o6.base S4.out)
    have K6 := Lib.hid ((K1.out.tr K5.out).tr k6)
    clear K hK o6 k6
    (try simp only [Act.put, List.setIfInBounds_toArray, List.set_cons_zero, List.set_cons_succ])
    iterate 2 (refine SeqW.val (v := ?_) (by rfl) (by rfl) (fun wx hSw => ?_) ?_; rotate_left; (focus ((try dsimp only at hSw); go_simp; (try with_reducible rfl))); (try simp only [Act.put, List.setIfInBounds_toArray, List.set_cons_zero, List.set_cons_succ]))
    refine SeqW.nil ?_
    obtain ⟨y1, y2, y3, rfl⟩ := O6.out.slice'
    clear g0 g1 g2 hb1
    rw [RB.out] at O6
    go_wp2
    all_goals
      go_ret2
      exact ⟨_, rfl, O6.out, K6.out⟩
  · have R2 := RES.out
    rw [hx] at R2
    obtain ⟨rfl, rfl⟩ := Prod.mk.inj R2
    refine hK.out _ _ (G0.out _ K4.out) ?_
    clear K hK k4 HB hx RES R2
    (try simp only [Act.put, List.setIfInBounds_toArray, List.set_cons_zero, List.set_cons_succ])
    iterate 5 (refine SeqW.val (v := ?_) (by rfl) (by rfl) (fun wx hSw => ?_) ?_; rotate_left; (focus ((try dsimp only at hSw); go_simp; (try with_reducible rfl))); (try simp only [Act.put, List.setIfInBounds_toArray, List.set_cons_zero, List.set_cons_succ]))
    refine SeqW.nil ?_
    go_wp2
    go_ret2
    exact ⟨_, rfl, Own.nil _ _ _ _ _, K1.out.tr K4.out⟩
end Go.Proofs.Ytaopjdjbpamhhaa
/- Proved: deeds of the law functions of chapter 07 as elements of slices. Plain: what deeds do to a vault's pads. Conditions: deeds in memory. -/
namespace Go.Proofs.Ytaopjdjbpamhhaa
open Go Go.RowKit Go.ChangeShapes Go.WideShapes
set_option linter.unusedVariables false
set_option linter.unusedSimpArgs false

/-- A deed: its kind, a name, data, a pad. -/
abbrev DeedK := Int × ByteArray × Bts × Bts
def deedEl : El DeedK where
  k := 4
  R := fun D w cs x => ∃ u v, cs = [.int .i64 x.1, .string x.2.1, u, v] ∧ x.2.1.size ≤ 140737488355328 ∧ BV D w u x.2.2.1 ∧ BV D w v x.2.2.2
  mono := fun hw ⟨u, v, h1, h0, h2, h3⟩ => ⟨u, v, h1, h0, h2.mono byteEl_k hw, h3.mono byteEl_k hw⟩
  len := fun ⟨u, v, h1, _⟩ => by rw [h1]; rfl
  one := fun ⟨u, v, h1, _, h2, h3⟩ x hx => by
    rw [h1] at hx
    simp only [List.mem_cons, List.not_mem_nil, or_false] at hx
    rcases hx with rfl | rfl | rfl | rfl
    · rfl
    · rfl
    · exact h2.cell1
    · exact h3.cell1
theorem deedEl_k : 0 < deedEl.k := by decide
theorem Rd.deed {D : Nat → Prop} {w : World} {a : Option Addr} {l : List DeedK} (h : Rd deedEl D w a l) {i : Nat} (hi : i < l.length) : ∃ b o u v, a = some ⟨b, o, none⟩ ∧ D b ∧ w.cell? ⟨b, o + i * 4, none⟩ = some (.int .i64 l[i].1) ∧ w.cell? ⟨b, o + i * 4 + 1, none⟩ = some (.string l[i].2.1) ∧ w.cell? ⟨b, o + i * 4 + 2, none⟩ = some u ∧ w.cell? ⟨b, o + i * 4 + 3, none⟩ = some v ∧ l[i].2.1.size ≤ 140737488355328 ∧ BV D w u l[i].2.2.1 ∧ BV D w v l[i].2.2.2 := by
  obtain ⟨b, o, cs, h1, h2, h4, u, v, h5, h0, h6, h7⟩ := h i hi
  subst h5
  have e0 := h4 0 (by simp)
  have e1 := h4 1 (by simp)
  have e2 := h4 2 (by simp)
  have e3 := h4 3 (by simp)
  exact ⟨b, o, u, v, h1, h2, by simpa [deedEl] using e0, by simpa [deedEl, Nat.add_assoc] using e1, by simpa [deedEl, Nat.add_assoc] using e2, by simpa [deedEl, Nat.add_assoc] using e3, h0, h6, h7⟩
/-- A struct of an int, a string and two slices of bytes. -/
theorem opens_deed {P : Program} {s ti tt t e : TypeId} {f0 f1 f2 f3 : Field} (hs : P.underlying s = some (.struct #[f0, f1, f2, f3])) (o0 : f0.offset = 0) (o1 : f1.offset = 1) (o2 : f2.offset = 2) (o3 : f3.offset = 3) (t0 : f0.type = ti) (t1 : f1.type = tt) (t2 : f2.type = t) (t3 : f3.type = t)
    (ci : P.cellsOf ti = 1) (cc : P.cellsOf tt = 1) (ct : P.cellsOf t = 1) (cs4 : P.cellsOf s = 4) (hi : P.underlying ti = some (.int .i64)) (hst : P.underlying tt = some .string)
    (ht : P.underlying t = some (.slice e)) (he : P.underlying e = some (.int .u8)) (hc : P.cellsOf e = 1) (hb : 1 ≤ P.bytesOf e) : Opens P s deedEl := by
  intro H enc w base spare held fuel cs x h hw
  obtain ⟨xs, n, _, rfl, hlen, hxl, hf⟩ := DataW.trod_struct hs h
  have g0 := hf 0 f0 rfl
  have g1 := hf 1 f1 rfl
  have g2 := hf 2 f2 rfl
  have g3 := hf 3 f3 rfl
  rw [o0, t0, ci] at g0
  rw [o1, t1, cc] at g1
  rw [o2, t2, ct] at g2
  rw [o3, t3, ct] at g3
  rw [cs4] at hlen
  match xs, hxl, cs, hlen with
  | [y0, y1, y2, y3], _, [v0, v1, v2, v3], _ =>
    simp only [List.drop_zero, List.take_succ_cons, List.take_zero, List.getElem?_cons_zero] at g0
    simp only [List.drop_succ_cons, List.drop_zero, List.take_succ_cons, List.take_zero, List.getElem?_cons_succ, List.getElem?_cons_zero] at g1
    simp only [List.drop_succ_cons, List.drop_zero, List.take_succ_cons, List.take_zero, List.getElem?_cons_succ, List.getElem?_cons_zero] at g2
    simp only [List.drop_succ_cons, List.drop_zero, List.take_succ_cons, List.take_zero, List.getElem?_cons_succ, List.getElem?_cons_zero] at g3
    have w1 : ∀ n ∈ y1.1.weights P tt, n ≤ reachBytes := fun n hn => hw n (by
      simp only [DataW.weights, hs, List.map_cons, List.map_nil, DataW.weightsEach, t0, t1, t2, t3, List.mem_append]
      exact .inr (.inl hn))
    have w2 : ∀ n ∈ y2.1.weights P t, n ≤ reachBytes := fun n hn => hw n (by
      simp only [DataW.weights, hs, List.map_cons, List.map_nil, DataW.weightsEach, t0, t1, t2, t3, List.mem_append]
      exact .inr (.inr (.inl hn)))
    have w3 : ∀ n ∈ y3.1.weights P t, n ≤ reachBytes := fun n hn => hw n (by
      simp only [DataW.weights, hs, List.map_cons, List.map_nil, DataW.weightsEach, t0, t1, t2, t3, List.mem_append]
      exact .inr (.inr (.inr (.inl hn))))
    obtain ⟨x0, hx0, _, _⟩ := DataW.trod_int hi g0
    obtain ⟨s1, hs1, rfl, _⟩ := DataW.trod_string hst g1
    obtain ⟨k2, u2, hu2, h2⟩ := opens_bytes ht he hc hb _ _ _ _ _ _ _ _ _ g2 w2
    obtain ⟨k3, u3, hu3, h3⟩ := opens_bytes ht he hc hb _ _ _ _ _ _ _ _ _ g3 w3
    simp only [List.cons.injEq, and_true] at hx0 hs1 hu2 hu3
    subst hx0
    subst hs1
    subst hu2
    subst hu3
    have hsz : s1.size ≤ 140737488355328 := by
      have := w1 s1.data.toList.length (by simp [DataW.weights])
      have e : s1.data.toList.length = s1.size := by rw [Array.length_toList]; rfl
      have r : reachBytes = 140737488351232 := by decide
      omega
    exact ⟨(x0, s1, k2, k3), _, _, rfl, hsz, h2, h3⟩

/-! ### Plain: what deeds do -/
def goodD (n : Bts) (data pad : Bts) : Bool := namedK n && decide (data.length = pad.length) && decide (data.length ≤ 999)
def vputT (out : List (Bts × Bts)) (n data pad : Bts) : List (Bts × Bts) := if goodD n data pad = true ∧ tget out n = none then tput out n (1 :: pad) else out
def deedT (out : List (Bts × Bts)) (d : DeedK) : List (Bts × Bts) := if d.1 = 0 then vputT out (sB d.2.1) d.2.2.1 d.2.2.2 else if d.1 = 2 then tdel out (sB d.2.1) else out
def deedsT (out : List (Bts × Bts)) (l : List DeedK) : List (Bts × Bts) := l.foldl deedT out
theorem deedsT_succ {out : List (Bts × Bts)} {l : List DeedK} {n : Nat} (h : n < l.length) : deedsT out (l.take (n + 1)) = deedT (deedsT out (l.take n)) l[n] := by
  unfold deedsT
  rw [List.take_add_one, List.getElem?_eq_getElem h, List.foldl_append]
  rfl
theorem vputT_len (out : List (Bts × Bts)) (n data pad : Bts) : (vputT out n data pad).length ≤ out.length + 1 := by
  unfold vputT
  split
  · rw [tput_len]; split <;> omega
  · omega
theorem deedT_len (out : List (Bts × Bts)) (d : DeedK) : (deedT out d).length ≤ out.length + 1 := by
  unfold deedT
  split
  · exact vputT_len _ _ _ _
  · split
    · have := tdel_len out (sB d.2.1); omega
    · omega
theorem deedsT_len : ∀ (l : List DeedK) (out : List (Bts × Bts)), (deedsT out l).length ≤ out.length + l.length
  | [], out => by simp [deedsT]
  | d :: l, out => by
    have h1 := deedsT_len l (deedT out d)
    have h2 := deedT_len out d
    unfold deedsT at h1 ⊢
    rw [List.foldl_cons, List.length_cons]
    omega
theorem tget_tput_ne : ∀ {l : List (Bts × Bts)} {k v n : Bts}, k ≠ n → tget (tput l k v) n = tget l n
  | [], k, v, n, h => by simp [tput, tget, h]
  | p :: l, k, v, n, h => by
    rw [tput]
    split
    · rename_i e
      rw [tget, tget, if_neg h, if_neg (by rw [e]; exact h)]
    · rw [tget, tget, tget_tput_ne h]
theorem tget_tput_eq : ∀ {l : List (Bts × Bts)} {k v : Bts}, tget (tput l k v) k = some v
  | [], k, v => by simp [tput, tget]
  | p :: l, k, v => by
    rw [tput]
    split
    · rw [tget, if_pos rfl]
    · rename_i e
      rw [tget, if_neg e, tget_tput_eq]
theorem tget_tdel_ne : ∀ {l : List (Bts × Bts)} {k n : Bts}, k ≠ n → tget (tdel l k) n = tget l n
  | [], k, n, h => rfl
  | p :: l, k, n, h => by
    rw [tdel]
    split
    · rename_i e
      rw [tget, if_neg (by rw [e]; exact h)]
    · rw [tget, tget, tget_tdel_ne h]
theorem tdel_tput_ne : ∀ {l : List (Bts × Bts)} {k v n : Bts}, k ≠ n → tdel (tput l k v) n = tput (tdel l n) k v
  | [], k, v, n, h => by simp [tput, tdel, h]
  | p :: l, k, v, n, h => by
    rw [tput]
    split
    · rename_i e
      rw [tdel, if_neg h, tdel, if_neg (by rw [e]; exact h), tput, if_pos e]
    · rename_i e
      rw [tdel, tdel]
      split
      · rfl
      · rw [tput, if_neg e, tdel_tput_ne h]
theorem tdel_comm : ∀ {l : List (Bts × Bts)} {k n : Bts}, k ≠ n → tdel (tdel l k) n = tdel (tdel l n) k
  | [], k, n, h => rfl
  | p :: l, k, n, h => by
    by_cases e1 : p.1 = k
    · have e2 : ¬ p.1 = n := by rw [e1]; exact h
      rw [tdel, if_pos e1, tdel, if_neg e2, tdel, if_pos e1]
    · by_cases e2 : p.1 = n
      · rw [tdel, if_neg e1, tdel, if_pos e2, tdel, if_pos e2]
      · rw [tdel, if_neg e1, tdel, if_neg e2, tdel, if_neg e2, tdel, if_neg e1, tdel_comm h]
theorem tdel_tput_eq : ∀ {l : List (Bts × Bts)} {k v : Bts}, tget l k = none → tdel (tput l k v) k = l
  | [], k, v, h => by simp [tput, tdel]
  | p :: l, k, v, h => by
    rw [tget] at h
    split at h
    · cases h
    · rename_i e
      rw [tput, if_neg e, tdel, if_neg e, tdel_tput_eq h]
theorem deedT_get {out : List (Bts × Bts)} {d : DeedK} {n : Bts} (h : sB d.2.1 ≠ n) : tget (deedT out d) n = tget out n := by
  unfold deedT
  split
  · unfold vputT
    split
    · exact tget_tput_ne h
    · rfl
  · split
    · exact tget_tdel_ne h
    · rfl
theorem deedT_del {out : List (Bts × Bts)} {d : DeedK} {n : Bts} (h : sB d.2.1 ≠ n) : tdel (deedT out d) n = deedT (tdel out n) d := by
  unfold deedT
  split
  · unfold vputT
    rw [tget_tdel_ne h.symm]
    split
    · exact tdel_tput_ne h
    · rfl
  · split
    · exact tdel_comm h
    · rfl
theorem deedsT_get {n : Bts} : ∀ {l : List DeedK} {out : List (Bts × Bts)}, (∀ d ∈ l, sB d.2.1 ≠ n) → tget (deedsT out l) n = tget out n
  | [], out, _ => rfl
  | d :: l, out, h => by
    show tget (deedsT (deedT out d) l) n = _
    rw [deedsT_get fun x hx => h x (List.mem_cons_of_mem _ hx), deedT_get (h d List.mem_cons_self)]
theorem deedsT_del {n : Bts} : ∀ {l : List DeedK} {out : List (Bts × Bts)}, (∀ d ∈ l, sB d.2.1 ≠ n) → tdel (deedsT out l) n = deedsT (tdel out n) l
  | [], out, _ => rfl
  | d :: l, out, h => by
    show tdel (deedsT (deedT out d) l) n = deedsT (deedT (tdel out n) d) l
    rw [deedsT_del fun x hx => h x (List.mem_cons_of_mem _ hx), deedT_del (h d List.mem_cons_self)]
theorem sB_inj {s t : ByteArray} (h : sB s = sB t) : s = t := by
  have h1 := strV_sB s
  have h2 := strV_sB t
  rw [h] at h1
  rw [h1] at h2
  injection h2
/-- Whether done does all deeds. -/
def okD (name : ByteArray) (d : DeedK) : Bool := decide (d.2.2.1.length ≤ 2000) && decide (d.2.2.2.length ≤ 2000) && decide (d.2.1.size ≤ 2000) && decide (d.2.1 ≠ name)
theorem okD_ne {name : ByteArray} {d : DeedK} (h : okD name d = true) : sB d.2.1 ≠ sB name := by
  simp only [okD, Bool.and_eq_true, decide_eq_true_eq] at h
  exact fun e => h.2 (sB_inj e)
end Go.Proofs.Ytaopjdjbpamhhaa
/- Proved: contract of a vault's Put, whatever it is given; of the law function done. Conditions: vaults, bytes and deeds in memory. -/
namespace Go.Proofs.Ytaopjdjbpamhhaa
open Go Go.RowKit
set_option linter.unusedVariables false
set_option linter.unusedSimpArgs false

/-- What Put returns: the error, the name and the bytes. -/
def putR (l : List (Bts × Bts)) (n data pad : Bts) : Int := if goodD n data pad = true then (if (tget l n).isSome = true then 4 else 0) else 1
def sealN (r : Int) (s : ByteArray) : ByteArray := if r = 0 then s else { data := #[] }
def sealB (r : Int) (data pad : Bts) : Bts := if r = 0 then xorB data pad else []
set_option maxRecDepth 100000 in
set_option maxHeartbeats 4000000 in
theorem vPut_bad {seed : Int} {w : World} {v : Nat} {l : List (Bts × Bts)} {F D1 D2 : Nat → Prop} {s : ByteArray} {v1 v2 : Value} {data pad : Bts} (h : VltAt seed w v l F) (h1 : BV D1 w v1 data) (h2 : BV D2 w v2 pad)
    (hg : goodD (sB s) data pad = false) (hs : s.size ≤ 140737488355328) :
    Calls Try.prog 67 #[bp v, .string s, v1, v2] w fun e w' => e = .returned (.tuple #[.agg #[.string { data := #[] }, .slice none 0 0], .int .i64 1]) ∧ Kept Noneof w w' := by
  have H := Lib.hid h
  have HS := Lib.hid hs
  obtain ⟨a1, c1, rfl, _⟩ := h1
  obtain ⟨a2, c2, rfl, _⟩ := h2
  have HG := Lib.hid hg
  clear hs hg h
  go_enter Try.func67, Try.ntmps67
  go_wp2_with fail
  have K1 := (Kept.refl Noneof w).alloc (.cells #[.string { data := #[] }, .slice none 0 0] 105)
  have G := heap_alloc_new w (.cells #[.string { data := #[] }, .slice none 0 0] 105)
  generalize w.alloc (.cells #[.string { data := #[] }, .slice none 0 0] 105) = w1 at *
  refine (vnone_calls (H.out.still K1)).mono ?_
  rintro e w1' ⟨rfl, rfl⟩
  go_wp2_with fail
  refine (swnamed_calls HS.out).mono ?_
  rintro e w2 ⟨rfl, k2⟩
  have K2 := Lib.hid (K1.tr k2)
  replace G := Lib.hid (k2.obj (fun h => h) G)
  clear K1 k2
  have f0 : w2.cell? ⟨w.heap.size, 0, none⟩ = some (.string { data := #[] }) := by simp [World.cell?, G.out]
  have f1 : w2.cell? ⟨w.heap.size, 1, none⟩ = some (.slice none 0 0) := by simp [World.cell?, G.out]
  have ff : ∀ j, w2.frozen? ⟨w.heap.size, j, none⟩ = false := fun j => by simp [World.frozen?, G.out]
  have KT := Lib.hid (((Kept.refl (fun b => b = w.heap.size) w2).setCell (p := ⟨w.heap.size, 0, none⟩) (.inl rfl) (.string { data := #[] })).setCell (p := ⟨w.heap.size, 1, none⟩) (.inl rfl) (.slice none 0 0))
  have GF := Lib.hid (setCell_obj (setCell_obj G.out (.string { data := #[] }) (j := 0)) (.slice none 0 0) (j := 1))
  cases hn : namedK (sB s)
  · go_wp2
    refine bodyPost_ret (results_cell_row_tmp rfl _ _ w.heap.size _ #[_, _] (0, 0) _ rfl GF.out Try.underlying105 rfl (by kernel_rfl)) rfl ?_
    exact ⟨rfl, K2.out.trans KT.out fun b e => .inr (by omega)⟩
  by_cases hl : data.length = pad.length
  rotate_left
  · have e1 : ((data.length : Int) != (pad.length : Int)) = true := by rw [bne_iff_ne]; omega
    clear hl
    go_wp2
    refine bodyPost_ret (results_cell_row_tmp rfl _ _ w.heap.size _ #[_, _] (0, 0) _ rfl GF.out Try.underlying105 rfl (by kernel_rfl)) rfl ?_
    exact ⟨rfl, K2.out.trans KT.out fun b e => .inr (by omega)⟩
  have h9 : ¬ data.length ≤ 999 := fun h9 => by
    have := HG.out
    simp [goodD, hn, hl] at this
    omega
  rw [← hl]
  have e9 : decide ((999 : Int) < (data.length : Int)) = true := decide_eq_true (by omega)
  clear hl h9 hn
  go_wp2
  refine bodyPost_ret (results_cell_row_tmp rfl _ _ w.heap.size _ #[_, _] (0, 0) _ rfl GF.out Try.underlying105 rfl (by kernel_rfl)) rfl ?_
  exact ⟨rfl, K2.out.trans KT.out fun b e => .inr (by omega)⟩
set_option maxRecDepth 100000 in
set_option maxHeartbeats 4000000 in
theorem vPut_twice {seed : Int} {w : World} {v : Nat} {l : List (Bts × Bts)} {F D1 D2 : Nat → Prop} {s : ByteArray} {v1 v2 : Value} {data pad : Bts} (h : VltAt seed w v l F) (h1 : BV D1 w v1 data) (h2 : BV D2 w v2 pad)
    (hg : goodD (sB s) data pad = true) (ht : (tget l (sB s)).isSome = true) (hs : s.size ≤ 140737488355328) :
    Calls Try.prog 67 #[bp v, .string s, v1, v2] w fun e w' => e = .returned (.tuple #[.agg #[.string { data := #[] }, .slice none 0 0], .int .i64 4]) ∧ Kept Noneof w w' := by
  have H := Lib.hid h
  have HS := Lib.hid hs
  have HT := Lib.hid ht
  obtain ⟨a1, c1, rfl, _⟩ := h1
  obtain ⟨a2, c2, rfl, _⟩ := h2
  simp only [goodD, Bool.and_eq_true, decide_eq_true_eq] at hg
  obtain ⟨⟨hn, hl⟩, h9⟩ := hg
  have HN := Lib.hid hn
  obtain ⟨t, F0, hv, htt, hFv, hF0⟩ := h
  have HV := Lib.hid hv
  have TT := Lib.hid htt
  rw [← hl]
  have h9' : decide ((999 : Int) < (data.length : Int)) = false := decide_eq_false (by omega)
  clear hn hs hv htt hFv hF0 h9 hl ht
  go_enter Try.func67, Try.ntmps67
  go_wp2_with fail
  have K1 := (Kept.refl Noneof w).alloc (.cells #[.string { data := #[] }, .slice none 0 0] 105)
  have G := heap_alloc_new w (.cells #[.string { data := #[] }, .slice none 0 0] 105)
  generalize w.alloc (.cells #[.string { data := #[] }, .slice none 0 0] 105) = w1 at *
  refine (vnone_calls (H.out.still K1)).mono ?_
  rintro e w1' ⟨rfl, rfl⟩
  go_wp2_with fail
  refine (swnamed_calls HS.out).mono ?_
  rintro e w2 ⟨rfl, k2⟩
  rw [HN.out]
  have K2 := Lib.hid (K1.tr k2)
  replace G := Lib.hid (k2.obj (fun h => h) G)
  clear K1 k2
  have cv : w2.cell? ⟨v, 0, none⟩ = some (bp t) := vlt_cell (K2.out.obj (fun h => h) HV.out)
  obtain ⟨cc, hc, hb, hk⟩ := bytes_conv (w := w2) HS.out
  replace hc := hc w2 rfl
  have HB := Lib.hid hb
  have K3 := Lib.hid (K2.out.tr hk)
  replace G := Lib.hid (hk.obj (fun h => h) G.out)
  generalize Lib.bytesWorld w2 5 s = w3 at *
  clear hb hk
  go_wp2_with fail
  clear hc cv
  refine (slGet_calls (TT.out.still K3.out) HB.out).mono ?_
  rintro e w4 ⟨hres, k4⟩
  have hres : ∃ v', e = .returned (.tuple #[v', .int .i64 0]) ∧ ∃ a n c, v' = .slice a n c := by
    rcases hres with ⟨x, v', hx, e, o⟩ | ⟨hx, _⟩
    · exact ⟨v', e, o.slice'⟩
    · have := HT.out
      rw [hx] at this
      cases this
  obtain ⟨v', rfl, xa, xn, xc, rfl⟩ := hres
  have K4 := Lib.hid (K3.out.tr k4)
  replace G := Lib.hid (k4.obj (fun h => h) G.out)
  clear k4 HB h9'
  have f0 : w4.cell? ⟨w.heap.size, 0, none⟩ = some (.string { data := #[] }) := by simp [World.cell?, G.out]
  have f1 : w4.cell? ⟨w.heap.size, 1, none⟩ = some (.slice none 0 0) := by simp [World.cell?, G.out]
  have ff : ∀ j, w4.frozen? ⟨w.heap.size, j, none⟩ = false := fun j => by simp [World.frozen?, G.out]
  have KT := Lib.hid (((Kept.refl (fun b => b = w.heap.size) w4).setCell (p := ⟨w.heap.size, 0, none⟩) (.inl rfl) (.string { data := #[] })).setCell (p := ⟨w.heap.size, 1, none⟩) (.inl rfl) (.slice none 0 0))
  have GF := Lib.hid (setCell_obj (setCell_obj G.out (.string { data := #[] }) (j := 0)) (.slice none 0 0) (j := 1))
  go_wp2
  refine bodyPost_ret (results_cell_row_tmp rfl _ _ w.heap.size _ #[_, _] (0, 0) _ rfl GF.out Try.underlying105 rfl (by kernel_rfl)) rfl ?_
  exact ⟨rfl, K4.out.trans KT.out fun b e => .inr (by omega)⟩
theorem vPut_any {seed : Int} {w : World} {v : Nat} {l : List (Bts × Bts)} {F D1 D2 : Nat → Prop} {s : ByteArray} {v1 v2 : Value} {data pad : Bts} (h : VltAt seed w v l F) (h1 : BV D1 w v1 data) (h2 : BV D2 w v2 pad) (hFl : ∀ b, F b → b < w.heap.size) (hd1 : ∀ b, D1 b → ¬ F b) (hd2 : ∀ b, D2 b → ¬ F b)
    (hr : l.length < 100000) (hs : s.size ≤ 140737488355328) :
    Calls Try.prog 67 #[bp v, .string s, v1, v2] w fun e w' => ∃ v' F', e = .returned (.tuple #[.agg #[.string (sealN (putR l (sB s) data pad) s), v'], .int .i64 (putR l (sB s) data pad)]) ∧ BV (fun b => w.heap.size ≤ b ∧ ¬ F' b) w' v' (sealB (putR l (sB s) data pad) data pad) ∧ VltAt seed w' v (vputT l (sB s) data pad) F' ∧ (∀ b, F' b → (F b ∨ w.heap.size ≤ b) ∧ b < w'.heap.size) ∧ Kept F w w' := by
  have nil : ∀ (D : Nat → Prop) (w : World), BV D w (.slice none 0 0) [] := fun D w => BV.nil D w
  by_cases hg : goodD (sB s) data pad = true
  · by_cases ht : (tget l (sB s)).isSome = true
    · refine (vPut_twice h h1 h2 hg ht hs).mono ?_
      rintro e w' ⟨rfl, k⟩
      have e4 : putR l (sB s) data pad = 4 := by unfold putR; rw [if_pos hg, if_pos ht]
      have ev : vputT l (sB s) data pad = l := by
        unfold vputT
        rw [if_neg]
        rintro ⟨_, hh⟩
        rw [hh] at ht
        cases ht
      rw [e4, ev]
      exact ⟨_, F, rfl, nil _ _, h.still k, fun b hb => ⟨.inl hb, Nat.lt_of_lt_of_le (hFl b hb) k.size⟩, k.mono fun _ h => h.elim⟩
    · have ht' : tget l (sB s) = none := by simpa using ht
      have hg' := hg
      simp only [goodD, Bool.and_eq_true, decide_eq_true_eq] at hg'
      refine (vPut_ok h h1 h2 hFl hd1 hd2 hg'.1.1 hg'.1.2 hg'.2 ht' hr hs).mono ?_
      rintro e w' ⟨v', F', rfl, b', t', hF', k⟩
      have e0 : putR l (sB s) data pad = 0 := by unfold putR; rw [if_pos hg, if_neg ht]
      have ev : vputT l (sB s) data pad = tput l (sB s) (1 :: pad) := by unfold vputT; rw [if_pos ⟨hg, ht'⟩]
      rw [e0, ev]
      refine ⟨v', fun b => F' b ∧ b < w'.heap.size, rfl, ?_, t'.wide fun b hb hl => ⟨hb, hl⟩, fun b hb => ⟨hF' b hb.1, hb.2⟩, k⟩
      exact SV.wide byteEl_k b' fun b hb _ => ⟨hb.1, fun hh => hb.2 hh.1⟩
  · have hg' : goodD (sB s) data pad = false := by simpa using hg
    refine (vPut_bad h h1 h2 hg' hs).mono ?_
    rintro e w' ⟨rfl, k⟩
    have e1 : putR l (sB s) data pad = 1 := by unfold putR; rw [if_neg hg]
    have ev : vputT l (sB s) data pad = l := by
      unfold vputT
      rw [if_neg]
      rintro ⟨hh, _⟩
      exact hg hh
    rw [e1, ev]
    exact ⟨_, F, rfl, nil _ _, h.still k, fun b hb => ⟨.inl hb, Nat.lt_of_lt_of_le (hFl b hb) k.size⟩, k.mono fun _ h => h.elim⟩
end Go.Proofs.Ytaopjdjbpamhhaa
/- Proved: contract of a vault's Image. Conditions: a vault in memory. -/
namespace Go.Proofs.Ytaopjdjbpamhhaa
open Go Go.RowKit
set_option linter.unusedVariables false
set_option linter.unusedSimpArgs false

theorem vImage_calls {seed : Int} {w : World} {v : Nat} {l : List (Bts × Bts)} {F : Nat → Prop} (h : VltAt seed w v l F) :
    Calls Try.prog 71 #[bp v] w fun e w' => ∃ v', e = .returned v' ∧ Own 5 byteEl Noneof w.heap.size w' v' (imgT seed l) ∧ Kept Noneof w w' := by
  have H := Lib.hid h
  obtain ⟨t, F0, hv, ht, _⟩ := h
  have cv := vlt_cell hv
  have TT := Lib.hid ht
  clear hv ht
  go_enter Try.func71, Try.ntmps71
  go_wp2_with fail
  refine (vnone_calls H.out).mono ?_
  rintro e w1' ⟨rfl, rfl⟩
  go_wp2_with fail
  refine (slImage_calls TT.out).mono ?_
  rintro e w2 ⟨v', rfl, o, k⟩
  have O := Lib.hid o
  have K := Lib.hid k
  obtain ⟨x1, x2, x3, rfl⟩ := o.slice'
  clear o k cv
  go_wp2
  go_ret
  exact ⟨_, rfl, O.out, K.out⟩
end Go.Proofs.Ytaopjdjbpamhhaa
/- Proved: contract of the law function done. Conditions: a vault and deeds in memory. -/
namespace Go.Proofs.Ytaopjdjbpamhhaa
open Go Go.RowKit
set_option linter.unusedVariables false
set_option linter.unusedSimpArgs false

set_option maxRecDepth 100000 in
set_option maxHeartbeats 4000000 in
theorem l7done_calls {seed : Int} {w : World} {v : Nat} {T : List (Bts × Bts)} {F D1 : Nat → Prop} {name : ByteArray} {dv : Value} {l : List DeedK} (h : VltAt seed w v T F) (h1 : SV deedEl D1 w dv l) (hFl : ∀ b, F b → b < w.heap.size) (hD : ∀ b, D1 b → ¬ F b) (hr : T.length + l.length ≤ 1000) :
    Calls Try.prog 66 #[bp v, .string name, dv] w fun e w' => e = .returned (.bool (l.all (okD name))) ∧ (l.all (okD name) = true → ∃ F', VltAt seed w' v (deedsT T l) F' ∧ ∀ b, F' b → (F b ∨ w.heap.size ≤ b) ∧ b < w'.heap.size) ∧ Kept F w w' := by
  have H := Lib.hid h
  have H1 := Lib.hid (h1.bd deedEl_k)
  have HD := Lib.hid hD
  obtain ⟨a, c, rfl, ⟨hc, _⟩, hm, _⟩ := h1
  obtain ⟨n, hn⟩ : ∃ n, l.length = n := ⟨_, rfl⟩
  rw [hn] at hc hm hr ⊢
  replace hn := Lib.hid hn
  obtain ⟨res, hres⟩ : ∃ r, l.all (okD name) = r := ⟨_, rfl⟩
  rw [hres]
  replace hres := Lib.hid hres
  have VS := Lib.hid (show ∃ F', VltAt seed w v (deedsT T (l.take 0)) F' ∧ ∀ b, F' b → (F b ∨ w.heap.size ≤ b) ∧ b < w.heap.size from ⟨F, h, fun b hb => ⟨.inl hb, hFl b hb⟩⟩)
  clear h hFl hD
  go_enter Try.func66, Try.ntmps66
  go_upto_region 2 with (fail)
  go_loopw [11] (fun iv wr => ∃ i : Nat, i ≤ n ∧ iv = .int .i64 i ∧ Hid (∃ F', VltAt seed wr v (deedsT T (l.take i)) F' ∧ ∀ b, F' b → (F b ∨ w.heap.size ≤ b) ∧ b < wr.heap.size) ∧ Hid (∀ d ∈ l.take i, okD name d = true) ∧ Hid (Kept F w wr)) (fun iv _ => n - (intOf iv).toNat)
  case atStart => exact ⟨0, Nat.zero_le _, rfl, VS, Lib.hid (by simp), Lib.hid (Kept.refl _ _)⟩
  clear VS
  obtain ⟨i, hi, rfl, VS, AL, KW⟩ := hrel
  by_cases hlt : i < n
  rotate_left
  · obtain rfl : n = i := by omega
    have hall : res = true := by
      rw [← hres.out, List.all_eq_true]
      have := AL.out
      rw [List.take_of_length_le (by rw [hn.out]; exact Nat.le_refl _)] at this
      exact this
    subst hall
    rw [List.take_of_length_le (by rw [hn.out]; exact Nat.le_refl _)] at VS
    clear hlt
    go_wp2
    go_ret
    exact ⟨rfl, VS.out, KW.out⟩
  have hlt' : (i : Int) < (n : Int) := by omega
  have hil : i < l.length := by rw [hn.out]; exact hlt
  have hsv := H1.out.kept deedEl_k KW.out fun b h _ hf => HD.out b h.1 hf
  rw [hn.out] at hsv
  obtain ⟨_, _, hsl, _, _, rd⟩ := hsv
  simp only [Value.slice.injEq] at hsl
  obtain ⟨rfl, -, rfl⟩ := hsl
  obtain ⟨b, o, u, x, rfl, db, e0, e1, e2, e3, hsz, hk, hv⟩ := Rd.deed rd hil
  have NX := Lib.hid (deedsT_succ (out := T) hil)
  have LN := Lib.hid (show (deedsT T (l.take i)).length < 100000 by have := deedsT_len (l.take i) T; rw [List.length_take] at this; omega)
  have NO := Lib.hid (fun h : okD name l[i] = false => show res = false by
    rw [← hres.out, List.all_eq_false]
    exact ⟨l[i], List.getElem_mem hil, by rw [h]; simp⟩)
  have YES := Lib.hid (fun h : okD name l[i] = true => show ∀ d ∈ l.take (i + 1), okD name d = true from fun d hd => by
    rw [List.take_add_one, List.getElem?_eq_getElem hil] at hd
    simp only [Option.toList_some, List.mem_append, List.mem_singleton] at hd
    rcases hd with hd | rfl
    · exact AL.out d hd
    · exact h)
  generalize l[i] = dd at *
  obtain ⟨kd, nm, data, pad⟩ := dd
  simp only at e0 e1 e2 e3 hsz hk hv
  have hk' := hk
  have hv' := hv
  obtain ⟨ka, kc, rfl, _⟩ := hk'
  obtain ⟨va, vc, rfl, _⟩ := hv'
  have HSZ := Lib.hid hsz
  have HK := Lib.hid hk
  have HV := Lib.hid hv
  clear rd hil AL hk hv db hsz
  go_upto_region 4 with (fail)
  clear e0 e1 e2 e3
  have kA := (Kept.refl Noneof wr).alloc (.cells #[.int .i64 kd, .string nm, .slice ka data.length kc, .slice va pad.length vc] 126)
  have qA := heap_alloc_new wr (.cells #[.int .i64 kd, .string nm, .slice ka data.length kc, .slice va pad.length vc] 126)
  have sA := Lib.hid (show (wr.alloc (.cells #[.int .i64 kd, .string nm, .slice ka data.length kc, .slice va pad.length vc] 126)).heap.size = wr.heap.size + 1 by simp)
  generalize wr.alloc (.cells #[.int .i64 kd, .string nm, .slice ka data.length kc, .slice va pad.length vc] 126) = wA at *
  have VA := Lib.hid (show ∃ F', VltAt seed wA v (deedsT T (l.take i)) F' ∧ (∀ b, F' b → (F b ∨ w.heap.size ≤ b) ∧ b < wr.heap.size) by
    obtain ⟨F', t, hf⟩ := VS.out
    exact ⟨F', t.still kA, hf⟩)
  replace HK := Lib.hid (HK.out.still' kA)
  replace HV := Lib.hid (HV.out.still' kA)
  have KA := Lib.hid (KW.out.trans kA fun _ h => h.elim)
  have KWR := Lib.hid KW.out.size
  clear VS KW kA
  generalize hbA : wr.heap.size = bA at *
  have CL := Lib.hid (fun (w' : World) (h : w'.heap[bA]? = some (.cells #[.int .i64 kd, .string nm, .slice ka data.length kc, .slice va pad.length vc] 126)) => show w'.cell? ⟨bA, 0, none⟩ = some (.int .i64 kd) ∧ w'.cell? ⟨bA, 1, none⟩ = some (.string nm) ∧ w'.cell? ⟨bA, 2, none⟩ = some (.slice ka data.length kc) ∧ w'.cell? ⟨bA, 3, none⟩ = some (.slice va pad.length vc) by simp [World.cell?, h])
  obtain ⟨c0, c1, c2, c3⟩ := CL.out wA qA
  have QA := Lib.hid qA
  clear qA hbA
  have OK := Lib.hid (show okD name (kd, nm, data, pad) = (decide (data.length ≤ 2000) && decide (pad.length ≤ 2000) && decide (nm.size ≤ 2000) && decide (nm ≠ name)) from rfl)
  have out : ∀ (b : Bool), okD name (kd, nm, data, pad) = b → (b = false → res = false) := fun b h hb => NO.out (by rw [h, hb])
  replace out := Lib.hid out
  by_cases q1 : data.length ≤ 2000
  rotate_left
  · have y : res = false := out.out _ rfl (by rw [OK.out]; simp [q1])
    have q1' : decide ((2000 : Int) < (data.length : Int)) = true := decide_eq_true (by omega)
    subst y
    clear q1
    go_wp2
    go_ret
    exact ⟨rfl, KA.out⟩
  have q1' : decide ((2000 : Int) < (data.length : Int)) = false := decide_eq_false (by omega)
  by_cases q2 : pad.length ≤ 2000
  rotate_left
  · have y : res = false := out.out _ rfl (by rw [OK.out]; simp [q2])
    have q2' : decide ((2000 : Int) < (pad.length : Int)) = true := decide_eq_true (by omega)
    subst y
    clear q1 q2
    go_wp2
    go_ret
    exact ⟨rfl, KA.out⟩
  have q2' : decide ((2000 : Int) < (pad.length : Int)) = false := decide_eq_false (by omega)
  by_cases q3 : nm.size ≤ 2000
  rotate_left
  · have y : res = false := out.out _ rfl (by rw [OK.out]; simp [q3])
    have q3' : decide ((2000 : Int) < (nm.size : Int)) = true := decide_eq_true (by omega)
    subst y
    clear q1 q2 q3
    go_wp2
    go_ret
    exact ⟨rfl, KA.out⟩
  have q3' : decide ((2000 : Int) < (nm.size : Int)) = false := decide_eq_false (by omega)
  by_cases q4 : nm = name
  · have y : res = false := out.out _ rfl (by rw [OK.out]; simp [q4])
    subst y
    subst q4
    clear q1 q2 q3
    go_wp2
    go_ret
    exact ⟨rfl, KA.out⟩
  have yes := Lib.hid (YES.out (by rw [OK.out]; simp [q1, q2, q3, q4]))
  clear q1 q2 q3 YES NO OK out
  have q4' : (nm.toList == name.toList) = false := (Lib.bytes_beq_false_iff _ _).2 q4
  go_upto_region 6 with (fail)
  clear q1' q2' q3' q4 q4'
  by_cases k0 : kd = 0
  · subst k0
    have NX1 := Lib.hid (show deedsT T (l.take (i + 1)) = vputT (deedsT T (l.take i)) (sB nm) data pad from NX.out)
    clear NX
    go_wp2_with fail
    obtain ⟨F', tv, hf⟩ := VA.out
    refine (vPut_any tv HK.out HV.out (fun b h => by have := (hf b h).2; have := sA.out; omega) (fun b h hh => by have h3 := (hf b hh).1; have := h.2; rcases h3 with h3 | h3; exact HD.out b h.1 h3; omega) (fun b h hh => by have h3 := (hf b hh).1; have := h.2; rcases h3 with h3 | h3; exact HD.out b h.1 h3; omega) LN.out HSZ.out).mono ?_
    rintro e w2 ⟨v', F2, rfl, _, t2, hf2, k2⟩
    rw [← NX1.out] at t2
    have V2 := Lib.hid (show ∃ F', VltAt seed w2 v (deedsT T (l.take (i + 1))) F' ∧ ∀ b, F' b → (F b ∨ w.heap.size ≤ b) ∧ b < w2.heap.size from ⟨F2, t2, fun b hb => ⟨(hf2 b hb).1.elim (fun h => (hf b h).1) fun h => .inr (by have := KWR.out; have := sA.out; omega), (hf2 b hb).2⟩⟩)
    have K2 := Lib.hid (KA.out.trans k2 fun b h => (hf b h).1)
    obtain ⟨d0, d1, d2, d3⟩ := CL.out w2 (k2.obj (fun h => by have := (hf _ h).2; omega) QA.out)
    clear tv hf t2 hf2 k2 VA KA HK HV QA CL NX1 c0 c1 c2 c3
    go_wp2
    go_roundw
    case rel => exact ⟨i + 1, by omega, by go_num, V2, yes, K2⟩
    case measure => simp [intOf]; omega
  · have k0' : (kd == 0) = false := by simpa using k0
    by_cases k2 : kd = 2
    · subst k2
      have NX1 := Lib.hid (show deedsT T (l.take (i + 1)) = tdel (deedsT T (l.take i)) (sB nm) from NX.out)
      clear NX k0
      go_wp2_with fail
      obtain ⟨F', tv, hf⟩ := VA.out
      refine (vForget_calls tv (fun b h => by have := (hf b h).2; have := sA.out; omega) HSZ.out).mono ?_
      rintro e w2 ⟨rfl, t2, k2⟩
      rw [← NX1.out] at t2
      have V2 := Lib.hid (show ∃ F', VltAt seed w2 v (deedsT T (l.take (i + 1))) F' ∧ ∀ b, F' b → (F b ∨ w.heap.size ≤ b) ∧ b < w2.heap.size from ⟨F', t2, fun b hb => ⟨(hf b hb).1, by have := (hf b hb).2; have := k2.size; have := sA.out; omega⟩⟩)
      have K2 := Lib.hid (KA.out.trans k2 fun b h => (hf b h).1)
      clear tv hf t2 k2 VA KA HK HV QA CL NX1 c0 c1 c2 c3
      go_wp2
      go_roundw
      case rel => exact ⟨i + 1, by omega, by go_num, V2, yes, K2⟩
      case measure => simp [intOf]; omega
    · have k2' : (kd == 2) = false := by simpa using k2
      have NX1 := Lib.hid (show deedsT T (l.take (i + 1)) = deedsT T (l.take i) by rw [NX.out, deedT, if_neg k0, if_neg k2])
      have V2 := Lib.hid (show ∃ F', VltAt seed wA v (deedsT T (l.take (i + 1))) F' ∧ ∀ b, F' b → (F b ∨ w.heap.size ≤ b) ∧ b < wA.heap.size by
        obtain ⟨F', t, hf⟩ := VA.out
        exact ⟨F', by rw [NX1.out]; exact t, fun b hb => ⟨(hf b hb).1, by have := (hf b hb).2; have := sA.out; omega⟩⟩)
      clear VA HK HV QA CL NX1 c1 c2 c3 NX k0 k2
      go_wp2
      go_roundw
      case rel => exact ⟨i + 1, by omega, by go_num, V2, yes, KA⟩
      case measure => simp [intOf]; omega
end Go.Proofs.Ytaopjdjbpamhhaa
/- Proved: contracts of the reference's Xor, Put, Open and Forget of vaults. Conditions: bytes and pairs in memory. -/
namespace Go.Proofs.Ytaopjdjbpamhhaa
open Go Go.RowKit
set_option linter.unusedVariables false
set_option linter.unusedSimpArgs false

set_option maxRecDepth 100000 in
set_option maxHeartbeats 1000000 in
theorem r7Xor_calls {D1 D2 : Nat → Prop} {v1 v2 : Value} {a b : Bts} {w : World} (h1 : BV D1 w v1 a) (h2 : BV D2 w v2 b) (hl : a.length = b.length) :
    Calls Try.prog 137 #[v1, v2] w fun e w' => ∃ v', e = .returned v' ∧ Own 5 byteEl Noneof w.heap.size w' v' (xorB a b) ∧ Kept Noneof w w' := by
  have H1 := Lib.hid (h1.bd byteEl_k)
  have H2 := Lib.hid (h2.bd byteEl_k)
  have HM := Lib.hid h1.len
  obtain ⟨a1, c1, rfl, _⟩ := h1
  obtain ⟨a2, c2, rfl, _⟩ := h2
  rw [← hl] at H2 ⊢
  have HL := Lib.hid hl
  obtain ⟨n, hn⟩ : ∃ n, a.length = n := ⟨_, rfl⟩
  rw [hn] at H1 H2 HM ⊢
  have hm := HM.out
  replace hn := Lib.hid hn
  clear hl
  go_enter Try.func137, Try.ntmps137
  go_upto_region 3 with (fail)
  have k0 := (Kept.refl Noneof w).alloc (.cells #[] 5)
  have O0 := Lib.hid (Own.lit0 5 byteEl Noneof w)
  generalize w.alloc (.cells #[] 5) = w0 at *
  generalize Value.slice (some ⟨w.heap.size, 0, none⟩) 0 0 = v0 at *
  have K0 := Lib.hid k0
  clear k0
  go_loopw [5, 6] (fun v iv wr => ∃ i : Nat, i ≤ n ∧ iv = .int .i64 i ∧ Hid (Own 5 byteEl Noneof w.heap.size wr v ((xorB a b).take i)) ∧ Hid (Kept Noneof w wr)) (fun _ iv _ => n - (intOf iv).toNat)
  case atStart => exact ⟨0, Nat.zero_le _, rfl, by rw [List.take_zero]; exact O0, K0⟩
  clear O0 K0
  obtain ⟨i, hi, rfl, O, KW⟩ := hrel
  by_cases hlt : i < n
  rotate_left
  · obtain rfl : n = i := by omega
    rw [List.take_of_length_le (by rw [xorB_len, hn.out]; omega)] at O
    obtain ⟨x1, x2, x3, rfl⟩ := O.out.slice'
    go_wp2
    go_ret
    exact ⟨_, rfl, O.out, KW.out⟩
  have hlt' : (i : Int) < (n : Int) := by omega
  have l1 : i < a.length := by rw [hn.out]; exact hlt
  have l2 : i < b.length := by rw [← HL.out]; exact l1
  have hs1 := H1.out.still' KW.out
  have hs2 := H2.out.still' KW.out
  obtain ⟨_, _, hsl, _, _, rd1⟩ := hs1
  simp only [Value.slice.injEq] at hsl
  obtain ⟨rfl, -, rfl⟩ := hsl
  obtain ⟨_, _, hsl, _, _, rd2⟩ := hs2
  simp only [Value.slice.injEq] at hsl
  obtain ⟨rfl, -, rfl⟩ := hsl
  obtain ⟨b1, o1, rfl, d1, g1⟩ := Rd.byte rd1 l1
  obtain ⟨b2, o2, rfl, d2, g2⟩ := Rd.byte rd2 l2
  have NX := Lib.hid (show (xorB a b).take (i + 1) = (xorB a b).take i ++ [a[i] ^^^ b[i]] by
    rw [List.take_add_one, xorB_get l1 l2]
    rfl)
  have XB := Lib.hid (bits_xor_u8 a[i] b[i])
  have LE := Lib.hid (show ((xorB a b).take i).length + 1 ≤ n by rw [List.length_take]; omega)
  clear rd1 rd2
  generalize a[i] ^^^ b[i] = y at *
  generalize ((a[i].toNat : Nat) : Int) = x1 at *
  generalize ((b[i].toNat : Nat) : Int) = x2 at *
  obtain ⟨oa, on, oc, rfl⟩ := O.out.slice'
  have D1' := Lib.hid d1.2
  have D2' := Lib.hid d2.2
  clear d1 d2 l1 l2
  go_wp2_with fail
  refine wp_region_chain 12 [10, 11] (fun w' => w'.cell? ⟨b1, o1 + i, none⟩ = some (.int .u8 x1) ∧ w'.cell? ⟨b2, o2 + i, none⟩ = some (.int .u8 x2)) (by kernel_rfl) (by kernel_rfl) ?_ ?_
  · exact ⟨g1, g2⟩
  refine SeqW.out ?_
  simp only [List.take_succ_cons, List.take_zero, List.drop_succ_cons, List.drop_zero]
  have kd := (Kept.refl Noneof wr).drew
  replace g1 := kd.cell (p := ⟨b1, o1 + i, none⟩) (fun h => h) g1
  replace g2 := kd.cell (p := ⟨b2, o2 + i, none⟩) (fun h => h) g2
  replace O := Lib.hid (O.out.kept kd fun _ h => h.elim)
  replace KW := Lib.hid (KW.out.tr kd)
  generalize wr.drew = wd at *
  clear kd
  iterate 10 (refine SeqW.val (v := ?_) (by rfl) (by rfl) (fun wx hSw => ?_) ?_; rotate_left; (focus ((try dsimp only at hSw); go_simp; (try with_reducible rfl))); (try simp only [Act.put, List.setIfInBounds_toArray, List.set_cons_zero, List.set_cons_succ]))
  rw [XB.out]
  refine SeqW.act (by rfl) rfl (by rfl) (by rfl) (fun K hK => ?_)
  go_simp
  have kA := (Kept.refl Noneof wd).alloc (.cells #[.int .u8 ((y.toNat : Nat) : Int)] 5)
  have qA := heap_alloc_new wd (.cells #[.int .u8 ((y.toNat : Nat) : Int)] 5)
  refine hK.out _ _ ⟨kA.cell (p := ⟨b1, o1 + i, none⟩) (fun h => h) g1, kA.cell (p := ⟨b2, o2 + i, none⟩) (fun h => h) g2⟩ ?_
  replace g1 := kA.cell (p := ⟨b1, o1 + i, none⟩) (fun h => h) g1
  replace g2 := kA.cell (p := ⟨b2, o2 + i, none⟩) (fun h => h) g2
  replace O := Lib.hid (O.out.kept kA fun _ h => h.elim)
  replace KW := Lib.hid (KW.out.tr kA)
  generalize wd.alloc (.cells #[.int .u8 ((y.toNat : Nat) : Int)] 5) = wa at *
  clear K hK kA
  (try simp only [Act.put, List.setIfInBounds_toArray, List.set_cons_zero, List.set_cons_succ])
  refine SeqW.act (by rfl) rfl (by rfl) (by rfl) (fun K hK => ?_)
  refine wp_app_one (E := byteEl) (D := Noneof) (D' := Noneof) (.tmp 14) (.tmp 24) _ rfl tBytes _ _ rfl O.out wd.heap.size [.int .u8 ((y.toNat : Nat) : Int)] y rfl ⟨_, _, qA⟩ rfl (fun _ h => h.elim) (by have := LE.out; omega) (by omega) KW.out.size ?_
  intro v5 w5 ho5 k5 b5
  rw [← NX.out] at ho5
  have O5 := Lib.hid ho5
  have KW5 := Lib.hid (KW.out.trans k5 fun b e => .inr (O.out.lt b e).1)
  refine hK.out _ _ ⟨k5.cell (p := ⟨b1, o1 + i, none⟩) (fun e => by have := (O.out.lt b1 e).1; have := D1'.out; omega) g1, k5.cell (p := ⟨b2, o2 + i, none⟩) (fun e => by have := (O.out.lt b2 e).1; have := D2'.out; omega) g2⟩ ?_
  clear K hK ho5 k5 b5 O KW g1 g2 qA
  (try simp only [Act.put, List.setIfInBounds_toArray, List.set_cons_zero, List.set_cons_succ])
  refine SeqW.nil ?_
  go_wp2
  go_roundw
  case rel => exact ⟨i + 1, by omega, by go_num, O5, KW5⟩
  case measure => simp [intOf]; omega

/-! ### Put -/
theorem results_cell_row_tmp2 {P : Program} {fn : Func} {p u u2 : Tmp} {ty : TypeId} (h : fn.results = #[.cell p ty, .tmp u, .tmp u2]) (tmps : Array Value) (w : World) (g : Nat) (t : TypeId) (cs : Array Value) (fr : Nat × Nat) (d : TypeDesc)
    (hp : tmps.getD p undef = .pointer (some ⟨g, 0, none⟩)) (hg : w.heap[g]? = some (.cells cs t fr))
    (hu : P.underlying ty = some d) (hd : (match d with | .struct _ | .array _ _ => true | _ => false) = true) (hi : (P.info? ty).map (·.size) = some cs.size) :
    (results fn tmps).run P w = .ok (.tuple #[.agg cs, tmps.getD u undef, tmps.getD u2 undef]) w := by
  have hp' : tmps[p]?.getD undef = .pointer (some ⟨g, 0, none⟩) := by simpa using hp
  simp [results, h, hp', asAddr, Sem.run_bind, Result.andThen, run_loadVar_row w g t ty cs fr d hg hu hd hi]
/-- What Put returns of the error. -/
def rputR (l : List (Bts × Bts)) (n data pad : Bts) : Int := if goodD n data pad = true then (if hasK l n = true then 4 else 0) else 1
def rputL (l : List (Bts × Bts)) (n data pad : Bts) : List (Bts × Bts) := if rputR l n data pad = 0 then putK l n (1 :: pad) else l
set_option maxRecDepth 100000 in
set_option maxHeartbeats 4000000 in
theorem r7Put_calls {w : World} {D D1 D2 : Nat → Prop} {v0 v1 v2 : Value} {s : ByteArray} {l : List (Bts × Bts)} {data pad : Bts} (h0 : SV pairEl D w v0 l) (h1 : BV D1 w v1 data) (h2 : BV D2 w v2 pad) (hr : l.length < 100000) (hs : s.size ≤ 140737488355328) :
    Calls Try.prog 68 #[v0, .string s, v1, v2] w fun e w' => ∃ x y, e = .returned (.tuple #[.agg #[.string (sealN (rputR l (sB s) data pad) s), x], y, .int .i64 (rputR l (sB s) data pad)]) ∧ BV (fun b => w.heap.size ≤ b) w' x (sealB (rputR l (sB s) data pad) data pad) ∧ SV pairEl (fun b => D b ∨ w.heap.size ≤ b) w' y (rputL l (sB s) data pad) ∧ Kept Noneof w w' := by
  have H0 := Lib.hid (h0.bd pairEl_k)
  have H1 := Lib.hid h1
  have H2 := Lib.hid h2
  have HS := Lib.hid hs
  have HR := Lib.hid hr
  obtain ⟨a0, c0, rfl, _⟩ := h0
  obtain ⟨a1, c1, rfl, _⟩ := h1
  obtain ⟨a2, c2, rfl, _⟩ := h2
  obtain ⟨r, hrr⟩ : ∃ r, rputR l (sB s) data pad = r := ⟨_, rfl⟩
  obtain ⟨L, hL⟩ : ∃ L, rputL l (sB s) data pad = L := ⟨_, rfl⟩
  rw [hrr, hL]
  have RR := Lib.hid hrr
  have RL := Lib.hid (show (if r = 0 then putK l (sB s) (1 :: pad) else l) = L by rw [← hL, ← hrr]; rfl)
  clear hs hr hrr hL
  go_enter Try.func68, Try.ntmps68
  go_wp2_with fail
  have K1 := Lib.hid ((Kept.refl Noneof w).alloc (.cells #[.string { data := #[] }, .slice none 0 0] 105))
  have G := Lib.hid (heap_alloc_new w (.cells #[.string { data := #[] }, .slice none 0 0] 105))
  generalize w.alloc (.cells #[.string { data := #[] }, .slice none 0 0] 105) = w1 at *
  refine (r7Named_calls HS.out).mono ?_
  rintro e w1' ⟨rfl, rfl⟩
  have f0 : w1'.cell? ⟨w.heap.size, 0, none⟩ = some (.string { data := #[] }) := by simp [World.cell?, G.out]
  have f1 : w1'.cell? ⟨w.heap.size, 1, none⟩ = some (.slice none 0 0) := by simp [World.cell?, G.out]
  have ff : ∀ j, w1'.frozen? ⟨w.heap.size, j, none⟩ = false := fun j => by simp [World.frozen?, G.out]
  have KT := Lib.hid (((Kept.refl (fun b => b = w.heap.size) w1').setCell (p := ⟨w.heap.size, 0, none⟩) (.inl rfl) (.string { data := #[] })).setCell (p := ⟨w.heap.size, 1, none⟩) (.inl rfl) (.slice none 0 0))
  have GF := Lib.hid (setCell_obj (setCell_obj G.out (.string { data := #[] }) (j := 0)) (.slice none 0 0) (j := 1))
  have KZ := Lib.hid (K1.out.trans KT.out fun b e => .inr (by omega))
  have BAD := Lib.hid (fun h : goodD (sB s) data pad = false => (show r = 1 ∧ L = l by
    have e1 : r = 1 := by rw [← RR.out]; unfold rputR; rw [if_neg (by rw [h]; simp)]
    refine ⟨e1, ?_⟩
    rw [← RL.out, e1]
    rfl))
  cases hn : namedK (sB s)
  · obtain ⟨rfl, rfl⟩ := BAD.out (by simp [goodD, hn])
    go_wp2
    refine bodyPost_ret (results_cell_row_tmp2 rfl _ _ w.heap.size _ #[_, _] (0, 0) _ rfl GF.out Try.underlying105 rfl (by kernel_rfl)) rfl ?_
    exact ⟨_, _, rfl, BV.nil _ _, (H0.out.kept pairEl_k KZ.out fun _ _ _ h => h).wide pairEl_k fun b h _ => .inl h.1, KZ.out⟩
  by_cases hl : data.length = pad.length
  rotate_left
  · obtain ⟨rfl, rfl⟩ := BAD.out (by simp [goodD, hl])
    have e1 : ((data.length : Int) != (pad.length : Int)) = true := by rw [bne_iff_ne]; omega
    clear hl
    go_wp2
    refine bodyPost_ret (results_cell_row_tmp2 rfl _ _ w.heap.size _ #[_, _] (0, 0) _ rfl GF.out Try.underlying105 rfl (by kernel_rfl)) rfl ?_
    exact ⟨_, _, rfl, BV.nil _ _, (H0.out.kept pairEl_k KZ.out fun _ _ _ h => h).wide pairEl_k fun b h _ => .inl h.1, KZ.out⟩
  have HL := Lib.hid hl
  rw [← hl] at H2 ⊢
  by_cases h9 : data.length ≤ 999
  rotate_left
  · obtain ⟨rfl, rfl⟩ := BAD.out (by simp [goodD, h9])
    have e9 : decide ((999 : Int) < (data.length : Int)) = true := decide_eq_true (by omega)
    clear hl h9
    go_wp2
    refine bodyPost_ret (results_cell_row_tmp2 rfl _ _ w.heap.size _ #[_, _] (0, 0) _ rfl GF.out Try.underlying105 rfl (by kernel_rfl)) rfl ?_
    exact ⟨_, _, rfl, BV.nil _ _, (H0.out.kept pairEl_k KZ.out fun _ _ _ h => h).wide pairEl_k fun b h _ => .inl h.1, KZ.out⟩
  have GD := Lib.hid (show goodD (sB s) data pad = true by unfold goodD; rw [hn, decide_eq_true hl, decide_eq_true h9]; rfl)
  have e9 : decide ((999 : Int) < (data.length : Int)) = false := decide_eq_false (by omega)
  have H9 := Lib.hid h9
  clear BAD hl h9 f0 f1 ff KT GF KZ
  obtain ⟨cc, hc, hb, hk⟩ := bytes_conv (w := w1') HS.out
  replace hc := hc w1' rfl
  have HB := Lib.hid hb
  have K2 := Lib.hid (K1.out.tr hk)
  replace G := Lib.hid (hk.obj (fun h => h) G.out)
  generalize Lib.bytesWorld w1' 5 s = w2 at *
  clear hb hk K1
  go_wp2_with fail
  clear hc e9
  refine (r2Has_calls (H0.out.still' K2.out) HB.out).mono ?_
  rintro e w3 ⟨rfl, d3⟩
  have k3 := (Kept.refl Noneof w2).drewn d3
  have K3 := Lib.hid (K2.out.tr k3)
  replace G := Lib.hid (k3.obj (fun h => h) G.out)
  clear k3 d3 HB K2
  cases hh : hasK l (sB s)
  rotate_left
  · have f0 : w3.cell? ⟨w.heap.size, 0, none⟩ = some (.string { data := #[] }) := by simp [World.cell?, G.out]
    have f1 : w3.cell? ⟨w.heap.size, 1, none⟩ = some (.slice none 0 0) := by simp [World.cell?, G.out]
    have ff : ∀ j, w3.frozen? ⟨w.heap.size, j, none⟩ = false := fun j => by simp [World.frozen?, G.out]
    have KT := Lib.hid (((Kept.refl (fun b => b = w.heap.size) w3).setCell (p := ⟨w.heap.size, 0, none⟩) (.inl rfl) (.string { data := #[] })).setCell (p := ⟨w.heap.size, 1, none⟩) (.inl rfl) (.slice none 0 0))
    have GF := Lib.hid (setCell_obj (setCell_obj G.out (.string { data := #[] }) (j := 0)) (.slice none 0 0) (j := 1))
    have KZ := Lib.hid (K3.out.trans KT.out fun b e => .inr (by omega))
    have e4 : r = 4 := by rw [← RR.out]; unfold rputR; rw [if_pos GD.out, if_pos hh]
    subst e4
    obtain rfl : l = L := RL.out
    go_wp2
    refine bodyPost_ret (results_cell_row_tmp2 rfl _ _ w.heap.size _ #[_, _] (0, 0) _ rfl GF.out Try.underlying105 rfl (by kernel_rfl)) rfl ?_
    exact ⟨_, _, rfl, BV.nil _ _, (H0.out.kept pairEl_k KZ.out fun _ _ _ h => h).wide pairEl_k fun b h _ => .inl h.1, KZ.out⟩
  have e0 : r = 0 := by rw [← RR.out]; unfold rputR; rw [if_pos GD.out, if_neg (by rw [hh]; simp)]
  subst e0
  obtain rfl : putK l (sB s) (1 :: pad) = L := RL.out
  have hr2 : decide ((100000 : Int) ≤ (l.length : Int)) = false := decide_eq_false (by have := HR.out; omega)
  clear hh
  go_upto_region 7 with (fail)
  have kA := Lib.hid ((Kept.refl Noneof w3).alloc (.cells #[.int .u8 1] 5))
  have OA := Lib.hid (show Own 5 byteEl Noneof w3.heap.size (w3.alloc (.cells #[.int .u8 1] 5)) (.slice (some ⟨w3.heap.size, 0, none⟩) 1 1) [1] from Own.lit1b w3 1)
  have hpl := Lib.hid (show pad.length ≤ 999 by rw [← HL.out]; exact H9.out)
  go_wp2_with (at_builtin; refine wl_app_bytes rfl (.tmp 40) (.tmp 41) _ rfl tBytes _ [1] rfl OA.out _ pad rfl (H2.out.still' (K3.out.tr kA.out)) ?c4 ?c6 ?_; (case c4 => have := hpl.out; simp; omega); (case c6 => exact kA.out.size))
  intro v5 w5 ho5 k5 b5
  have O5 := Lib.hid (show Own 5 byteEl Noneof w3.heap.size w5 v5 (1 :: pad) from ho5)
  have K5 := Lib.hid ((K3.out.tr kA.out).trans k5 fun b e => .inr (by have := (OA.out.lt b e).1; have := K3.out.size; omega))
  replace G := Lib.hid (k5.obj (fun e => by have := (OA.out.lt _ e).1; have := block_lt G.out; omega) (kA.out.obj (fun h => h) G.out))
  have S3 := Lib.hid K3.out.size
  have GL := Lib.hid (block_lt G.out)
  obtain ⟨x1, x2, x3, rfl⟩ := O5.out.slice'
  clear ho5 k5 b5 OA kA K3
  go_wp2_with fail
  refine (r7Xor_calls (H1.out.still' K5.out) (H2.out.still' K5.out) HL.out).mono ?_
  rintro e w6 ⟨v6, rfl, o6, k6⟩
  have O6 := Lib.hid o6
  obtain ⟨y1, y2, y3, rfl⟩ := o6.slice'
  have K6 := Lib.hid (K5.out.tr k6)
  replace G := Lib.hid (k6.obj (fun h => h) G.out)
  replace O5 := Lib.hid (O5.out.kept k6 fun _ h => h.elim)
  have S5 := Lib.hid K5.out.size
  clear o6 k6 K5
  obtain ⟨cc2, hc, hb, hk⟩ := bytes_conv (w := w6) HS.out
  replace hc := hc w6 rfl
  have HB := Lib.hid hb
  have K7 := Lib.hid (K6.out.tr hk)
  replace G := Lib.hid (hk.obj (fun h => h) G.out)
  replace O5 := Lib.hid (O5.out.kept hk fun _ h => h.elim)
  replace O6 := Lib.hid (O6.out.kept hk fun _ h => h.elim)
  generalize Lib.bytesWorld w6 5 s = w7 at *
  clear hb hk K6
  go_wp2_with fail
  clear hc
  refine (r2Put_calls (H0.out.still' K7.out) HB.out O5.out.sv (by have := HR.out; omega)).mono ?_
  rintro e w8 ⟨v8, rfl, o8, k8⟩
  have GL7 := block_lt G.out
  have O8 := Lib.hid (show SV pairEl (fun b => D b ∧ b < w.heap.size ∨ w.heap.size < b) w8 v8 _ from o8.sv.wide pairEl_k fun b h _ => h.elim (fun h => h.elim .inl fun h => .inr (by omega)) fun h => .inr (by omega))
  have K8 := Lib.hid (K7.out.tr k8)
  replace G := Lib.hid (k8.obj (fun h => h) G.out)
  replace O6 := Lib.hid (O6.out.kept k8 fun _ h => h.elim)
  obtain ⟨z1, z2, z3, rfl⟩ := o8.slice'
  clear o8 k8 K7 O5
  have f0 : w8.cell? ⟨w.heap.size, 0, none⟩ = some (.string { data := #[] }) := by simp [World.cell?, G.out]
  have f1 : w8.cell? ⟨w.heap.size, 1, none⟩ = some (.slice none 0 0) := by simp [World.cell?, G.out]
  have ff : ∀ j, w8.frozen? ⟨w.heap.size, j, none⟩ = false := fun j => by simp [World.frozen?, G.out]
  have KT := Lib.hid (((Kept.refl (fun b => b = w.heap.size) w8).setCell (p := ⟨w.heap.size, 0, none⟩) (.inl rfl) (.string s)).setCell (p := ⟨w.heap.size, 1, none⟩) (.inl rfl) (.slice y1 y2 y3))
  have GF := Lib.hid (setCell_obj (setCell_obj G.out (.string s) (j := 0)) (.slice y1 y2 y3) (j := 1))
  go_wp2
  refine bodyPost_ret (results_cell_row_tmp2 rfl _ _ w.heap.size _ #[_, _] (0, 0) _ rfl GF.out Try.underlying105 rfl (by kernel_rfl)) rfl ?_
  refine ⟨_, _, rfl, ?_, ?_, K8.out.trans KT.out fun b e => .inr (by omega)⟩
  · have := O6.out.sv.wide (D' := fun b => w.heap.size < b) byteEl_k fun b h _ => h.elim (fun h => h.elim) fun h => by have := GL.out; omega
    exact (this.kept byteEl_k KT.out fun b h _ e => by omega).wide byteEl_k fun b h _ => by omega
  · exact (O8.out.kept pairEl_k KT.out fun b h _ e => by omega).wide pairEl_k fun b h _ => h.elim (fun h => .inl h.1) fun h => .inr (by omega)
end Go.Proofs.Ytaopjdjbpamhhaa
/- Proved: contracts of the reference's Open and Forget of vaults. Conditions: bytes and pairs in memory. -/
namespace Go.Proofs.Ytaopjdjbpamhhaa
open Go Go.RowKit
set_option linter.unusedVariables false
set_option linter.unusedSimpArgs false

set_option maxRecDepth 100000 in
set_option maxHeartbeats 4000000 in
theorem r7Open_calls {w : World} {D D1 : Nat → Prop} {v0 v1 : Value} {s : ByteArray} {l : List (Bts × Bts)} {bs : Bts} (h0 : SV pairEl D w v0 l) (h1 : BV D1 w v1 bs) (hs : s.size ≤ 140737488355328) :
    Calls Try.prog 83 #[v0, .agg #[.string s, v1]] w fun e w' => ∃ x, e = .returned (.tuple #[x, .int .i64 (openK (getK l (sB s)) bs).1]) ∧ Own 5 byteEl Noneof w.heap.size w' x (openK (getK l (sB s)) bs).2 ∧ Kept Noneof w w' := by
  have H0 := Lib.hid h0
  have H1 := Lib.hid h1
  have HS := Lib.hid hs
  obtain ⟨⟨er, rb⟩, hres⟩ : ∃ r, openK (getK l (sB s)) bs = r := ⟨_, rfl⟩
  rw [hres]
  have RES := Lib.hid hres
  obtain ⟨a0, c0, rfl, _⟩ := h0
  obtain ⟨a1, c1, rfl, _, hm, _⟩ := h1
  clear hs hres
  go_enter Try.func83, Try.ntmps83
  go_upto_region 1 with (fail)
  have K1 := (Kept.refl Noneof w).alloc (.cells #[.string s, .slice a1 bs.length c1] 105)
  have G := Lib.hid (heap_alloc_new w (.cells #[.string s, .slice a1 bs.length c1] 105))
  generalize w.alloc (.cells #[.string s, .slice a1 bs.length c1] 105) = w1 at *
  have f0 : w1.cell? ⟨w.heap.size, 0, none⟩ = some (.string s) := by simp [World.cell?, G.out]
  obtain ⟨cc, hc, hb, hk⟩ := bytes_conv (w := w1) HS.out
  replace hc := hc w1 rfl
  have HB := Lib.hid hb
  have K2 := Lib.hid (K1.tr hk)
  replace G := Lib.hid (hk.obj (fun h => h) G.out)
  generalize Lib.bytesWorld w1 5 s = w2 at *
  clear hb hk K1
  go_wp2_with fail
  clear hc f0
  refine (r2Get_calls (H0.out.still' K2.out) HB.out).mono ?_
  rintro e w3 ⟨hres, d3⟩
  have k3 := (Kept.refl Noneof w2).drewn d3
  have K3 := Lib.hid (K2.out.tr k3)
  replace G := Lib.hid (k3.obj (fun h => h) G.out)
  clear HB d3
  rcases hres with ⟨v', x, hx, rfl, bx⟩ | ⟨hx, rfl⟩
  rotate_left
  · have R2 := RES.out
    rw [hx] at R2
    obtain ⟨rfl, rfl⟩ := Prod.mk.inj R2
    clear k3 hx RES R2
    go_wp2
    go_ret2
    exact ⟨_, rfl, Own.nil _ _ _ _ _, K3.out⟩
  have R2 := RES.out
  rw [hx] at R2
  unfold openK at R2
  simp only at R2
  have BX := Lib.hid (bx.still' k3)
  obtain ⟨x1, x3, rfl, _, hxm, _⟩ := bx
  obtain ⟨m, hm2⟩ : ∃ m, x.length = m := ⟨_, rfl⟩
  rw [hm2] at R2 hxm ⊢
  have HM := Lib.hid hm2
  have g1 : w3.cell? ⟨w.heap.size, 1, none⟩ = some (.slice a1 bs.length c1) := by simp [World.cell?, G.out]
  clear k3 hx RES hm2 K2
  by_cases hl : m = bs.length + 1
  rotate_left
  · rw [if_neg hl] at R2
    obtain ⟨rfl, rfl⟩ := Prod.mk.inj R2
    have e1 : ((m : Int) - 1 != (bs.length : Int)) = true := by rw [bne_iff_ne]; omega
    clear hl R2
    go_wp2
    go_ret2
    exact ⟨_, rfl, Own.nil _ _ _ _ _, K3.out⟩
  rw [if_pos hl] at R2
  obtain ⟨rfl, hrb⟩ := Prod.mk.inj R2
  have RB := Lib.hid hrb
  clear R2 hrb
  subst hl
  go_upto_region 6 with (fail)
  refine wp_region_chain 7 [4] (fun w' => w'.cell? ⟨w.heap.size, 1, none⟩ = some (.slice a1 bs.length c1)) (by kernel_rfl) (by kernel_rfl) ?_ ?_
  · exact g1
  refine SeqW.out ?_
  simp only [List.take_succ_cons, List.take_zero, List.drop_succ_cons, List.drop_zero]
  have kd := (Kept.refl Noneof w3).drew
  have K5 := Lib.hid (K3.out.tr kd)
  replace BX := Lib.hid (BX.out.still' kd)
  replace g1 := kd.cell (p := ⟨w.heap.size, 1, none⟩) (fun h => h) g1
  generalize w3.drew = wf at *
  clear kd
  have hb1 : (1 : Int) ≤ (bs.length : Int) + 1 := by omega
  iterate 4 (refine SeqW.val (v := ?_) (by rfl) (by rfl) (fun wx hSw => ?_) ?_; rotate_left; (focus ((try dsimp only at hSw); go_simp; (try with_reducible rfl))); (try simp only [Act.put, List.setIfInBounds_toArray, List.set_cons_zero, List.set_cons_succ]))
  refine SeqW.act (by rfl) rfl (by rfl) (by rfl) (fun K hK => ?_)
  go_simp
  have XD := SV.drop (n := 1) (d := 1) BX.out (by rw [HM.out]; omega) rfl
  rw [HM.out] at XD
  refine (r7Xor_calls (H1.out.still' K5.out) XD (by rw [List.length_drop, HM.out]; omega)).mono ?_
  rintro e w6 ⟨v6, rfl, o6, k6⟩
  refine hK.out _ _ (k6.cell (p := ⟨w.heap.size, 1, none⟩) (fun h => h) g1) ?_
  have O6 := Lib.hid (o6.base K5.out.size)
  have K6 := Lib.hid (K5.out.tr k6)
  clear K hK o6 k6
  (try simp only [Act.put, List.setIfInBounds_toArray, List.set_cons_zero, List.set_cons_succ])
  iterate 2 (refine SeqW.val (v := ?_) (by rfl) (by rfl) (fun wx hSw => ?_) ?_; rotate_left; (focus ((try dsimp only at hSw); go_simp; (try with_reducible rfl))); (try simp only [Act.put, List.setIfInBounds_toArray, List.set_cons_zero, List.set_cons_succ]))
  refine SeqW.nil ?_
  obtain ⟨y1, y2, y3, rfl⟩ := O6.out.slice'
  clear g1 hb1
  rw [RB.out] at O6
  go_wp2
  all_goals
    go_ret2
    exact ⟨_, rfl, O6.out, K6.out⟩
set_option maxRecDepth 100000 in
set_option maxHeartbeats 4000000 in
theorem r7Forget_calls {w : World} {D : Nat → Prop} {v0 : Value} {s : ByteArray} {l : List (Bts × Bts)} (h0 : SV pairEl D w v0 l) (hr : l.length ≤ 100000000) (hs : s.size ≤ 140737488355328) :
    Calls Try.prog 84 #[v0, .string s] w fun e w' => ∃ x, e = .returned (.tuple #[x, .int .i64 (if hasK l (sB s) = true then 0 else 3)]) ∧ SV pairEl (fun b => D b ∨ w.heap.size ≤ b) w' x (if hasK l (sB s) = true then dropK l (sB s) else l) ∧ Kept Noneof w w' := by
  have H0 := Lib.hid h0
  have HS := Lib.hid hs
  have HR := Lib.hid hr
  obtain ⟨a0, c0, rfl, _⟩ := h0
  obtain ⟨bb, hbb⟩ : ∃ b, hasK l (sB s) = b := ⟨_, rfl⟩
  rw [hbb]
  replace hbb := Lib.hid hbb
  clear hs hr
  obtain ⟨cc, hc, hb, hk⟩ := bytes_conv (w := w) HS.out
  replace hc := hc w rfl
  have HB := Lib.hid hb
  have K1 := Lib.hid hk
  generalize Lib.bytesWorld w 5 s = w1 at *
  clear hb hk
  go_enter Try.func84, Try.ntmps84
  go_wp2_with fail
  clear hc
  refine (r2Has_calls (H0.out.still' K1.out) HB.out).mono ?_
  rintro e w2 ⟨rfl, d2⟩
  rw [hbb.out]
  have k2 := (Kept.refl Noneof w1).drewn d2
  have K2 := Lib.hid (K1.out.tr k2)
  clear HB d2 k2 K1
  cases bb
  · go_wp2
    go_ret2
    exact ⟨_, rfl, (H0.out.still' K2.out).wide pairEl_k fun b h _ => .inl h, K2.out⟩
  obtain ⟨cc, hc, hb, hk⟩ := bytes_conv (w := w2) HS.out
  replace hc := hc w2 rfl
  have HB := Lib.hid hb
  have K3 := Lib.hid (K2.out.tr hk)
  generalize Lib.bytesWorld w2 5 s = w3 at *
  clear hb hk K2
  go_wp2_with fail
  clear hc
  refine (r2Drop_calls (H0.out.still' K3.out) HB.out HR.out).mono ?_
  rintro e w4 ⟨v', rfl, s4, k4⟩
  have S4 := Lib.hid (show SV pairEl (fun b => D b ∨ w.heap.size ≤ b) w4 v' (dropK l (sB s)) from s4.wide pairEl_k fun b h _ => h.elim .inl fun h => .inr (Nat.le_trans K3.out.size h))
  have K4 := Lib.hid (K3.out.tr k4)
  obtain ⟨y1, y3, rfl, _⟩ := s4
  clear k4
  generalize (dropK l (sB s)).length = dl at *
  go_wp2
  go_ret2
  exact ⟨_, rfl, S4.out, K4.out⟩
end Go.Proofs.Ytaopjdjbpamhhaa
/- Proved: contracts of two vaults' functions side by side. Plain: what is left of a pad that came and went. Conditions: vaults in memory that share no block. -/
namespace Go.Proofs.Ytaopjdjbpamhhaa
open Go Go.RowKit
set_option linter.unusedVariables false
set_option linter.unusedSimpArgs false

/-- Two vaults that share no block, both in blocks from B on; the blocks X are none of theirs. -/
structure VTwo (seed : Int) (B : Nat) (X : Nat → Prop) (w : World) (v u : Nat) (T1 T2 : List (Bts × Bts)) (F1 F2 : Nat → Prop) : Prop where
  a : VltAt seed w v T1 F1
  b : VltAt seed w u T2 F2
  da : ∀ b, F1 b → B ≤ b ∧ b < w.heap.size
  db : ∀ b, F2 b → B ≤ b ∧ b < w.heap.size
  no : ∀ b, F1 b → ¬ F2 b
  xx : ∀ b, X b → b < w.heap.size ∧ ¬ F1 b ∧ ¬ F2 b
  bs : B ≤ w.heap.size
section
variable {seed : Int} {B : Nat} {X : Nat → Prop} {w w' : World} {v u : Nat} {T1 T2 : List (Bts × Bts)} {F1 F2 : Nat → Prop}
theorem VTwo.swap (h : VTwo seed B X w v u T1 T2 F1 F2) : VTwo seed B X w u v T2 T1 F2 F1 := ⟨h.b, h.a, h.db, h.da, fun b hb ha => h.no b ha hb, fun b hb => ⟨(h.xx b hb).1, (h.xx b hb).2.2, (h.xx b hb).2.1⟩, h.bs⟩
theorem VTwo.still (h : VTwo seed B X w v u T1 T2 F1 F2) (k : Kept Noneof w w') : VTwo seed B X w' v u T1 T2 F1 F2 :=
  ⟨h.a.still k, h.b.still k, fun b hb => ⟨(h.da b hb).1, Nat.lt_of_lt_of_le (h.da b hb).2 k.size⟩, fun b hb => ⟨(h.db b hb).1, Nat.lt_of_lt_of_le (h.db b hb).2 k.size⟩, h.no, fun b hb => ⟨Nat.lt_of_lt_of_le (h.xx b hb).1 k.size, (h.xx b hb).2⟩, Nat.le_trans h.bs k.size⟩
theorem VTwo.more (h : VTwo seed B X w v u T1 T2 F1 F2) (Y : Nat → Prop) (hY : ∀ b, Y b → b < w.heap.size ∧ ¬ F1 b ∧ ¬ F2 b) : VTwo seed B (fun b => X b ∨ Y b) w v u T1 T2 F1 F2 :=
  ⟨h.a, h.b, h.da, h.db, h.no, fun b hb => hb.elim (h.xx b) (hY b), h.bs⟩
/-- A step of the first vault. -/
theorem VTwo.step (h : VTwo seed B X w v u T1 T2 F1 F2) {T1' : List (Bts × Bts)} {F' : Nat → Prop} (hv : VltAt seed w' v T1' F') (hf : ∀ b, F' b → (F1 b ∨ w.heap.size ≤ b) ∧ b < w'.heap.size) (k : Kept F1 w w') :
    VTwo seed B X w' v u T1' T2 F' F2 ∧ Kept (fun b => B ≤ b ∧ ¬ X b) w w' := by
  refine ⟨⟨hv, h.b.kept k fun b hb ha => h.no b ha hb, fun b hb => ⟨?_, (hf b hb).2⟩, fun b hb => ⟨(h.db b hb).1, Nat.lt_of_lt_of_le (h.db b hb).2 k.size⟩, fun b hb hh => ?_, fun b hb => ⟨Nat.lt_of_lt_of_le (h.xx b hb).1 k.size, fun hh => ?_, (h.xx b hb).2.2⟩, Nat.le_trans h.bs k.size⟩, k.mono fun b hb => ⟨(h.da b hb).1, fun hx => (h.xx b hx).2.1 hb⟩⟩
  · rcases (hf b hb).1 with h' | h'
    · exact (h.da b h').1
    · exact Nat.le_trans h.bs h'
  · rcases (hf b hb).1 with h' | h'
    · exact h.no b h' hh
    · have := (h.db b hh).2
      omega
  · rcases (hf b hh).1 with h' | h'
    · exact (h.xx b hb).2.1 h'
    · have := (h.xx b hb).1
      omega
theorem VTwo.done (h : VTwo seed B X w v u T1 T2 F1 F2) {D1 : Nat → Prop} {name : ByteArray} {dv : Value} {l : List DeedK} (h1 : SV deedEl D1 w dv l) (hD : ∀ b, D1 b → b < B) (hr : T1.length + l.length ≤ 1000) :
    Calls Try.prog 66 #[bp v, .string name, dv] w fun e w' => e = .returned (.bool (l.all (okD name))) ∧ (l.all (okD name) = true → ∃ F', VTwo seed B X w' v u (deedsT T1 l) T2 F' F2) ∧ Kept (fun b => B ≤ b ∧ ¬ X b) w w' := by
  refine (l7done_calls h.a h1 (fun b hb => (h.da b hb).2) (fun b hb hf => by have := hD b hb; have := (h.da b hf).1; omega) hr).mono ?_
  rintro e w2 ⟨rfl, hv, k⟩
  refine ⟨rfl, fun ha => ?_, k.mono fun b hb => ⟨(h.da b hb).1, fun hx => (h.xx b hx).2.1 hb⟩⟩
  obtain ⟨F', t, hf⟩ := hv ha
  exact ⟨F', (h.step t hf k).1⟩
theorem VTwo.put (h : VTwo seed B X w v u T1 T2 F1 F2) {D1 D2 : Nat → Prop} {s : ByteArray} {v1 v2 : Value} {data pad : Bts} (h1 : BV D1 w v1 data) (h2 : BV D2 w v2 pad) (hd1 : ∀ b, D1 b → b < B ∨ X b) (hd2 : ∀ b, D2 b → b < B ∨ X b) (hr : T1.length < 100000) (hs : s.size ≤ 140737488355328) :
    Calls Try.prog 67 #[bp v, .string s, v1, v2] w fun e w' => ∃ v' F', e = .returned (.tuple #[.agg #[.string (sealN (putR T1 (sB s) data pad) s), v'], .int .i64 (putR T1 (sB s) data pad)]) ∧ BV (fun b => w.heap.size ≤ b ∧ b < w'.heap.size ∧ ¬ F' b ∧ ¬ F2 b) w' v' (sealB (putR T1 (sB s) data pad) data pad) ∧ VTwo seed B X w' v u (vputT T1 (sB s) data pad) T2 F' F2 ∧ Kept (fun b => B ≤ b ∧ ¬ X b) w w' := by
  have no : ∀ b, b < B ∨ X b → ¬ F1 b := fun b hb hf => by
    rcases hb with hb | hb
    · have := (h.da b hf).1; omega
    · exact (h.xx b hb).2.1 hf
  refine (vPut_any h.a h1 h2 (fun b hb => (h.da b hb).2) (fun b hb => no b (hd1 b hb)) (fun b hb => no b (hd2 b hb)) hr hs).mono ?_
  rintro e w2 ⟨v', F', rfl, bv, t, hf, k⟩
  obtain ⟨t2, k2⟩ := h.step t hf k
  exact ⟨v', F', rfl, (SV.bd byteEl_k bv).wide byteEl_k fun b hb _ => ⟨hb.1.1, hb.2, hb.1.2, fun hh => by have := (h.db b hh).2; have := hb.1.1; omega⟩, t2, k2⟩
theorem VTwo.forget (h : VTwo seed B X w v u T1 T2 F1 F2) {s : ByteArray} (hs : s.size ≤ 140737488355328) :
    Calls Try.prog 70 #[bp v, .string s] w fun e w' => e = .returned (.int .i64 (dropE T1 (sB s))) ∧ VTwo seed B X w' v u (tdel T1 (sB s)) T2 F1 F2 ∧ Kept (fun b => B ≤ b ∧ ¬ X b) w w' := by
  refine (vForget_calls h.a (fun b hb => (h.da b hb).2) hs).mono ?_
  rintro e w2 ⟨rfl, t, k⟩
  obtain ⟨t2, k2⟩ := h.step t (fun b hb => ⟨.inl hb, Nat.lt_of_lt_of_le (h.da b hb).2 k.size⟩) k
  exact ⟨rfl, t2, k2⟩
end
/-! ### Plain -/
theorem vputT_del {T : List (Bts × Bts)} {n data pad : Bts} (h : tget T n = none) : tdel (vputT T n data pad) n = T := by
  unfold vputT
  split
  · exact tdel_tput_eq h
  · exact tdel_none h
theorem tget_nil (n : Bts) : tget [] n = none := rfl
theorem putR_free {T : List (Bts × Bts)} {n data pad : Bts} (h : tget T n = none) : putR T n data pad = if goodD n data pad = true then 0 else 1 := by
  unfold putR
  rw [h]
  rfl
theorem rputR_nil (n data pad : Bts) : rputR [] n data pad = if goodD n data pad = true then 0 else 1 := by
  unfold rputR
  have e : hasK [] n = false := rfl
  rw [e]
  rfl
theorem imgT_pos (seed : Int) (l : List (Bts × Bts)) : 4 ≤ (imgT seed l).length := by
  unfold imgT
  rw [List.length_append, leI_len]
  omega
theorem open_good {T l2 : List (Bts × Bts)} {n data pad : Bts} (hg : goodD n data pad = true) (h : tget T n = none) (hl : tget l2 n = tget (vputT T n data pad) n) : openK (tget l2 n) (xorB data pad) = (0, data) := by
  have e : tget (vputT T n data pad) n = some (1 :: pad) := by
    unfold vputT
    rw [if_pos ⟨hg, h⟩]
    exact tget_tput_eq
  have hlen : data.length = pad.length := by
    simp only [goodD, Bool.and_eq_true, decide_eq_true_eq] at hg
    exact hg.1.2
  rw [hl, e]
  unfold openK
  have : (xorB data pad).length = pad.length := by rw [xorB_len]; omega
  simp only
  rw [if_pos (by rw [List.length_cons, this]), List.drop_succ_cons, List.drop_zero, xorB_back hlen]
end Go.Proofs.Ytaopjdjbpamhhaa
