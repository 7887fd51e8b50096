/- Proved: contract of the talk of a mirror (Mirror's closure), where a span has no node. Conditions: what TalkIn says. -/
import Derived.Test.YtaopjdjbpamhhaaSwp4
namespace Go.Proofs.Ytaopjdjbpamhhaa
open Go Go.RowKit
set_option linter.unusedVariables false
set_option linter.unusedSimpArgs false

/-- The keys that go, and the pairs that come. -/
def gones (seed : Int) (u : Tr) : Tr → Bts → Bts → Bool → List Bts
  | .nil, low, high, bd => if sameAt seed u .nil low high bd = true then [] else spanKeys u.pairs low high bd
  | .nd l k v r, low, high, bd => if sameAt seed u (.nd l k v r) low high bd = true then [] else gones seed u l low k true ++ gones seed u r (k ++ [0]) high bd
def comes (seed : Int) (u : Tr) : Tr → Bts → Bts → Bool → List (Bts × Bts)
  | .nil, _, _, _ => []
  | .nd l k v r, low, high, bd => if sameAt seed u (.nd l k v r) low high bd = true then [] else (k, v) :: (comes seed u l low k true ++ comes seed u r (k ++ [0]) high bd)
theorem Own.obj {α : Type} {e : TypeId} {E : El α} {D : Nat → Prop} {B : Nat} {w : World} {v : Value} {l : List α} (h : Own e E D B w v l) {b : Nat} (hb : v.ownBlock = some b) : ∃ cur, w.heap[b]? = some (.cells cur e) := by
  obtain ⟨_, _, _, xs, ⟨_, h1⟩, _⟩ := h
  rcases h1 with ⟨rfl, _⟩ | ⟨g, cap, cur, rfl, _, hg, _⟩
  · cases hb
  · simp only [Value.ownBlock, Option.some.injEq] at hb
    subst hb
    exact ⟨cur, hg⟩
/-- A message in its box. -/
abbrev msgObj (vl vh : Value) (bd : Bool) (size dg : Int) (same : Bool) (vp : Value) : Obj := .cells #[vl, vh, .bool bd, .int .i64 size, .int .u64 dg, .bool same, vp] 97

theorem wp_app_list {α : Type} {E : El α} {P : Program} {w : World} {o : Oper} {a : Act} {Q : Exit → Act → World → Prop} {K : Act → World → Prop} (s x : Operand) (t : TypeId) (ho : o.op = .call { callee := .builtin .append, args := #[s, x], argTypes := #[t, t] })
    {e : TypeId} {bytes : Nat} {z : Value} (T : SlT P t e E.k bytes z) {D D' : Nat → Prop} {B : Nat} (v : Value) (l : List α) (hs : a.eval s = v) (hown : Own e E D B w v l)
    (vx : Value) (m : List α) (hx : a.eval x = vx) (hm : SV E D' w vx m) (hD : ∀ b, D' b → b < w.heap.size → D b ∧ v.ownBlock ≠ some b) (hbytes : (l.length + m.length) * bytes ≤ 140737488355328) (hb1 : 0 < bytes) (hbase : B ≤ w.heap.size)
    (h : ∀ v' w', Own e E D B w' v' (l ++ m) → Kept (fun k => v.ownBlock = some k) w w' → (∀ b, v'.ownBlock = some b → v.ownBlock = some b ∨ w.heap.size ≤ b) → K (a.put o.dst v') w') : o.wp P a w K Q := by
  obtain ⟨ao, c, rfl, ⟨hc, hn⟩, _, hr⟩ := hm
  obtain ⟨news, h1, h2⟩ := hr.cells
  exact wp_app s x t ho T v l hs hown ao c m hx hc hn news h1 h2 hD hbytes hb1 hbase fun v' w' k1 k2 k3 _ => h v' w' k1 k2 k3
theorem SV.nilv {α : Type} (E : El α) (D : Nat → Prop) (w : World) : SV E D w (.slice none 0 0) [] := ⟨none, 0, rfl, ⟨Nat.le_refl _, fun _ => rfl⟩, by simp, Rd.nil _ _ _ _⟩
/-- What a talk leaves. -/
def TalkPost (seed : Int) (u : Tr) (c : TK) (R : Nat → Prop) (vo vg vc : Value) (w : World) (ol : List Msg) (gl : List Bts) (cl : List (Bts × Bts)) (e : Ending) (w' : World) : Prop :=
  (∃ v, e = .returned v) ∧ ∃ R' vo' vg' vc', TalkIn seed u c R' vo' vg' vc' w' ol gl cl ∧ (∀ b, R b → R' b) ∧ Kept (TalkS c vo vg vc) w w' ∧
    ∀ b, (vo'.ownBlock = some b → vo.ownBlock = some b ∨ w.heap.size ≤ b) ∧ (vg'.ownBlock = some b → vg.ownBlock = some b ∨ w.heap.size ≤ b) ∧ (vc'.ownBlock = some b → vc.ownBlock = some b ∨ w.heap.size ≤ b)

set_option maxRecDepth 100000 in
set_option maxHeartbeats 4000000 in
theorem swMirror_1_nil {seed : Int} {u : Tr} {c : TK} (hg : Srt u.pairs) (hu : u.size ≤ 1000000) {R : Nat → Prop} {vo vg vc : Value} {w : World} {ol : List Msg} {gl : List Bts} {cl : List (Bts × Bts)} {lo hi : Value} {low high : Bts} {bd : Bool}
    (h : TalkIn seed u c R vo vg vc w ol gl cl) (h1 : BV R w lo low) (h2 : BV R w hi high) (b1 : ol.length ≤ 1000000) (b2 : gl.length ≤ 1000000000000) :
    Calls Try.prog 117 #[.agg #[lo, hi, .bool bd], .int .i64 (-1), bp c.q2, bp c.q3, bp c.q4, bp c.q5, bp c.q6, bp c.q7] w
      (TalkPost seed u c R vo vg vc w (ol ++ talk seed u .nil low high bd) (gl ++ gones seed u .nil low high bd) (cl ++ comes seed u .nil low high bd)) := by
  have H := Lib.hid h
  have H1 := Lib.hid h1
  have H2 := Lib.hid h2
  have HG := Lib.hid hg
  have HU := Lib.hid hu
  have BO := Lib.hid b1
  have BG := Lib.hid b2
  obtain ⟨a1, c1, rfl, _⟩ := h1
  obtain ⟨a2, c2, rfl, _⟩ := h2
  clear h hg hu b1 b2
  go_enter Try.func117, Try.ntmps117
  go_wp2_with fail
  (
  have G0 := heap_alloc_new w (.cells #[.slice a1 low.length c1, .slice a2 high.length c2, .bool bd] 170)
  have K0 := (Kept.refl Noneof w).alloc (.cells #[.slice a1 low.length c1, .slice a2 high.length c2, .bool bd] 170)
  have s0 : (w.alloc (.cells #[.slice a1 low.length c1, .slice a2 high.length c2, .bool bd] 170)).heap.size = w.heap.size + 1 := by simp
  generalize w.alloc (.cells #[.slice a1 low.length c1, .slice a2 high.length c2, .bool bd] 170) = w1 at *
  have G0 := Lib.hid G0
  have K0 := Lib.hid K0
  have S0 := Lib.hid s0
  clear s0
  refine wp_region_kept 10 [(2, .act IsSlice fun u wx => Own 5 byteEl Noneof w1.heap.size wx u low), (5, .act IsSlice fun u wx => Own 5 byteEl Noneof w1.heap.size wx u high), (9, .act IsPtr fun u wx => ∃ b, u = bp b ∧ w1.heap.size ≤ b ∧ wx.heap[b]? = some (msgObj (.slice none 0 0) (.slice none 0 0) false 0 0 false (.slice none 0 0)))] Noneof (by kernel_rfl) (by kernel_rfl) (by kernel_rfl) ?_; simp only [List.take_succ_cons, List.take_zero, List.drop_succ_cons, List.drop_zero]
  have hS : ∀ w', Kept Noneof w1 w' → w'.cell? ⟨w.heap.size, 0, none⟩ = some (.slice a1 low.length c1) ∧ w'.cell? ⟨w.heap.size, 1, none⟩ = some (.slice a2 high.length c2) ∧ w'.cell? ⟨w.heap.size, 2, none⟩ = some (.bool bd) := fun w' k => by
    have := k.obj (p := w.heap.size) (fun h => h) G0.out
    simp [World.cell?, this]
  iterate 2 (refine SeqL.val (v := ?_) hS rfl (by rfl) (fun wx hSw => ?_) ?_; rotate_left; (focus ((try dsimp only at hSw); go_simp; (try with_reducible rfl))); (try simp only [Act.put, List.setIfInBounds_toArray, List.set_cons_zero, List.set_cons_succ]))
  refine SeqL.act rfl rfl (by rfl) (by rfl) isSlice (fun wx hx hh K hK => ?_) (fun u1 hu1 => ?_)
  · go_simp
    refine (byClone_calls (H1.out.kept byteEl_k (K0.out.tr hx) fun _ _ _ h => h)).mono ?_
    rintro e w2 ⟨v', rfl, o1, k1⟩
    exact hK.out v' w2 o1.slice' k1 (o1.base hx.size)
  obtain ⟨p1, n1, d1, rfl⟩ := hu1
  (try simp only [Act.put, List.setIfInBounds_toArray, List.set_cons_zero, List.set_cons_succ])
  iterate 2 (refine SeqL.val (v := ?_) hS rfl (by rfl) (fun wx hSw => ?_) ?_; rotate_left; (focus ((try dsimp only at hSw); go_simp; (try with_reducible rfl))); (try simp only [Act.put, List.setIfInBounds_toArray, List.set_cons_zero, List.set_cons_succ]))
  refine SeqL.act rfl rfl (by rfl) (by rfl) isSlice (fun wx hx hh K hK => ?_) (fun u1 hu1 => ?_)
  · go_simp
    refine (byClone_calls (H2.out.kept byteEl_k (K0.out.tr hx) fun _ _ _ h => h)).mono ?_
    rintro e w2 ⟨v', rfl, o1, k1⟩
    exact hK.out v' w2 o1.slice' k1 (o1.base hx.size)
  obtain ⟨p2, n2, d2, rfl⟩ := hu1
  (try simp only [Act.put, List.setIfInBounds_toArray, List.set_cons_zero, List.set_cons_succ])
  iterate 3 (refine SeqL.val (v := ?_) hS rfl (by rfl) (fun wx hSw => ?_) ?_; rotate_left; (focus ((try dsimp only at hSw); go_simp; (try with_reducible rfl))); (try simp only [Act.put, List.setIfInBounds_toArray, List.set_cons_zero, List.set_cons_succ]))
  refine SeqL.act rfl rfl (by rfl) (by rfl) isPtr (fun wx hx hh K hK => ?_) (fun u1 hu1 => ?_)
  · go_simp
    exact hK.out _ _ ⟨_, rfl⟩ ((Kept.refl _ _).alloc _) ⟨_, rfl, hx.size, heap_alloc_new wx _⟩
  obtain ⟨bm, rfl⟩ := hu1
  (try simp only [Act.put, List.setIfInBounds_toArray, List.set_cons_zero, List.set_cons_succ])
  refine SeqL.nil fun wz hz hh => ?_
  obtain ⟨wa, _, oa, ka⟩ := hh 2 (by decide) _ _ _ rfl rfl
  obtain ⟨wb, _, ob, kb⟩ := hh 5 (by decide) _ _ _ rfl rfl
  obtain ⟨wc, _, oc, kc⟩ := hh 9 (by decide) _ _ _ rfl rfl
  have OA := Lib.hid (show Own 5 byteEl Noneof w1.heap.size wz (.slice p1 n1 d1) low from Own.kept oa ka fun _ h => h.elim)
  have OB := Lib.hid (show Own 5 byteEl Noneof w1.heap.size wz (.slice p2 n2 d2) high from Own.kept ob kb fun _ h => h.elim)
  have hbm : w1.heap.size ≤ bm ∧ wz.heap[bm]? = some (msgObj (.slice none 0 0) (.slice none 0 0) false 0 0 false (.slice none 0 0)) := by
    obtain ⟨b', e1, e2, e3⟩ := oc
    have e1 : bp bm = bp b' := e1
    simp only [bp, Value.pointer.injEq, Option.some.injEq, Addr.mk.injEq, and_true] at e1
    subst e1
    exact ⟨e2, kc.obj (fun h => h) e3⟩
  obtain ⟨hbm, gm⟩ := hbm
  have HBM := Lib.hid hbm
  have GM := Lib.hid gm
  have KZ := Lib.hid (K0.out.tr hz)
  have KS := Lib.hid hz
  clear hh hS oa ob oc ka kb kc hz hbm
  have m0 : wz.cell? ⟨bm, 0, none⟩ = some (.slice none 0 0) := by simp [World.cell?, gm]
  have m1 : wz.cell? ⟨bm, 1, none⟩ = some (.slice none 0 0) := by simp [World.cell?, gm]
  have m2 : wz.cell? ⟨bm, 2, none⟩ = some (.bool false) := by simp [World.cell?, gm]
  have m3 : wz.cell? ⟨bm, 3, none⟩ = some (.int .i64 0) := by simp [World.cell?, gm]
  have m4 : wz.cell? ⟨bm, 4, none⟩ = some (.int .u64 0) := by simp [World.cell?, gm]
  have m5 : wz.cell? ⟨bm, 5, none⟩ = some (.bool false) := by simp [World.cell?, gm]
  have m6 : wz.cell? ⟨bm, 6, none⟩ = some (.slice none 0 0) := by simp [World.cell?, gm]
  have mf : ∀ j, wz.frozen? ⟨bm, j, none⟩ = false := fun j => by simp [World.frozen?, gm]
  clear gm
  have TZ := Lib.hid (H.out.kept0 KZ.out)
  have z3 : wz.cell? ⟨c.q3, 0, none⟩ = some (bp c.m2) := by simp [World.cell?, TZ.out.h3]
  have z2 : wz.cell? ⟨c.q2, 0, none⟩ = some c.vn := by simp [World.cell?, TZ.out.h2]
  have gz := KZ.out.block
  have hz0 : wz.heap[w.heap.size]? = some (.cells #[.slice a1 low.length c1, .slice a2 high.length c2, .bool bd] 170) := KS.out.obj (fun h => h) G0.out
  have y0 : wz.cell? ⟨w.heap.size, 0, none⟩ = some (.slice a1 low.length c1) := by simp [World.cell?, hz0]
  have y1 : wz.cell? ⟨w.heap.size, 1, none⟩ = some (.slice a2 high.length c2) := by simp [World.cell?, hz0]
  have y2 : wz.cell? ⟨w.heap.size, 2, none⟩ = some (.bool bd) := by simp [World.cell?, hz0]
  have HZ0 := Lib.hid hz0
  have hbm1 : bm ≠ w.heap.size := by have := HBM.out; have := S0.out; omega
  have hbm2 : bm ≠ c.q3 := by have := HBM.out; have := S0.out; have := H.out.lt; have := H.out.hB; omega
  have hbm3 : bm ≠ c.q2 := by have := HBM.out; have := S0.out; have := H.out.lt; have := H.out.hB; omega
  clear gz hz0)
  go_wp2_with fail
  (
  have MS := (((((((Kept.refl (fun b => b = bm) wz).setCell (p := ⟨bm, 0, none⟩) (.inl rfl) (.slice p1 n1 d1)).setCell (p := ⟨bm, 1, none⟩) (.inl rfl) (.slice p2 n2 d2)).setCell (p := ⟨bm, 2, none⟩) (.inl rfl) (.bool bd)).setCell (p := ⟨bm, 3, none⟩) (.inl rfl) (.int .i64 0)).setCell (p := ⟨bm, 4, none⟩) (.inl rfl) (.int .u64 0)).setCell (p := ⟨bm, 5, none⟩) (.inl rfl) (.bool false)).setCell (p := ⟨bm, 6, none⟩) (.inl rfl) (.slice none 0 0)
  have GM5 := setCell_obj (setCell_obj (setCell_obj (setCell_obj (setCell_obj (setCell_obj (setCell_obj GM.out (.slice p1 n1 d1) (j := 0)) (.slice p2 n2 d2) (j := 1)) (.bool bd) (j := 2)) (.int .i64 0) (j := 3)) (.int .u64 0) (j := 4)) (.bool false) (j := 5)) (.slice none 0 0) (j := 6)
  generalize ((((((wz.setCell ⟨bm, 0, none⟩ (.slice p1 n1 d1)).setCell ⟨bm, 1, none⟩ (.slice p2 n2 d2)).setCell ⟨bm, 2, none⟩ (.bool bd)).setCell ⟨bm, 3, none⟩ (.int .i64 0)).setCell ⟨bm, 4, none⟩ (.int .u64 0)).setCell ⟨bm, 5, none⟩ (.bool false)).setCell ⟨bm, 6, none⟩ (.slice none 0 0) = w5 at *
  have GM5 := Lib.hid (show w5.heap[bm]? = some (msgObj (.slice p1 n1 d1) (.slice p2 n2 d2) bd 0 0 false (.slice none 0 0)) from GM5)
  have lT := Lib.hid (show c.B ≤ bm ∧ ¬ R bm ∧ (vo : Value).ownBlock ≠ some bm ∧ (vg : Value).ownBlock ≠ some bm ∧ (vc : Value).ownBlock ≠ some bm from by
    have hh := H.out
    have e1 := HBM.out
    have e2 := S0.out
    have e3 := hh.hB
    exact ⟨by omega, fun e => by have := (hh.hR bm e).1; omega, fun e => by have := (hh.ho.lt bm e).2; omega, fun e => by have := (hh.hg.lt bm e).2; omega, fun e => by have := (hh.hc.lt bm e).2; omega⟩)
  have T5 := Lib.hid (TZ.out.kept MS fun b e => by subst e; exact lT.out)
  have nA := Lib.hid (show (Value.slice p1 n1 d1).ownBlock ≠ some bm from fun e => by
    obtain ⟨cur, hc⟩ := OA.out.obj e
    have := hc.symm.trans GM.out
    simp [msgObj] at this)
  have nB := Lib.hid (show (Value.slice p2 n2 d2).ownBlock ≠ some bm from fun e => by
    obtain ⟨cur, hc⟩ := OB.out.obj e
    have := hc.symm.trans GM.out
    simp [msgObj] at this)
  have OA5 := Lib.hid (OA.out.kept MS fun b hb _ => ⟨fun h => h.elim, fun e => by have hb : b = bm := hb; subst hb; exact nA.out e⟩)
  have OB5 := Lib.hid (OB.out.kept MS fun b hb _ => ⟨fun h => h.elim, fun e => by have hb : b = bm := hb; subst hb; exact nB.out e⟩)
  have K5 := Lib.hid (KZ.out.trans MS fun b e => .inr (by have := HBM.out; have := S0.out; omega))
  have Y5 := Lib.hid (MS.obj (p := w.heap.size) (fun e => hbm1 e.symm) HZ0.out)
  clear MS m0 m1 m2 m3 m4 m5 m6 mf z3 z2 y0 y1 y2 OA OB TZ GM KZ HZ0 KS)
  (
  refine (orSpanDigest_calls (seed := seed) (t := u) T5.out.hm (H1.out.kept byteEl_k K5.out fun _ _ _ h => h) (H2.out.kept byteEl_k K5.out fun _ _ _ h => h)).mono ?_
  rintro e w6 ⟨rfl, k6⟩
  have T6 := Lib.hid (T5.out.kept0 k6)
  have OA6 := Lib.hid (OA5.out.kept k6 fun _ h => h.elim)
  have OB6 := Lib.hid (OB5.out.kept k6 fun _ h => h.elim)
  have GM6 := Lib.hid (k6.obj (fun h => h) GM5.out)
  have K6 := Lib.hid (K5.out.trans k6 fun _ h => h.elim)
  have Y6 := Lib.hid (k6.obj (fun h => h) Y5.out)
  clear k6 T5 OA5 OB5 GM5 K5 Y5
  have gm6 := GM6.out
  have m0 : w6.cell? ⟨bm, 0, none⟩ = some (.slice p1 n1 d1) := by simp [World.cell?, gm6]
  have m1 : w6.cell? ⟨bm, 1, none⟩ = some (.slice p2 n2 d2) := by simp [World.cell?, gm6]
  have m2 : w6.cell? ⟨bm, 2, none⟩ = some (.bool bd) := by simp [World.cell?, gm6]
  have m3 : w6.cell? ⟨bm, 3, none⟩ = some (.int .i64 0) := by simp [World.cell?, gm6]
  have m4 : w6.cell? ⟨bm, 4, none⟩ = some (.int .u64 0) := by simp [World.cell?, gm6]
  have m5 : w6.cell? ⟨bm, 5, none⟩ = some (.bool false) := by simp [World.cell?, gm6]
  have m6 : w6.cell? ⟨bm, 6, none⟩ = some (.slice none 0 0) := by simp [World.cell?, gm6]
  have mf : ∀ j, w6.frozen? ⟨bm, j, none⟩ = false := fun j => by simp [World.frozen?, gm6]
  have y6 := Y6.out
  have y0 : w6.cell? ⟨w.heap.size, 0, none⟩ = some (.slice a1 low.length c1) := by simp [World.cell?, y6]
  have y1 : w6.cell? ⟨w.heap.size, 1, none⟩ = some (.slice a2 high.length c2) := by simp [World.cell?, y6]
  have y2 : w6.cell? ⟨w.heap.size, 2, none⟩ = some (.bool bd) := by simp [World.cell?, y6]
  have z4 : w6.cell? ⟨c.q4, 0, none⟩ = some vo := by simp [World.cell?, T6.out.h4]
  have z5 : w6.cell? ⟨c.q5, 0, none⟩ = some vg := by simp [World.cell?, T6.out.h5]
  have z3 : w6.cell? ⟨c.q3, 0, none⟩ = some (bp c.m2) := by simp [World.cell?, T6.out.h3]
  have z2 : w6.cell? ⟨c.q2, 0, none⟩ = some c.vn := by simp [World.cell?, T6.out.h2]
  have hbm4 : bm ≠ c.q4 := by have := HBM.out; have := S0.out; have := H.out.lt; have := H.out.hB; omega
  have hbm5 : bm ≠ c.q5 := by have := HBM.out; have := S0.out; have := H.out.lt; have := H.out.hB; omega
  clear gm6 y6)
  have e1 : ((((u.cut low true high bd).size : Nat) : Int) == 0) = ((u.cut low true high bd).size == 0) := by
    cases h : (u.cut low true high bd).size <;> simp <;> omega
  cases g1 : ((u.cut low true high bd).size == 0) with
  | false =>
    rw [g1] at e1
    have hs : sameAt seed u .nil low high bd = false := by unfold sameAt; rw [show Tr.nil.size = 0 from rfl, g1]; rfl
    (
    have M7 := (Kept.refl (fun b => b = bm) w6).setCell (p := ⟨bm, 5, none⟩) (.inl rfl) (.bool false)
    have T7 := T6.out.kept M7 fun b e => by subst e; exact lT.out
    have OA7 := OA6.out.kept M7 fun b hb _ => ⟨fun h => h.elim, fun e => by have hb : b = bm := hb; subst hb; exact nA.out e⟩
    have OB7 := OB6.out.kept M7 fun b hb _ => ⟨fun h => h.elim, fun e => by have hb : b = bm := hb; subst hb; exact nB.out e⟩
    have GM7 := setCell_obj GM6.out (.bool false) (j := 5)
    have A7 := (Kept.refl Noneof (w6.setCell ⟨bm, 5, none⟩ (.bool false))).alloc (msgObj (.slice p1 n1 d1) (.slice p2 n2 d2) bd 0 0 false (.slice none 0 0))
    have G8 := heap_alloc_new (w6.setCell ⟨bm, 5, none⟩ (.bool false)) (msgObj (.slice p1 n1 d1) (.slice p2 n2 d2) bd 0 0 false (.slice none 0 0))
    rw [show (w6.setCell ⟨bm, 5, none⟩ (.bool false)).heap.size = w6.heap.size by simp] at G8
    have G8 := Lib.hid G8
    have OA8 := Lib.hid (OA7.kept A7 fun _ h => h.elim)
    have OB8 := Lib.hid (OB7.kept A7 fun _ h => h.elim)
    have GM8 := Lib.hid (A7.obj (fun h => h) GM7)
    have K8 := Lib.hid ((K6.out.trans M7 fun b e => .inr (by have := HBM.out; have := S0.out; omega)).trans A7 fun _ h => h.elim)
    have T8 := Lib.hid ((T7.kept0 A7).wide (R' := fun b => R b ∨ (Value.slice p1 n1 d1).ownBlock = some b ∨ (Value.slice p2 n2 d2).ownBlock = some b) (fun b h => .inl h) (by
      have t := H.out
      have e3 := t.hB
      have e2 := S0.out
      have la := OA8.out.lt
      have lb := OB8.out.lt
      have far : ∀ b, w1.heap.size ≤ b → b < ((w6.setCell ⟨bm, 5, none⟩ (.bool false)).alloc (msgObj (.slice p1 n1 d1) (.slice p2 n2 d2) bd 0 0 false (.slice none 0 0))).heap.size → b < ((w6.setCell ⟨bm, 5, none⟩ (.bool false)).alloc (msgObj (.slice p1 n1 d1) (.slice p2 n2 d2) bd 0 0 false (.slice none 0 0))).heap.size ∧ c.B ≤ b ∧ vo.ownBlock ≠ some b ∧ vg.ownBlock ≠ some b ∧ vc.ownBlock ≠ some b := fun b h1 h2 => ⟨h2, by omega, fun e => by have := (t.ho.lt b e).2; omega, fun e => by have := (t.hg.lt b e).2; omega, fun e => by have := (t.hc.lt b e).2; omega⟩
      rintro b (h | h | h)
      · exact .inl h
      · exact .inr (far b (la b h).1 (la b h).2)
      · exact .inr (far b (lb b h).1 (lb b h).2)))
    have hR8 := Lib.hid T8.out.hR
    have hB8 := T8.out.hB
    have bo := BO.out
    have BLA := Lib.hid (OA8.out.rd (D' := fun b => R b ∨ (Value.slice p1 n1 d1).ownBlock = some b ∨ (Value.slice p2 n2 d2).ownBlock = some b) (fun _ h => h.elim) fun b h => .inr (.inl h))
    have BLB := Lib.hid (OB8.out.rd (D' := fun b => R b ∨ (Value.slice p1 n1 d1).ownBlock = some b ∨ (Value.slice p2 n2 d2).ownBlock = some b) (fun _ h => h.elim) fun b h => .inr (.inr h))
    have HB8 := Lib.hid hB8
    have hby : (ol.length + 1) * 104 ≤ 140737488355328 := by omega
    clear M7 T7 OA7 OB7 GM7 A7 hB8 bo
    go_wp2_with (at_builtin; refine wl_app_one (E := msgEl) rfl (.tmp 68) (.tmp 70) _ rfl tMsgs (D' := fun b => R b ∨ (Value.slice p1 n1 d1).ownBlock = some b ∨ (Value.slice p2 n2 d2).ownBlock = some b) vo ol rfl T8.out.ho w6.heap.size _ ⟨low, high, bd, 0, 0, false, []⟩ rfl ⟨_, _, G8.out⟩ ⟨_, _, _, rfl, BLA.out, BLB.out, SV.nilv _ _ _⟩ (fun b h _ => ⟨h, (hR8.out b h).2.2.1⟩) hby (by decide) HB8.out ?_)
    intro v9 w9 o9 k9 hb9
    have hb9 : ∀ b, v9.ownBlock = some b → vo.ownBlock = some b ∨ ((w6.setCell ⟨bm, 5, none⟩ (.bool false)).alloc (msgObj (.slice p1 n1 d1) (.slice p2 n2 d2) bd 0 0 false (.slice none 0 0))).heap.size ≤ b := fun b e => by have := hb9 b e; simpa using this
    have T9 := Lib.hid (T8.out.say k9 o9 hb9)
    have LV := Lib.hid o9.lt
    obtain ⟨a9, n9, c9, rfl⟩ := o9.slice'
    have no9 : ∀ b, b < c.B → vo.ownBlock ≠ some b := fun b hb e => by have := (T8.out.ho.lt b e).1; omega
    have q9 : w9.heap[c.q4]? = some (.cells #[vo] 85) := k9.obj (no9 _ T8.out.lt.2.2.1) T8.out.h4
    have z9 : w9.cell? ⟨c.q4, 0, none⟩ = some vo := by simp [World.cell?, q9]
    have f9 : w9.frozen? ⟨c.q4, 0, none⟩ = false := by simp [World.frozen?, q9]
    have gm9 := k9.obj (p := bm) lT.out.2.2.1 GM8.out
    have m9 : w9.cell? ⟨bm, 5, none⟩ = some (.bool false) := by simp [World.cell?, gm9]
    have K9 := Lib.hid ((K8.out.mono (T := TalkS c vo vg vc) fun _ h => h.elim).trans k9 fun b h => .inl (.inr (.inr (.inr (.inl h)))))
    have K9' := Lib.hid (K9.out.setCell (p := ⟨c.q4, 0, none⟩) (.inl (.inl rfl)) (.slice a9 n9 c9))
    have HB9 := Lib.hid hb9
    have Y9 := Lib.hid (k9.obj (p := w.heap.size) (fun e => by have := (H.out.ho.lt _ e).2; omega) (((Kept.refl Noneof (w6.setCell ⟨bm, 5, none⟩ (.bool false))).alloc (msgObj (.slice p1 n1 d1) (.slice p2 n2 d2) bd 0 0 false (.slice none 0 0))).obj (fun h => h) (((Kept.refl (fun b => b = bm) w6).setCell (p := ⟨bm, 5, none⟩) (.inl rfl) (.bool false)).obj (p := w.heap.size) (fun e => hbm1 e.symm) Y6.out)))
    clear o9 k9 hb9 q9 gm9 no9)
    go_wp2_with fail
    (
    have KQ := (Kept.refl (fun b => b = c.q4) w9).setCell (p := ⟨c.q4, 0, none⟩) (.inl rfl) (.slice a9 n9 c9)
    have Y10 := Lib.hid (KQ.obj (p := w.heap.size) (by have := H.out.lt; have := H.out.hB; omega) Y9.out)
    generalize w9.setCell ⟨c.q4, 0, none⟩ (.slice a9 n9 c9) = w10 at *
    have T10 := T9
    have K10 := K9'
    clear KQ z9 f9 m9 K9 T9 K9' Y9
    have h10 := T10.out
    have z5' : w10.cell? ⟨c.q5, 0, none⟩ = some vg := by simp [World.cell?, h10.h5]
    have z3' : w10.cell? ⟨c.q3, 0, none⟩ = some (bp c.m2) := by simp [World.cell?, h10.h3]
    have y10 := Y10.out
    have y0' : w10.cell? ⟨w.heap.size, 0, none⟩ = some (.slice a1 low.length c1) := by simp [World.cell?, y10]
    have y1' : w10.cell? ⟨w.heap.size, 1, none⟩ = some (.slice a2 high.length c2) := by simp [World.cell?, y10]
    have y2' : w10.cell? ⟨w.heap.size, 2, none⟩ = some (.bool bd) := by simp [World.cell?, y10]
    have HW6 := Lib.hid (show w.heap.size ≤ w6.heap.size from K6.out.size)
    clear h10 y10 m0 m1 m2 m3 m4 m5 m6 mf y0 y1 y2 z2 z3 z4 z5
    refine wp_region_chain 5 [3, 4] (fun w' => w'.cell? ⟨c.q5, 0, none⟩ = some vg ∧ w'.cell? ⟨c.q3, 0, none⟩ = some (bp c.m2) ∧ w'.cell? ⟨w.heap.size, 0, none⟩ = some (.slice a1 low.length c1) ∧ w'.cell? ⟨w.heap.size, 1, none⟩ = some (.slice a2 high.length c2) ∧ w'.cell? ⟨w.heap.size, 2, none⟩ = some (.bool bd)) (by kernel_rfl) (by kernel_rfl) ?_ ?_
    · exact ⟨z5', z3', y0', y1', y2'⟩
    simp only [List.take_succ_cons, List.take_zero, List.drop_succ_cons, List.drop_zero]
    iterate 3 (refine SeqY.val (v := ?_) (by rfl) (by rfl) (fun wx hSw => ?_) ?_; rotate_left; (focus ((try dsimp only at hSw); go_simp; (try with_reducible rfl))); (try simp only [Act.put, List.setIfInBounds_toArray, List.set_cons_zero, List.set_cons_succ]))
    refine SeqY.act (by rfl) rfl (by rfl) (by rfl) (fun K hK => ?_)
    go_simp
    have nS : ∀ b, R b → b < w.heap.size → ¬ TalkS c vo vg vc b := fun b hb _ e => by
      have := H.out.hR b hb
      rcases e with e | e | e | e | e | e
      · exact this.2.1.1 e
      · exact this.2.1.2.1 e
      · exact this.2.1.2.2 e
      · exact this.2.2.1 e
      · exact this.2.2.2.1 e
      · exact this.2.2.2.2 e
    refine (swkeys_calls (w := w10.drew) (T10.out.hm.at rfl) HU.out HG.out ((H1.out.kept byteEl_k K10.out nS).at rfl) ((H2.out.kept byteEl_k K10.out nS).at rfl)).mono ?_
    rintro e w11 ⟨v11, rfl, o11, k11⟩
    have k11 : Kept Noneof w10 w11 := ⟨k11.os, k11.tape, k11.output, k11.size, k11.block⟩
    have o11 : Own 31 bytesEl (fun b => w10.heap.size ≤ b) w10.heap.size w11 v11 (spanKeys u.pairs low high bd) := o11
    refine hK.out _ _ ⟨k11.cell (p := ⟨c.q5, 0, none⟩) (fun h => h) z5', k11.cell (p := ⟨c.q3, 0, none⟩) (fun h => h) z3', k11.cell (p := ⟨w.heap.size, 0, none⟩) (fun h => h) y0', k11.cell (p := ⟨w.heap.size, 1, none⟩) (fun h => h) y1', k11.cell (p := ⟨w.heap.size, 2, none⟩) (fun h => h) y2'⟩ ?_
    have t10 := T10.out
    have T11 := Lib.hid ((t10.kept0 k11).wide (R' := fun b => (R b ∨ (Value.slice p1 n1 d1).ownBlock = some b ∨ (Value.slice p2 n2 d2).ownBlock = some b) ∨ w10.heap.size ≤ b ∧ b < w11.heap.size) (fun b h => .inl h) fun b h => h.imp id fun h => ⟨h.2, by have := t10.hB; omega, fun e => by have := (t10.ho.lt b e).2; omega, fun e => by have := (t10.hg.lt b e).2; omega, fun e => by have := (t10.hc.lt b e).2; omega⟩)
    have S11 := Lib.hid (show SV bytesEl (fun b => w10.heap.size ≤ b ∧ b < w11.heap.size) w11 v11 (spanKeys u.pairs low high bd) from (o11.sv.bd bytesEl_k).wide bytesEl_k fun b h _ => by omega)
    have K11 := Lib.hid (K10.out.trans k11 fun _ h => h.elim)
    have K11n := Lib.hid k11
    have hkl : (spanKeys u.pairs low high bd).length ≤ 1000000 := by
      unfold spanKeys
      rw [List.length_map]
      exact Nat.le_trans (List.length_filter_le _ _) (by rw [Tr.pairs_len]; exact HU.out)
    have hby2 : (gl.length + (spanKeys u.pairs low high bd).length) * 24 ≤ 140737488355328 := by have := BG.out; omega
    have hR11 := Lib.hid T11.out.hR
    obtain ⟨a11, n11, c11, rfl⟩ := o11.slice'
    have hs10 := k11.size
    clear K hK o11 k11 t10 nS
    (try simp only [Act.put, List.setIfInBounds_toArray, List.set_cons_zero, List.set_cons_succ])
    refine SeqY.act (by rfl) rfl (by rfl) (by rfl) (fun K hK => ?_)
    refine wp_app_list (E := bytesEl) (.tmp 75) (.tmp 78) _ rfl tRows (D' := fun b => w10.heap.size ≤ b ∧ b < w11.heap.size) vg gl rfl T11.out.hg _ _ rfl S11.out (fun b h _ => ⟨.inr h, (hR11.out b (.inr h)).2.2.2.1⟩) hby2 (by decide) T11.out.hB ?_
    intro v12 w12 o12 k12 hb12
    have t11 := T11.out
    have lg := t11.hg.lt
    have lt := t11.lt
    have T12 := Lib.hid (t11.go k12 o12 hb12)
    have ng : ∀ b, b < c.B → vg.ownBlock ≠ some b := fun b hb e => by have := (lg b e).1; omega
    have nw : vg.ownBlock ≠ some w.heap.size := fun e => by have := (H.out.hg.lt _ e).2; omega
    have h5 := k12.obj (ng _ lt.2.2.2.1) t11.h5
    have h3 := k12.obj (ng _ lt.2.1) t11.h3
    have y12 := k12.obj (p := w.heap.size) nw (K11n.out.obj (fun h => h) Y10.out)
    have z12 : w12.cell? ⟨c.q5, 0, none⟩ = some vg := by simp [World.cell?, h5]
    have f12 : w12.frozen? ⟨c.q5, 0, none⟩ = false := by simp [World.frozen?, h5]
    refine hK.out _ _ ⟨z12, by simp [World.cell?, h3], by simp [World.cell?, y12], by simp [World.cell?, y12], by simp [World.cell?, y12]⟩ ?_
    have K12 := Lib.hid (K11.out.trans k12 fun b h => .inl (.inr (.inr (.inr (.inr (.inl h))))))
    obtain ⟨a12, n12, c12, rfl⟩ := o12.slice'
    have HB12 := Lib.hid hb12
    clear K hK o12 k12 t11 h5 h3 y12 hb12
    (try simp only [Act.put, List.setIfInBounds_toArray, List.set_cons_zero, List.set_cons_succ])
    refine SeqY.nil ?_
    go_wp2
    refine bodyPost_ret (results_none rfl _ _ _) rfl ?_
    have q1 : talk seed u .nil low high bd = [⟨low, high, bd, 0, 0, false, []⟩] := by simp only [talk, hs]
    have q2 : gones seed u .nil low high bd = spanKeys u.pairs low high bd := by simp only [gones, hs, if_neg, Bool.false_eq_true, not_false_eq_true]
    have q3 : comes seed u .nil low high bd = [] := rfl
    rw [q1, q2, q3, List.append_nil]
    have TF := T12.out
    have hw := HW6.out
    have hw10 := K10.out.size
    exact ⟨⟨_, rfl⟩, _, _, _, vc, TF, fun b h => .inl (.inl h), K12.out.setCell (p := ⟨c.q5, 0, none⟩) (.inl (.inr (.inl rfl))) _, fun b => ⟨fun e => (HB9.out b e).imp id fun h => by have := K8.out.size; omega, fun e => (HB12.out b e).imp id fun h => by omega, fun h => .inl h⟩⟩)
  | true =>
    rw [g1] at e1
    cases g2 : ((u.cut low true high bd).dg seed == 0) with
    | false =>
      have hs : sameAt seed u .nil low high bd = false := by unfold sameAt; rw [show Tr.nil.size = 0 from rfl, show Tr.dg seed Tr.nil = 0 from rfl, g1, g2]; rfl
      (
    have M7 := (Kept.refl (fun b => b = bm) w6).setCell (p := ⟨bm, 5, none⟩) (.inl rfl) (.bool false)
    have T7 := T6.out.kept M7 fun b e => by subst e; exact lT.out
    have OA7 := OA6.out.kept M7 fun b hb _ => ⟨fun h => h.elim, fun e => by have hb : b = bm := hb; subst hb; exact nA.out e⟩
    have OB7 := OB6.out.kept M7 fun b hb _ => ⟨fun h => h.elim, fun e => by have hb : b = bm := hb; subst hb; exact nB.out e⟩
    have GM7 := setCell_obj GM6.out (.bool false) (j := 5)
    have A7 := (Kept.refl Noneof (w6.setCell ⟨bm, 5, none⟩ (.bool false))).alloc (msgObj (.slice p1 n1 d1) (.slice p2 n2 d2) bd 0 0 false (.slice none 0 0))
    have G8 := heap_alloc_new (w6.setCell ⟨bm, 5, none⟩ (.bool false)) (msgObj (.slice p1 n1 d1) (.slice p2 n2 d2) bd 0 0 false (.slice none 0 0))
    rw [show (w6.setCell ⟨bm, 5, none⟩ (.bool false)).heap.size = w6.heap.size by simp] at G8
    have G8 := Lib.hid G8
    have OA8 := Lib.hid (OA7.kept A7 fun _ h => h.elim)
    have OB8 := Lib.hid (OB7.kept A7 fun _ h => h.elim)
    have GM8 := Lib.hid (A7.obj (fun h => h) GM7)
    have K8 := Lib.hid ((K6.out.trans M7 fun b e => .inr (by have := HBM.out; have := S0.out; omega)).trans A7 fun _ h => h.elim)
    have T8 := Lib.hid ((T7.kept0 A7).wide (R' := fun b => R b ∨ (Value.slice p1 n1 d1).ownBlock = some b ∨ (Value.slice p2 n2 d2).ownBlock = some b) (fun b h => .inl h) (by
      have t := H.out
      have e3 := t.hB
      have e2 := S0.out
      have la := OA8.out.lt
      have lb := OB8.out.lt
      have far : ∀ b, w1.heap.size ≤ b → b < ((w6.setCell ⟨bm, 5, none⟩ (.bool false)).alloc (msgObj (.slice p1 n1 d1) (.slice p2 n2 d2) bd 0 0 false (.slice none 0 0))).heap.size → b < ((w6.setCell ⟨bm, 5, none⟩ (.bool false)).alloc (msgObj (.slice p1 n1 d1) (.slice p2 n2 d2) bd 0 0 false (.slice none 0 0))).heap.size ∧ c.B ≤ b ∧ vo.ownBlock ≠ some b ∧ vg.ownBlock ≠ some b ∧ vc.ownBlock ≠ some b := fun b h1 h2 => ⟨h2, by omega, fun e => by have := (t.ho.lt b e).2; omega, fun e => by have := (t.hg.lt b e).2; omega, fun e => by have := (t.hc.lt b e).2; omega⟩
      rintro b (h | h | h)
      · exact .inl h
      · exact .inr (far b (la b h).1 (la b h).2)
      · exact .inr (far b (lb b h).1 (lb b h).2)))
    have hR8 := Lib.hid T8.out.hR
    have hB8 := T8.out.hB
    have bo := BO.out
    have BLA := Lib.hid (OA8.out.rd (D' := fun b => R b ∨ (Value.slice p1 n1 d1).ownBlock = some b ∨ (Value.slice p2 n2 d2).ownBlock = some b) (fun _ h => h.elim) fun b h => .inr (.inl h))
    have BLB := Lib.hid (OB8.out.rd (D' := fun b => R b ∨ (Value.slice p1 n1 d1).ownBlock = some b ∨ (Value.slice p2 n2 d2).ownBlock = some b) (fun _ h => h.elim) fun b h => .inr (.inr h))
    have HB8 := Lib.hid hB8
    have hby : (ol.length + 1) * 104 ≤ 140737488355328 := by omega
    clear M7 T7 OA7 OB7 GM7 A7 hB8 bo
    go_wp2_with (at_builtin; refine wl_app_one (E := msgEl) rfl (.tmp 68) (.tmp 70) _ rfl tMsgs (D' := fun b => R b ∨ (Value.slice p1 n1 d1).ownBlock = some b ∨ (Value.slice p2 n2 d2).ownBlock = some b) vo ol rfl T8.out.ho w6.heap.size _ ⟨low, high, bd, 0, 0, false, []⟩ rfl ⟨_, _, G8.out⟩ ⟨_, _, _, rfl, BLA.out, BLB.out, SV.nilv _ _ _⟩ (fun b h _ => ⟨h, (hR8.out b h).2.2.1⟩) hby (by decide) HB8.out ?_)
    intro v9 w9 o9 k9 hb9
    have hb9 : ∀ b, v9.ownBlock = some b → vo.ownBlock = some b ∨ ((w6.setCell ⟨bm, 5, none⟩ (.bool false)).alloc (msgObj (.slice p1 n1 d1) (.slice p2 n2 d2) bd 0 0 false (.slice none 0 0))).heap.size ≤ b := fun b e => by have := hb9 b e; simpa using this
    have T9 := Lib.hid (T8.out.say k9 o9 hb9)
    have LV := Lib.hid o9.lt
    obtain ⟨a9, n9, c9, rfl⟩ := o9.slice'
    have no9 : ∀ b, b < c.B → vo.ownBlock ≠ some b := fun b hb e => by have := (T8.out.ho.lt b e).1; omega
    have q9 : w9.heap[c.q4]? = some (.cells #[vo] 85) := k9.obj (no9 _ T8.out.lt.2.2.1) T8.out.h4
    have z9 : w9.cell? ⟨c.q4, 0, none⟩ = some vo := by simp [World.cell?, q9]
    have f9 : w9.frozen? ⟨c.q4, 0, none⟩ = false := by simp [World.frozen?, q9]
    have gm9 := k9.obj (p := bm) lT.out.2.2.1 GM8.out
    have m9 : w9.cell? ⟨bm, 5, none⟩ = some (.bool false) := by simp [World.cell?, gm9]
    have K9 := Lib.hid ((K8.out.mono (T := TalkS c vo vg vc) fun _ h => h.elim).trans k9 fun b h => .inl (.inr (.inr (.inr (.inl h)))))
    have K9' := Lib.hid (K9.out.setCell (p := ⟨c.q4, 0, none⟩) (.inl (.inl rfl)) (.slice a9 n9 c9))
    have HB9 := Lib.hid hb9
    have Y9 := Lib.hid (k9.obj (p := w.heap.size) (fun e => by have := (H.out.ho.lt _ e).2; omega) (((Kept.refl Noneof (w6.setCell ⟨bm, 5, none⟩ (.bool false))).alloc (msgObj (.slice p1 n1 d1) (.slice p2 n2 d2) bd 0 0 false (.slice none 0 0))).obj (fun h => h) (((Kept.refl (fun b => b = bm) w6).setCell (p := ⟨bm, 5, none⟩) (.inl rfl) (.bool false)).obj (p := w.heap.size) (fun e => hbm1 e.symm) Y6.out)))
    clear o9 k9 hb9 q9 gm9 no9)
      go_wp2_with fail
      (
    have KQ := (Kept.refl (fun b => b = c.q4) w9).setCell (p := ⟨c.q4, 0, none⟩) (.inl rfl) (.slice a9 n9 c9)
    have Y10 := Lib.hid (KQ.obj (p := w.heap.size) (by have := H.out.lt; have := H.out.hB; omega) Y9.out)
    generalize w9.setCell ⟨c.q4, 0, none⟩ (.slice a9 n9 c9) = w10 at *
    have T10 := T9
    have K10 := K9'
    clear KQ z9 f9 m9 K9 T9 K9' Y9
    have h10 := T10.out
    have z5' : w10.cell? ⟨c.q5, 0, none⟩ = some vg := by simp [World.cell?, h10.h5]
    have z3' : w10.cell? ⟨c.q3, 0, none⟩ = some (bp c.m2) := by simp [World.cell?, h10.h3]
    have y10 := Y10.out
    have y0' : w10.cell? ⟨w.heap.size, 0, none⟩ = some (.slice a1 low.length c1) := by simp [World.cell?, y10]
    have y1' : w10.cell? ⟨w.heap.size, 1, none⟩ = some (.slice a2 high.length c2) := by simp [World.cell?, y10]
    have y2' : w10.cell? ⟨w.heap.size, 2, none⟩ = some (.bool bd) := by simp [World.cell?, y10]
    have HW6 := Lib.hid (show w.heap.size ≤ w6.heap.size from K6.out.size)
    clear h10 y10 m0 m1 m2 m3 m4 m5 m6 mf y0 y1 y2 z2 z3 z4 z5
    refine wp_region_chain 5 [3, 4] (fun w' => w'.cell? ⟨c.q5, 0, none⟩ = some vg ∧ w'.cell? ⟨c.q3, 0, none⟩ = some (bp c.m2) ∧ w'.cell? ⟨w.heap.size, 0, none⟩ = some (.slice a1 low.length c1) ∧ w'.cell? ⟨w.heap.size, 1, none⟩ = some (.slice a2 high.length c2) ∧ w'.cell? ⟨w.heap.size, 2, none⟩ = some (.bool bd)) (by kernel_rfl) (by kernel_rfl) ?_ ?_
    · exact ⟨z5', z3', y0', y1', y2'⟩
    simp only [List.take_succ_cons, List.take_zero, List.drop_succ_cons, List.drop_zero]
    iterate 3 (refine SeqY.val (v := ?_) (by rfl) (by rfl) (fun wx hSw => ?_) ?_; rotate_left; (focus ((try dsimp only at hSw); go_simp; (try with_reducible rfl))); (try simp only [Act.put, List.setIfInBounds_toArray, List.set_cons_zero, List.set_cons_succ]))
    refine SeqY.act (by rfl) rfl (by rfl) (by rfl) (fun K hK => ?_)
    go_simp
    have nS : ∀ b, R b → b < w.heap.size → ¬ TalkS c vo vg vc b := fun b hb _ e => by
      have := H.out.hR b hb
      rcases e with e | e | e | e | e | e
      · exact this.2.1.1 e
      · exact this.2.1.2.1 e
      · exact this.2.1.2.2 e
      · exact this.2.2.1 e
      · exact this.2.2.2.1 e
      · exact this.2.2.2.2 e
    refine (swkeys_calls (w := w10.drew) (T10.out.hm.at rfl) HU.out HG.out ((H1.out.kept byteEl_k K10.out nS).at rfl) ((H2.out.kept byteEl_k K10.out nS).at rfl)).mono ?_
    rintro e w11 ⟨v11, rfl, o11, k11⟩
    have k11 : Kept Noneof w10 w11 := ⟨k11.os, k11.tape, k11.output, k11.size, k11.block⟩
    have o11 : Own 31 bytesEl (fun b => w10.heap.size ≤ b) w10.heap.size w11 v11 (spanKeys u.pairs low high bd) := o11
    refine hK.out _ _ ⟨k11.cell (p := ⟨c.q5, 0, none⟩) (fun h => h) z5', k11.cell (p := ⟨c.q3, 0, none⟩) (fun h => h) z3', k11.cell (p := ⟨w.heap.size, 0, none⟩) (fun h => h) y0', k11.cell (p := ⟨w.heap.size, 1, none⟩) (fun h => h) y1', k11.cell (p := ⟨w.heap.size, 2, none⟩) (fun h => h) y2'⟩ ?_
    have t10 := T10.out
    have T11 := Lib.hid ((t10.kept0 k11).wide (R' := fun b => (R b ∨ (Value.slice p1 n1 d1).ownBlock = some b ∨ (Value.slice p2 n2 d2).ownBlock = some b) ∨ w10.heap.size ≤ b ∧ b < w11.heap.size) (fun b h => .inl h) fun b h => h.imp id fun h => ⟨h.2, by have := t10.hB; omega, fun e => by have := (t10.ho.lt b e).2; omega, fun e => by have := (t10.hg.lt b e).2; omega, fun e => by have := (t10.hc.lt b e).2; omega⟩)
    have S11 := Lib.hid (show SV bytesEl (fun b => w10.heap.size ≤ b ∧ b < w11.heap.size) w11 v11 (spanKeys u.pairs low high bd) from (o11.sv.bd bytesEl_k).wide bytesEl_k fun b h _ => by omega)
    have K11 := Lib.hid (K10.out.trans k11 fun _ h => h.elim)
    have K11n := Lib.hid k11
    have hkl : (spanKeys u.pairs low high bd).length ≤ 1000000 := by
      unfold spanKeys
      rw [List.length_map]
      exact Nat.le_trans (List.length_filter_le _ _) (by rw [Tr.pairs_len]; exact HU.out)
    have hby2 : (gl.length + (spanKeys u.pairs low high bd).length) * 24 ≤ 140737488355328 := by have := BG.out; omega
    have hR11 := Lib.hid T11.out.hR
    obtain ⟨a11, n11, c11, rfl⟩ := o11.slice'
    have hs10 := k11.size
    clear K hK o11 k11 t10 nS
    (try simp only [Act.put, List.setIfInBounds_toArray, List.set_cons_zero, List.set_cons_succ])
    refine SeqY.act (by rfl) rfl (by rfl) (by rfl) (fun K hK => ?_)
    refine wp_app_list (E := bytesEl) (.tmp 75) (.tmp 78) _ rfl tRows (D' := fun b => w10.heap.size ≤ b ∧ b < w11.heap.size) vg gl rfl T11.out.hg _ _ rfl S11.out (fun b h _ => ⟨.inr h, (hR11.out b (.inr h)).2.2.2.1⟩) hby2 (by decide) T11.out.hB ?_
    intro v12 w12 o12 k12 hb12
    have t11 := T11.out
    have lg := t11.hg.lt
    have lt := t11.lt
    have T12 := Lib.hid (t11.go k12 o12 hb12)
    have ng : ∀ b, b < c.B → vg.ownBlock ≠ some b := fun b hb e => by have := (lg b e).1; omega
    have nw : vg.ownBlock ≠ some w.heap.size := fun e => by have := (H.out.hg.lt _ e).2; omega
    have h5 := k12.obj (ng _ lt.2.2.2.1) t11.h5
    have h3 := k12.obj (ng _ lt.2.1) t11.h3
    have y12 := k12.obj (p := w.heap.size) nw (K11n.out.obj (fun h => h) Y10.out)
    have z12 : w12.cell? ⟨c.q5, 0, none⟩ = some vg := by simp [World.cell?, h5]
    have f12 : w12.frozen? ⟨c.q5, 0, none⟩ = false := by simp [World.frozen?, h5]
    refine hK.out _ _ ⟨z12, by simp [World.cell?, h3], by simp [World.cell?, y12], by simp [World.cell?, y12], by simp [World.cell?, y12]⟩ ?_
    have K12 := Lib.hid (K11.out.trans k12 fun b h => .inl (.inr (.inr (.inr (.inr (.inl h))))))
    obtain ⟨a12, n12, c12, rfl⟩ := o12.slice'
    have HB12 := Lib.hid hb12
    clear K hK o12 k12 t11 h5 h3 y12 hb12
    (try simp only [Act.put, List.setIfInBounds_toArray, List.set_cons_zero, List.set_cons_succ])
    refine SeqY.nil ?_
    go_wp2
    refine bodyPost_ret (results_none rfl _ _ _) rfl ?_
    have q1 : talk seed u .nil low high bd = [⟨low, high, bd, 0, 0, false, []⟩] := by simp only [talk, hs]
    have q2 : gones seed u .nil low high bd = spanKeys u.pairs low high bd := by simp only [gones, hs, if_neg, Bool.false_eq_true, not_false_eq_true]
    have q3 : comes seed u .nil low high bd = [] := rfl
    rw [q1, q2, q3, List.append_nil]
    have TF := T12.out
    have hw := HW6.out
    have hw10 := K10.out.size
    exact ⟨⟨_, rfl⟩, _, _, _, vc, TF, fun b h => .inl (.inl h), K12.out.setCell (p := ⟨c.q5, 0, none⟩) (.inl (.inr (.inl rfl))) _, fun b => ⟨fun e => (HB9.out b e).imp id fun h => by have := K8.out.size; omega, fun e => (HB12.out b e).imp id fun h => by omega, fun h => .inl h⟩⟩)
    | true =>
      have hs : sameAt seed u .nil low high bd = true := by simp only [sameAt, Tr.size, Tr.dg, g1, g2, Bool.and_self]
      (
    have M7 := (Kept.refl (fun b => b = bm) w6).setCell (p := ⟨bm, 5, none⟩) (.inl rfl) (.bool true)
    have T7 := T6.out.kept M7 fun b e => by subst e; exact lT.out
    have OA7 := OA6.out.kept M7 fun b hb _ => ⟨fun h => h.elim, fun e => by have hb : b = bm := hb; subst hb; exact nA.out e⟩
    have OB7 := OB6.out.kept M7 fun b hb _ => ⟨fun h => h.elim, fun e => by have hb : b = bm := hb; subst hb; exact nB.out e⟩
    have GM7 := setCell_obj GM6.out (.bool true) (j := 5)
    have A7 := (Kept.refl Noneof (w6.setCell ⟨bm, 5, none⟩ (.bool true))).alloc (msgObj (.slice p1 n1 d1) (.slice p2 n2 d2) bd 0 0 true (.slice none 0 0))
    have G8 := heap_alloc_new (w6.setCell ⟨bm, 5, none⟩ (.bool true)) (msgObj (.slice p1 n1 d1) (.slice p2 n2 d2) bd 0 0 true (.slice none 0 0))
    rw [show (w6.setCell ⟨bm, 5, none⟩ (.bool true)).heap.size = w6.heap.size by simp] at G8
    have G8 := Lib.hid G8
    have OA8 := Lib.hid (OA7.kept A7 fun _ h => h.elim)
    have OB8 := Lib.hid (OB7.kept A7 fun _ h => h.elim)
    have GM8 := Lib.hid (A7.obj (fun h => h) GM7)
    have K8 := Lib.hid ((K6.out.trans M7 fun b e => .inr (by have := HBM.out; have := S0.out; omega)).trans A7 fun _ h => h.elim)
    have T8 := Lib.hid ((T7.kept0 A7).wide (R' := fun b => R b ∨ (Value.slice p1 n1 d1).ownBlock = some b ∨ (Value.slice p2 n2 d2).ownBlock = some b) (fun b h => .inl h) (by
      have t := H.out
      have e3 := t.hB
      have e2 := S0.out
      have la := OA8.out.lt
      have lb := OB8.out.lt
      have far : ∀ b, w1.heap.size ≤ b → b < ((w6.setCell ⟨bm, 5, none⟩ (.bool true)).alloc (msgObj (.slice p1 n1 d1) (.slice p2 n2 d2) bd 0 0 true (.slice none 0 0))).heap.size → b < ((w6.setCell ⟨bm, 5, none⟩ (.bool true)).alloc (msgObj (.slice p1 n1 d1) (.slice p2 n2 d2) bd 0 0 true (.slice none 0 0))).heap.size ∧ c.B ≤ b ∧ vo.ownBlock ≠ some b ∧ vg.ownBlock ≠ some b ∧ vc.ownBlock ≠ some b := fun b h1 h2 => ⟨h2, by omega, fun e => by have := (t.ho.lt b e).2; omega, fun e => by have := (t.hg.lt b e).2; omega, fun e => by have := (t.hc.lt b e).2; omega⟩
      rintro b (h | h | h)
      · exact .inl h
      · exact .inr (far b (la b h).1 (la b h).2)
      · exact .inr (far b (lb b h).1 (lb b h).2)))
    have hR8 := Lib.hid T8.out.hR
    have hB8 := T8.out.hB
    have bo := BO.out
    have BLA := Lib.hid (OA8.out.rd (D' := fun b => R b ∨ (Value.slice p1 n1 d1).ownBlock = some b ∨ (Value.slice p2 n2 d2).ownBlock = some b) (fun _ h => h.elim) fun b h => .inr (.inl h))
    have BLB := Lib.hid (OB8.out.rd (D' := fun b => R b ∨ (Value.slice p1 n1 d1).ownBlock = some b ∨ (Value.slice p2 n2 d2).ownBlock = some b) (fun _ h => h.elim) fun b h => .inr (.inr h))
    have HB8 := Lib.hid hB8
    have hby : (ol.length + 1) * 104 ≤ 140737488355328 := by omega
    clear M7 T7 OA7 OB7 GM7 A7 hB8 bo
    go_wp2_with (at_builtin; refine wl_app_one (E := msgEl) rfl (.tmp 68) (.tmp 70) _ rfl tMsgs (D' := fun b => R b ∨ (Value.slice p1 n1 d1).ownBlock = some b ∨ (Value.slice p2 n2 d2).ownBlock = some b) vo ol rfl T8.out.ho w6.heap.size _ ⟨low, high, bd, 0, 0, true, []⟩ rfl ⟨_, _, G8.out⟩ ⟨_, _, _, rfl, BLA.out, BLB.out, SV.nilv _ _ _⟩ (fun b h _ => ⟨h, (hR8.out b h).2.2.1⟩) hby (by decide) HB8.out ?_)
    intro v9 w9 o9 k9 hb9
    have hb9 : ∀ b, v9.ownBlock = some b → vo.ownBlock = some b ∨ ((w6.setCell ⟨bm, 5, none⟩ (.bool true)).alloc (msgObj (.slice p1 n1 d1) (.slice p2 n2 d2) bd 0 0 true (.slice none 0 0))).heap.size ≤ b := fun b e => by have := hb9 b e; simpa using this
    have T9 := Lib.hid (T8.out.say k9 o9 hb9)
    have LV := Lib.hid o9.lt
    obtain ⟨a9, n9, c9, rfl⟩ := o9.slice'
    have no9 : ∀ b, b < c.B → vo.ownBlock ≠ some b := fun b hb e => by have := (T8.out.ho.lt b e).1; omega
    have q9 : w9.heap[c.q4]? = some (.cells #[vo] 85) := k9.obj (no9 _ T8.out.lt.2.2.1) T8.out.h4
    have z9 : w9.cell? ⟨c.q4, 0, none⟩ = some vo := by simp [World.cell?, q9]
    have f9 : w9.frozen? ⟨c.q4, 0, none⟩ = false := by simp [World.frozen?, q9]
    have gm9 := k9.obj (p := bm) lT.out.2.2.1 GM8.out
    have m9 : w9.cell? ⟨bm, 5, none⟩ = some (.bool true) := by simp [World.cell?, gm9]
    have K9 := Lib.hid ((K8.out.mono (T := TalkS c vo vg vc) fun _ h => h.elim).trans k9 fun b h => .inl (.inr (.inr (.inr (.inl h)))))
    have K9' := Lib.hid (K9.out.setCell (p := ⟨c.q4, 0, none⟩) (.inl (.inl rfl)) (.slice a9 n9 c9))
    have HB9 := Lib.hid hb9
    have Y9 := Lib.hid (k9.obj (p := w.heap.size) (fun e => by have := (H.out.ho.lt _ e).2; omega) (((Kept.refl Noneof (w6.setCell ⟨bm, 5, none⟩ (.bool true))).alloc (msgObj (.slice p1 n1 d1) (.slice p2 n2 d2) bd 0 0 true (.slice none 0 0))).obj (fun h => h) (((Kept.refl (fun b => b = bm) w6).setCell (p := ⟨bm, 5, none⟩) (.inl rfl) (.bool true)).obj (p := w.heap.size) (fun e => hbm1 e.symm) Y6.out)))
    clear o9 k9 hb9 q9 gm9 no9)
      go_wp2
      refine bodyPost_ret (results_none rfl _ _ _) rfl ?_
      have q1 : talk seed u .nil low high bd = [⟨low, high, bd, 0, 0, true, []⟩] := by simp only [talk, hs]
      have q2 : gones seed u .nil low high bd = [] := by simp only [gones, hs, if_pos]
      have q3 : comes seed u .nil low high bd = [] := rfl
      rw [q1, q2, q3, List.append_nil, List.append_nil]
      have TF := T9.out
      exact ⟨⟨_, rfl⟩, _, _, vg, vc, TF, fun b h => .inl h, K9'.out, fun b => ⟨fun e => (HB9.out b e).imp id fun h => by have := K8.out.size; omega, fun h => .inl h, fun h => .inl h⟩⟩
end Go.Proofs.Ytaopjdjbpamhhaa
