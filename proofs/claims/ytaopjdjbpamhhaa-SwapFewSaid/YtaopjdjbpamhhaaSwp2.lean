/- Proved: contract of swap's span.parts. Conditions: bytes in memory. -/
import Derived.Test.YtaopjdjbpamhhaaSwp1
import Derived.Test.YtaopjdjbpamhhaaZrow
namespace Go.Proofs.Ytaopjdjbpamhhaa
open Go Go.RowKit
set_option linter.unusedVariables false
set_option linter.unusedSimpArgs false

theorem SeqL.act0 {P : Program} {ops : Array Oper} {Ext : World → World → Prop} {w0 : World} {K : Nat → Kd} {Fin : Act → Prop} {k : Nat} {o : Oper} {rest : List Oper} {a : Act} {Φ : World → Prop} (hK : K k = .act (fun _ => True) (fun _ w => Φ w)) (hd : o.dst = none) (hw : Region.wanted o (yielded ops a.tmps) = true)
    (h : ∀ w, Ext w0 w → (∀ j, j < k → waits ops k j = true → Held ops Ext w0 K j a w) → ∀ K' : Act → World → Prop, Hid (∀ w', Ext w w' → Φ w' → K' a w') → o.wp P a w K' (fun _ _ _ => False))
    (hn : SeqL P ops Ext w0 K Fin (k + 1) rest a) : SeqL P ops Ext w0 K Fin k (o :: rest) a := by
  refine ⟨fun _ => True, ?_, fun u _ => by rw [hd]; exact hn⟩
  unfold Spec
  rw [if_pos hw, hK]
  exact ⟨⟨undef, trivial⟩, rfl, fun w hc => (Res.of0 (R := fun w' => Ext w w' ∧ Φ w') hd (h w hc.1 hc.2 _ (fun w' hx hΦ => ⟨rfl, hx, hΦ⟩))).mono fun u w' h => ⟨trivial, h.1, h.2⟩⟩
theorem results_cell_row2 {P : Program} {fn : Func} {p q : Tmp} {ty : TypeId} (h : fn.results = #[.cell p ty, .cell q ty]) (tmps : Array Value) (w : World) (g g' : Nat) (t t' : TypeId) (cs cs' : Array Value) (fr fr' : Nat × Nat) (d : TypeDesc)
    (hp : tmps.getD p undef = .pointer (some ⟨g, 0, none⟩)) (hg : w.heap[g]? = some (.cells cs t fr)) (hq : tmps.getD q undef = .pointer (some ⟨g', 0, none⟩)) (hg' : w.heap[g']? = some (.cells cs' t' fr'))
    (hu : P.underlying ty = some d) (hd : (match d with | .struct _ | .array _ _ => true | _ => false) = true) (hi : (P.info? ty).map (·.size) = some cs.size) (hi' : (P.info? ty).map (·.size) = some cs'.size) :
    (results fn tmps).run P w = .ok (.tuple #[.agg cs, .agg cs']) w := by
  have hp' : tmps[p]?.getD undef = .pointer (some ⟨g, 0, none⟩) := by simpa using hp
  have hq' : tmps[q]?.getD undef = .pointer (some ⟨g', 0, none⟩) := by simpa using hq
  simp [results, h, hp', hq', asAddr, Sem.run_bind, Result.andThen, run_loadVar_row w g t ty cs fr d hg hu hd hi, run_loadVar_row w g' t' ty cs' fr' d hg' hu hd hi']

/-- Only one block changes, once, to an object. -/
def OnceTo (b : Nat) (o : Obj) (A B : World) : Prop := Kept (fun x => x = b) A B ∧ (B.heap[b]? = A.heap[b]? ∨ B.heap[b]? = some o)
theorem OnceTo.refl (b : Nat) (o : Obj) (A : World) : OnceTo b o A A := ⟨Kept.refl _ _, .inl rfl⟩
theorem OnceTo.trans {b : Nat} {o : Obj} {A B C : World} (h : OnceTo b o A B) (k : OnceTo b o B C) : OnceTo b o A C :=
  ⟨h.1.tr k.1, by
    rcases k.2 with e | e
    · rcases h.2 with f | f
      · exact .inl (e.trans f)
      · exact .inr (e.trans f)
    · exact .inr e⟩
theorem OnceTo.of {b : Nat} {o : Obj} {A B : World} (hb : b < A.heap.size) (h : Kept Noneof A B) : OnceTo b o A B := ⟨h.mono fun _ h => h.elim, .inl (h.block b hb fun h => h)⟩

theorem bv_zero {B g : Nat} {w : World} {t : TypeId} (h : w.heap[g]? = some (.cells #[.int .u8 0] t)) (hB : B ≤ g) : BV (fun b => B ≤ b) w (.slice (some ⟨g, 0, none⟩) 1 1) [0] := by
  refine ⟨_, _, rfl, ⟨by simp, fun h => by cases h⟩, by simp, fun i hi => ?_⟩
  obtain rfl : i = 0 := by simpa using hi
  refine ⟨g, 0, [.int .u8 0], rfl, hB, fun j hj => ?_, rfl⟩
  obtain rfl : j = 0 := by simpa using hj
  simp [World.cell?, h, byteEl]

set_option maxRecDepth 100000 in
set_option maxHeartbeats 2000000 in
theorem swspan_parts_calls {D1 D2 D3 : Nat → Prop} {lo hi kv : Value} {low high key : Bts} {bd : Bool} {w : World} (h1 : BV D1 w lo low) (h2 : BV D2 w hi high) (h3 : BV D3 w kv key) (hk : 1 ≤ key.length ∧ key.length ≤ 1000) :
    Calls Try.prog 120 #[.agg #[lo, hi, .bool bd], kv] w fun e w' => ∃ nv, e = .returned (.tuple #[.agg #[lo, kv, .bool true], .agg #[nv, hi, .bool bd]]) ∧ BV (fun b => w.heap.size ≤ b) w' nv (key ++ [0]) ∧ Kept Noneof w w' := by
  have H3 := Lib.hid h3
  have HK := Lib.hid hk
  obtain ⟨a1, c1, rfl, _⟩ := h1
  obtain ⟨a2, c2, rfl, _⟩ := h2
  obtain ⟨a3, c3, rfl, _⟩ := h3
  clear hk
  go_enter Try.func120, Try.ntmps120
  go_wp2_with fail
  have G0 := heap_alloc_new w (.cells #[.slice a1 low.length c1, .slice a2 high.length c2, .bool bd] 170)
  have K0 := (Kept.refl Noneof w).alloc (.cells #[.slice a1 low.length c1, .slice a2 high.length c2, .bool bd] 170)
  have s0 : (w.alloc (.cells #[.slice a1 low.length c1, .slice a2 high.length c2, .bool bd] 170)).heap.size = w.heap.size + 1 := by simp
  generalize w.alloc (.cells #[.slice a1 low.length c1, .slice a2 high.length c2, .bool bd] 170) = wa at *
  have G4 := heap_alloc_new wa (.cells #[.slice none 0 0, .slice none 0 0, .bool false] 170)
  have K4 := (Kept.refl Noneof wa).alloc (.cells #[.slice none 0 0, .slice none 0 0, .bool false] 170)
  have s4 : (wa.alloc (.cells #[.slice none 0 0, .slice none 0 0, .bool false] 170)).heap.size = w.heap.size + 2 := by simp [s0]
  generalize wa.alloc (.cells #[.slice none 0 0, .slice none 0 0, .bool false] 170) = wb at *
  have G5 := heap_alloc_new wb (.cells #[.slice none 0 0, .slice none 0 0, .bool false] 170)
  have K5 := (Kept.refl Noneof wb).alloc (.cells #[.slice none 0 0, .slice none 0 0, .bool false] 170)
  have s5 : (wb.alloc (.cells #[.slice none 0 0, .slice none 0 0, .bool false] 170)).heap.size = w.heap.size + 3 := by simp [s4]
  generalize wb.alloc (.cells #[.slice none 0 0, .slice none 0 0, .bool false] 170) = w1 at *
  have G0 := Lib.hid (K5.obj (fun h => h) (K4.obj (fun h => h) G0))
  have G4 := Lib.hid (K5.obj (fun h => h) G4)
  have G5 := Lib.hid G5
  have K1 := Lib.hid ((K0.trans K4 fun _ h => h.elim).trans K5 fun _ h => h.elim)
  have e0 : wa.heap.size = w.heap.size + 1 := s0
  have e4 : wb.heap.size = w.heap.size + 2 := s4
  rw [e0] at G4
  rw [e4] at G5
  clear K0 K4 K5 s0 s4 e0 e4
  obtain ⟨F4, hF4⟩ : ∃ F4 : Obj, F4 = .cells #[.slice a1 low.length c1, .slice a3 key.length c3, .bool true] 170 := ⟨_, rfl⟩
  refine wp_region_grow 14 [(5, .act IsSlice fun u wx => RowZ w1.heap.size wx u key), (6, .act IsSlice fun u wx => BV (fun b => w1.heap.size ≤ b) wx u [0]), (7, .act IsSlice fun u wx => RowZ w1.heap.size wx u (key ++ [0])), (13, .act (fun _ => True) fun _ wx => wx.heap[w.heap.size + 1]? = some F4)] (OnceTo (w.heap.size + 1) F4) (OnceTo.refl _ _) OnceTo.trans (OnceTo.of (by omega) (Kept.drew1 _ _)) (by kernel_rfl) (by kernel_rfl) (by kernel_rfl) ?_
  simp only [List.take_succ_cons, List.take_zero, List.drop_succ_cons, List.drop_zero]
  have hS : ∀ w', OnceTo (w.heap.size + 1) F4 w1 w' → w'.cell? ⟨w.heap.size, 0, none⟩ = some (.slice a1 low.length c1) ∧ w'.cell? ⟨w.heap.size, 1, none⟩ = some (.slice a2 high.length c2) ∧ w'.cell? ⟨w.heap.size, 2, none⟩ = some (.bool bd) := fun w' k => by
    have := k.1.obj (p := w.heap.size) (by omega) G0.out
    simp [World.cell?, this]
  iterate 5 (refine SeqL.val (v := ?_) hS rfl (by rfl) (fun wx hSw => ?_) ?_; rotate_left; (focus ((try dsimp only at hSw); go_simp; (try with_reducible rfl))); (try simp only [Act.put, List.setIfInBounds_toArray, List.set_cons_zero, List.set_cons_succ]))
  refine SeqL.act rfl rfl (by rfl) (by rfl) isSlice (fun wx hx hh K hK => ?_) (fun u1 hu1 => ?_)
  · go_simp
    refine (byClone_zero (H3.out.kept byteEl_k (K1.out.trans (T := fun b => b = w.heap.size + 1) hx.1 fun b h => .inr (by omega)) fun _ _ _ h => h) (fun e => by have := HK.out; rw [e] at this; simp at this)).mono ?_
    rintro e w2 ⟨v', rfl, o1, k1⟩
    exact hK.out v' w2 o1.slice' (OnceTo.of (by have := hx.1.size; omega) k1) (o1.base hx.1.size)
  obtain ⟨b1, n1', c1', rfl⟩ := hu1
  (try simp only [Act.put, List.setIfInBounds_toArray, List.set_cons_zero, List.set_cons_succ])
  refine SeqL.act rfl rfl (by rfl) (by rfl) isSlice (fun wx hx hh K hK => ?_) (fun u1 hu1 => ?_)
  · go_simp
    have gz := heap_alloc_new wx (.cells #[.int .u8 0] 5)
    refine hK.out _ _ ⟨_, _, _, rfl⟩ (OnceTo.of (by have := hx.1.size; omega) ((Kept.refl _ _).alloc _)) (bv_zero gz hx.1.size)
  obtain ⟨b2, n2', c2', rfl⟩ := hu1
  (try simp only [Act.put, List.setIfInBounds_toArray, List.set_cons_zero, List.set_cons_succ])
  refine SeqL.act rfl rfl (by rfl) (by rfl) isSlice (fun wx hx hh K hK => ?_) (fun u1 hu1 => ?_)
  · obtain ⟨wy, _, o5, hxy⟩ := hh 5 (by decide) (by kernel_rfl) _ _ _ rfl rfl
    obtain ⟨wz, _, o6, hxz⟩ := hh 6 (by decide) (by kernel_rfl) _ _ _ rfl rfl
    refine wp_app_z (.tmp 11) (.tmp 12) _ rfl tBytes _ key rfl (RowZ.kept o5 hxy.1 fun b h1 _ h2 => by omega) _ [0] rfl (SV.kept byteEl_k o6 hxz.1 fun b h1 _ h2 => by have : w1.heap.size ≤ b := h1; omega) (by simp) (fun _ _ _ _ => rfl) (by have := HK.out; simp; omega) hx.1.size ?_
    rintro v' w' o4 k4
    exact hK.out _ _ o4.slice' (OnceTo.of (by have := hx.1.size; omega) k4) o4
  obtain ⟨b4, n4', c4', rfl⟩ := hu1
  (try simp only [Act.put, List.setIfInBounds_toArray, List.set_cons_zero, List.set_cons_succ])
  iterate 5 (refine SeqL.val (v := ?_) hS rfl (by rfl) (fun wx hSw => ?_) ?_; rotate_left; (focus ((try dsimp only at hSw); go_simp; (try with_reducible rfl))); (try simp only [Act.put, List.setIfInBounds_toArray, List.set_cons_zero, List.set_cons_succ]))
  refine SeqL.act0 rfl rfl (by rfl) (fun wx hx hh K hK => ?_) ?_
  · have G : ∃ x0 x1 x2, wx.heap[w.heap.size + 1]? = some (.cells #[x0, x1, x2] 170) := by
      rcases hx.2 with e | e
      · exact ⟨_, _, _, e.trans G4.out⟩
      · exact ⟨_, _, _, by rw [e, hF4]⟩
    obtain ⟨x0, x1, x2, G⟩ := G
    have f0 : wx.cell? ⟨w.heap.size + 1, 0, none⟩ = some x0 := by simp [World.cell?, G]
    have f1 : wx.cell? ⟨w.heap.size + 1, 1, none⟩ = some x1 := by simp [World.cell?, G]
    have f2 : wx.cell? ⟨w.heap.size + 1, 2, none⟩ = some x2 := by simp [World.cell?, G]
    have ff : ∀ j, wx.frozen? ⟨w.heap.size + 1, j, none⟩ = false := fun j => by simp [World.frozen?, G]
    go_simp
    have GF := setCell_obj (setCell_obj (setCell_obj G (.slice a1 low.length c1) (j := 0)) (.slice a3 key.length c3) (j := 1)) (.bool true) (j := 2)
    have KF := (((Kept.refl (fun x => x = w.heap.size + 1) wx).setCell (p := ⟨w.heap.size + 1, 0, none⟩) (.inl rfl) (.slice a1 low.length c1)).setCell (p := ⟨w.heap.size + 1, 1, none⟩) (.inl rfl) (.slice a3 key.length c3)).setCell (p := ⟨w.heap.size + 1, 2, none⟩) (.inl rfl) (.bool true)
    refine hK.out _ ⟨KF, .inr ?_⟩ ?_
    · rw [hF4]; exact GF
    · rw [hF4]; exact GF
  refine SeqL.nil fun wz hz hh => ?_
  obtain ⟨wa, _, oa, ka⟩ := hh 7 (by decide) _ _ _ rfl rfl
  obtain ⟨wb, _, ob, kb⟩ := hh 13 (by decide) _ _ _ rfl rfl
  have GZ := Lib.hid (show wz.heap[w.heap.size + 1]? = some (.cells #[.slice a1 low.length c1, .slice a3 key.length c3, .bool true] 170) by
    rcases kb.2 with e | e
    · rw [e, ← hF4]; exact ob
    · rw [e, hF4])
  have OA := Lib.hid (show RowZ w1.heap.size wz (.slice b4 n4' c4') (key ++ [0]) from RowZ.kept oa ka.1 fun b h1 _ h2 => by omega)
  have G5z := Lib.hid (hz.1.obj (p := w.heap.size + 2) (by omega) G5.out)
  have KZ := Lib.hid (K1.out.trans (T := fun b => b = w.heap.size + 1) hz.1 fun b h => .inr (by omega))
  clear hh hS oa ob ka kb hz
  have f0 : wz.cell? ⟨w.heap.size + 2, 0, none⟩ = some (.slice none 0 0) := by simp [World.cell?, G5z.out]
  have f1 : wz.cell? ⟨w.heap.size + 2, 1, none⟩ = some (.slice none 0 0) := by simp [World.cell?, G5z.out]
  have f2 : wz.cell? ⟨w.heap.size + 2, 2, none⟩ = some (.bool false) := by simp [World.cell?, G5z.out]
  have ff : ∀ j, wz.frozen? ⟨w.heap.size + 2, j, none⟩ = false := fun j => by simp [World.frozen?, G5z.out]
  go_wp2
  have KS := (((Kept.refl (fun x => x = w.heap.size + 2) wz).setCell (p := ⟨w.heap.size + 2, 0, none⟩) (.inl rfl) (.slice b4 n4' c4')).setCell (p := ⟨w.heap.size + 2, 1, none⟩) (.inl rfl) (.slice a2 high.length c2)).setCell (p := ⟨w.heap.size + 2, 2, none⟩) (.inl rfl) (.bool bd)
  have GF := setCell_obj (setCell_obj (setCell_obj G5z.out (.slice b4 n4' c4') (j := 0)) (.slice a2 high.length c2) (j := 1)) (.bool bd) (j := 2)
  have GZ' := KS.obj (p := w.heap.size + 1) (by omega) GZ.out
  generalize ((wz.setCell ⟨w.heap.size + 2, 0, none⟩ (.slice b4 n4' c4')).setCell ⟨w.heap.size + 2, 1, none⟩ (.slice a2 high.length c2)).setCell ⟨w.heap.size + 2, 2, none⟩ (.bool bd) = wf at *
  refine bodyPost_ret (results_cell_row2 rfl _ _ (w.heap.size + 1) (w.heap.size + 2) _ _ _ _ (0, 0) (0, 0) _ rfl GZ' rfl GF Try.underlying170 rfl (by kernel_rfl) (by kernel_rfl)) rfl ?_
  exact ⟨_, rfl, ((OA.out.bv).kept byteEl_k KS fun b h _ e => by have : w1.heap.size ≤ b := h.1; omega).wide byteEl_k fun b h _ => by omega, KZ.out.trans KS fun b h => .inr (by omega)⟩
end Go.Proofs.Ytaopjdjbpamhhaa
