/- Proved: contracts of the map's functions node.pair, ordered and gather. Conditions: nodes as a tree in memory. -/
import Derived.Test.YtaopjdjbpamhhaaMap4
namespace Go.Proofs.Ytaopjdjbpamhhaa
open Go Go.RowKit
set_option linter.unusedVariables false
set_option linter.unusedSimpArgs false

set_option maxRecDepth 100000 in
set_option maxHeartbeats 1000000 in
theorem ornode_pair_calls {D : Nat → Prop} {w : World} {b : Nat} {kv vv : Value} {k v : Bts} (c0 : w.cell? ⟨b, 0, none⟩ = some kv) (c1 : w.cell? ⟨b, 1, none⟩ = some vv) (hk : BV D w kv k) (hv : BV D w vv v) :
    Calls Try.prog 159 #[.pointer (some ⟨b, 0, none⟩)] w fun e w' => ∃ k' v', e = .returned (.agg #[k', v']) ∧ BV (fun x => w.heap.size ≤ x) w' k' k ∧ BV (fun x => w.heap.size ≤ x) w' v' v ∧ Kept Noneof w w' := by
  have HK := Lib.hid hk
  have HV := Lib.hid hv
  have W0 := Lib.hid (Kept.refl Noneof w)
  clear hk hv
  go_enter Try.func159, Try.ntmps159
  go_wp2_with fail
  have G1 := heap_alloc_new w (.cells #[.slice none 0 0, .slice none 0 0] 70)
  have K1 := Lib.hid ((Kept.refl Noneof w).alloc (.cells #[.slice none 0 0, .slice none 0 0] 70))
  have hsz : w.heap.size < (w.alloc (.cells #[.slice none 0 0, .slice none 0 0] 70)).heap.size := block_lt G1
  generalize w.alloc (.cells #[.slice none 0 0, .slice none 0 0] 70) = w1 at *
  have HG := Lib.hid G1
  have HZ := Lib.hid hsz
  have d0 := K1.out.cell (p := ⟨b, 0, none⟩) (fun h => h) c0
  have d1 := K1.out.cell (p := ⟨b, 1, none⟩) (fun h => h) c1
  clear G1 hsz c0 c1
  refine wp_region_kept 11 [(4, .act IsSlice fun u wx => BV (fun x => w.heap.size < x) wx u k), (9, .act IsSlice fun u wx => BV (fun x => w.heap.size < x) wx u v)] Noneof (by kernel_rfl) (by kernel_rfl) (by kernel_rfl) ?_; simp only [List.take_succ_cons, List.take_zero, List.drop_succ_cons, List.drop_zero]
  have hS : ∀ w', Kept Noneof w1 w' → w'.cell? ⟨b, 0, none⟩ = some kv ∧ w'.cell? ⟨b, 1, none⟩ = some vv := fun w' q => ⟨q.cell (fun h => h) d0, q.cell (fun h => h) d1⟩
  iterate 4 (refine SeqL.val (v := ?_) hS rfl (by rfl) (fun wx hSw => ?_) ?_; rotate_left; (focus ((try dsimp only at hSw); go_simp; (try with_reducible rfl))); (try simp only [Act.put, List.setIfInBounds_toArray, List.set_cons_zero, List.set_cons_succ]))
  refine SeqL.act rfl rfl (by rfl) (by rfl) isSlice (fun wx hx hh K hK => ?_) (fun u1 hu1 => ?_)
  · go_simp
    refine (byClone_calls (HK.out.kept byteEl_k (K1.out.tr hx) fun _ _ _ h => h)).mono ?_
    rintro e w2 ⟨v', rfl, o1, k1⟩
    exact hK.out v' w2 o1.slice' k1 (o1.rd (fun _ h => h.elim) fun x h => Nat.lt_of_lt_of_le (Nat.lt_of_lt_of_le HZ.out hx.size) (o1.lt x h).1)
  obtain ⟨b1, n1', c1', rfl⟩ := hu1
  (try simp only [Act.put, List.setIfInBounds_toArray, List.set_cons_zero, List.set_cons_succ])
  iterate 4 (refine SeqL.val (v := ?_) hS rfl (by rfl) (fun wx hSw => ?_) ?_; rotate_left; (focus ((try dsimp only at hSw); go_simp; (try with_reducible rfl))); (try simp only [Act.put, List.setIfInBounds_toArray, List.set_cons_zero, List.set_cons_succ]))
  refine SeqL.act rfl rfl (by rfl) (by rfl) isSlice (fun wx hx hh K hK => ?_) (fun u1 hu1 => ?_)
  · go_simp
    refine (byClone_calls (HV.out.kept byteEl_k (K1.out.tr hx) fun _ _ _ h => h)).mono ?_
    rintro e w2 ⟨v', rfl, o1, k1⟩
    exact hK.out v' w2 o1.slice' k1 (o1.rd (fun _ h => h.elim) fun x h => Nat.lt_of_lt_of_le (Nat.lt_of_lt_of_le HZ.out hx.size) (o1.lt x h).1)
  obtain ⟨b2, n2', c2', rfl⟩ := hu1
  (try simp only [Act.put, List.setIfInBounds_toArray, List.set_cons_zero, List.set_cons_succ])
  (refine SeqL.val (v := ?_) hS rfl (by rfl) (fun wx hSw => ?_) ?_; rotate_left; (focus ((try dsimp only at hSw); go_simp; (try with_reducible rfl))); (try simp only [Act.put, List.setIfInBounds_toArray, List.set_cons_zero, List.set_cons_succ]))
  refine SeqL.nil fun wz hz hh => ?_
  obtain ⟨wa, _, oa, ka⟩ := hh 4 (by decide) _ _ _ rfl rfl
  obtain ⟨wb, _, ob, kb⟩ := hh 9 (by decide) _ _ _ rfl rfl
  have gz := hz.obj (p := w.heap.size) (fun h => h) HG.out
  have e0 : wz.cell? ⟨w.heap.size, 0, none⟩ = some (.slice none 0 0) := by simp [World.cell?, gz]
  have e1 : wz.cell? ⟨w.heap.size, 1, none⟩ = some (.slice none 0 0) := by simp [World.cell?, gz]
  have f0 : ∀ j, wz.frozen? ⟨w.heap.size, j, none⟩ = false := fun j => by simp [World.frozen?, gz]
  have GZ := Lib.hid gz
  have OA := Lib.hid (show BV (fun x => w.heap.size < x) wz (.slice b1 n1' c1') k from oa.kept byteEl_k ka fun _ _ _ h => h)
  have OB := Lib.hid (show BV (fun x => w.heap.size < x) wz (.slice b2 n2' c2') v from ob.kept byteEl_k kb fun _ _ _ h => h)
  have KZ := Lib.hid (K1.out.tr hz)
  clear hh hS oa ob ka kb hz gz d0 d1
  go_wp2
  refine bodyPost_ret (results_cell_row rfl _ _ w.heap.size _ #[.slice b1 n1' c1', .slice b2 n2' c2'] (0, 0) _ rfl (setCell_obj (setCell_obj GZ.out _) _) Try.underlying70 rfl (by kernel_rfl)) rfl ?_
  have KS := Lib.hid (((Kept.refl (fun x => x = w.heap.size) wz).setCell (p := ⟨w.heap.size, 0, none⟩) (.inl rfl) (.slice b1 n1' c1')).setCell (p := ⟨w.heap.size, 1, none⟩) (.inl rfl) (.slice b2 n2' c2'))
  refine ⟨_, _, rfl, ?_, ?_, ?_⟩
  · exact (OA.out.kept byteEl_k KS.out fun x h _ e => by have : w.heap.size < x := h; omega).wide byteEl_k fun x h _ => Nat.le_of_lt h
  · exact (OB.out.kept byteEl_k KS.out fun x h _ e => by have : w.heap.size < x := h; omega).wide byteEl_k fun x h _ => Nat.le_of_lt h
  · exact (KZ.out.setCell (.inr (Nat.le_refl _)) _).setCell (.inr (Nat.le_refl _)) _
end Go.Proofs.Ytaopjdjbpamhhaa
