/- Proved: contracts of the map's functions ordered and gather. Conditions: nodes as a tree in memory. -/
import Derived.Test.YtaopjdjbpamhhaaMap5
import Derived.Test.YtaopjdjbpamhhaaChain
namespace Go.Proofs.Ytaopjdjbpamhhaa
open Go Go.RowKit
set_option linter.unusedVariables false
set_option linter.unusedSimpArgs false

set_option maxHeartbeats 1000000 in
theorem orMap_All_1_1_calls {D : Nat → Prop} {w : World} {b : Nat} {kv vv : Value} {k v : Bts} (c0 : w.cell? ⟨b, 0, none⟩ = some kv) (c1 : w.cell? ⟨b, 1, none⟩ = some vv) (hk : BV D w kv k) (hv : BV D w vv v) :
    Calls Try.prog 188 #[.pointer (some ⟨b, 0, none⟩)] w fun e w' => ∃ k' v', e = .returned (.agg #[k', v']) ∧ BV (fun x => w.heap.size ≤ x) w' k' k ∧ BV (fun x => w.heap.size ≤ x) w' v' v ∧ Kept Noneof w w' := by
  have HK := Lib.hid hk
  have HV := Lib.hid hv
  clear hk hv
  go_enter Try.func188, Try.ntmps188
  go_wp2_with fail
  have G1 := heap_alloc_new w (.cells #[.slice none 0 0, .slice none 0 0] 70)
  have K1 := Lib.hid ((Kept.refl Noneof w).alloc (.cells #[.slice none 0 0, .slice none 0 0] 70))
  have hsz : w.heap.size < (w.alloc (.cells #[.slice none 0 0, .slice none 0 0] 70)).heap.size := block_lt G1
  generalize w.alloc (.cells #[.slice none 0 0, .slice none 0 0] 70) = w1 at *
  have HG := Lib.hid G1
  have HZ := Lib.hid hsz
  have d0 := K1.out.cell (p := ⟨b, 0, none⟩) (fun h => h) c0
  have d1 := K1.out.cell (p := ⟨b, 1, none⟩) (fun h => h) c1
  clear G1 hsz c0 c1
  refine (ornode_pair_calls (D := D) d0 d1 (HK.out.kept byteEl_k K1.out fun _ _ _ h => h) (HV.out.kept byteEl_k K1.out fun _ _ _ h => h)).mono ?_
  rintro e wz ⟨k', v', rfl, o1, o2, kz⟩
  obtain ⟨b1, n1', rfl, _⟩ := id o1
  obtain ⟨b2, n2', rfl, _⟩ := id o2
  have gz := kz.obj (p := w.heap.size) (fun h => h) HG.out
  have e0 : wz.cell? ⟨w.heap.size, 0, none⟩ = some (.slice none 0 0) := by simp [World.cell?, gz]
  have e1 : wz.cell? ⟨w.heap.size, 1, none⟩ = some (.slice none 0 0) := by simp [World.cell?, gz]
  have f0 : ∀ j, wz.frozen? ⟨w.heap.size, j, none⟩ = false := fun j => by simp [World.frozen?, gz]
  have GZ := Lib.hid gz
  have OA := Lib.hid o1
  have OB := Lib.hid o2
  have KZ := Lib.hid (K1.out.tr kz)
  clear o1 o2 gz kz d0 d1
  go_wp2
  refine bodyPost_ret (results_cell_row rfl _ _ w.heap.size _ #[_, _] (0, 0) _ rfl (setCell_obj (setCell_obj GZ.out _) _) Try.underlying70 rfl (by kernel_rfl)) rfl ?_
  have KS := Lib.hid (((Kept.refl (fun x => x = w.heap.size) wz).setCell (p := ⟨w.heap.size, 0, none⟩) (.inl rfl) (.slice b1 k.length n1')).setCell (p := ⟨w.heap.size, 1, none⟩) (.inl rfl) (.slice b2 v.length n2'))
  have hz := HZ.out
  refine ⟨_, _, rfl, ?_, ?_, ?_⟩
  · exact (OA.out.kept byteEl_k KS.out fun x h _ e => by have : w1.heap.size ≤ x := h; omega).wide byteEl_k fun x h _ => Nat.le_trans (Nat.le_of_lt hz) h
  · exact (OB.out.kept byteEl_k KS.out fun x h _ e => by have : w1.heap.size ≤ x := h; omega).wide byteEl_k fun x h _ => Nat.le_trans (Nat.le_of_lt hz) h
  · exact (KZ.out.setCell (.inr (Nat.le_refl _)) _).setCell (.inr (Nat.le_refl _)) _

set_option maxRecDepth 100000 in
set_option maxHeartbeats 4000000 in
theorem orordered_calls {seed : Int} {D : Nat → Prop} {B : Nat} (hD : ∀ b, D b → b < B) : ∀ (t : Tr) (p : Option Nat) (S : List Nat) (w : World) (vo : Value) (out : List (Bts × Bts)), TreeAt seed D w t p S → (∀ b ∈ S, b < B) → B ≤ w.heap.size →
    Own 70 pairEl (fun b => B ≤ b) B w vo out → (out.length + t.size) * 48 ≤ 140737488355328 →
    Calls Try.prog 187 #[ptr p, vo, .func (.func 188) #[] #[]] w fun e w' => ∃ v', e = .returned v' ∧ Own 70 pairEl (fun b => B ≤ b) B w' v' (out ++ t.pairs) ∧ Kept (fun b => B ≤ b) w w' := by
  intro t
  induction t with
  | nil =>
    intro p S w vo out ht hS hB ho hb
    obtain ⟨rfl, rfl⟩ := ht
    have HO := Lib.hid ho
    obtain ⟨a, c, rfl⟩ := ho.slice
    clear ho
    change Calls _ _ #[.pointer none, _, _] _ _
    go_enter Try.func187, Try.ntmps187
    go_wp2
    go_ret
    exact ⟨_, rfl, by simpa [Tr.pairs] using HO.out, Kept.refl _ _⟩
  | nd l k v r il ir =>
    intro p S w vo out ht hS hB ho hb
    have IL := Lib.hid il
    have IR := Lib.hid ir
    have HO := Lib.hid ho
    have HS := Lib.hid hS
    have HB := Lib.hid hB
    have BY := Lib.hid hb
    obtain ⟨b, pl, pr, Sl, Sr, kv, vv, rfl, rfl, hob, hkv, hvv, hl, hr⟩ := ht
    obtain ⟨a1, c1', rfl⟩ := ho.slice
    obtain ⟨c0, c1, _, c3, c4, _, _, _⟩ := NodeAt.of hob
    have KV := Lib.hid hkv
    have VV := Lib.hid hvv
    have L := Lib.hid hl
    have R := Lib.hid hr
    clear hob hkv hvv hl hr il ir ho hS hB hb
    change Calls _ _ #[.pointer (some ⟨b, 0, none⟩), _, _] _ _
    go_enter Try.func187, Try.ntmps187
    go_wp2_with fail
    refine wp_region_chain 19 [10, 13, 14, 15, 17] (fun w' => w'.cell? ⟨b, 3, none⟩ = some (ptr pl) ∧ w'.cell? ⟨b, 4, none⟩ = some (ptr pr)) (by kernel_rfl) (by kernel_rfl) ?_ ?_
    · exact ⟨c3, c4⟩
    simp only [List.take_succ_cons, List.take_zero, List.drop_succ_cons, List.drop_zero]
    iterate 10 (refine SeqY.val (v := ?_) (by rfl) (by rfl) (fun wx hSw => ?_) ?_; rotate_left; (focus ((try dsimp only at hSw); go_simp; (try with_reducible rfl))); (try simp only [Act.put, List.setIfInBounds_toArray, List.set_cons_zero, List.set_cons_succ]))
    refine SeqY.act (by rfl) rfl (by rfl) (by rfl) (fun K hK => ?_)
    go_simp
    refine (IL.out pl Sl w.drew _ out (by exact L.out.at rfl) (fun x hx => HS.out x (by simp [hx])) HB.out (by exact HO.out.at rfl) (by have := BY.out; simp only [Tr.size] at this; omega)).mono ?_
    rintro e w1 ⟨v1, rfl, o1, k1⟩
    have hbB : b < B := HS.out b (by simp)
    have HBB := Lib.hid hbB
    have K1 := Lib.hid (show Kept (fun b => B ≤ b) w w1 from ⟨k1.os, k1.tape, k1.output, k1.size, k1.block⟩)
    have d : ∀ j u, w.cell? ⟨b, j, none⟩ = some u → w1.cell? ⟨b, j, none⟩ = some u := fun j u h => k1.cell (p := ⟨b, j, none⟩) (by simp; omega) h
    have d0 := d _ _ c0
    have d1 := d _ _ c1
    have d3 := d _ _ c3
    have d4 := d _ _ c4
    refine hK.out _ _ ⟨d3, d4⟩ ?_
    have O1 := Lib.hid o1
    obtain ⟨a2, n2, c2', rfl⟩ := o1.slice'
    clear K hK o1 k1 hbB c0 c1 d
    (try simp only [Act.put, List.setIfInBounds_toArray, List.set_cons_zero, List.set_cons_succ])
    iterate 2 (refine SeqY.val (v := ?_) (by rfl) (by rfl) (fun wx hSw => ?_) ?_; rotate_left; (focus ((try dsimp only at hSw); go_simp; (try with_reducible rfl))); (try simp only [Act.put, List.setIfInBounds_toArray, List.set_cons_zero, List.set_cons_succ]))
    refine SeqY.act (by rfl) rfl (by rfl) (by rfl) (fun K hK => ?_)
    go_simp
    refine (orMap_All_1_1_calls (D := D) d0 d1 (KV.out.kept byteEl_k K1.out fun x h _ (h2 : B ≤ x) => by have := hD x h; omega) (VV.out.kept byteEl_k K1.out fun x h _ (h2 : B ≤ x) => by have := hD x h; omega)).mono ?_
    rintro e w2 ⟨k', v', rfl, p1, p2, k2⟩
    obtain ⟨b1, n1', rfl, _⟩ := id p1
    obtain ⟨b2, n2', rfl, _⟩ := id p2
    have K2 := Lib.hid k2
    have P1 := Lib.hid p1
    have P2 := Lib.hid p2
    have e3 := k2.cell (p := ⟨b, 3, none⟩) (fun h => h) d3
    have e4 := k2.cell (p := ⟨b, 4, none⟩) (fun h => h) d4
    refine hK.out _ _ ⟨e3, e4⟩ ?_
    clear K hK p1 p2 k2 d0 d1 d3 d4
    (try simp only [Act.put, List.setIfInBounds_toArray, List.set_cons_zero, List.set_cons_succ])
    refine SeqY.act (by rfl) rfl (by rfl) (by rfl) (fun K hK => ?_)
    go_simp
    have G3 := heap_alloc_new w2 (.cells #[.slice b1 k.length n1', .slice b2 v.length n2'] 70)
    have K3 := Lib.hid ((Kept.refl Noneof w2).alloc (.cells #[.slice b1 k.length n1', .slice b2 v.length n2'] 70))
    refine hK.out _ _ ⟨K3.out.cell (p := ⟨b, 3, none⟩) (fun h => h) e3, K3.out.cell (p := ⟨b, 4, none⟩) (fun h => h) e4⟩ ?_
    have f4 := K3.out.cell (p := ⟨b, 4, none⟩) (fun h => h) e4
    have f3 := K3.out.cell (p := ⟨b, 3, none⟩) (fun h => h) e3
    generalize w2.alloc (.cells #[.slice b1 k.length n1', .slice b2 v.length n2'] 70) = w3 at *
    clear K hK e3 e4
    (try simp only [Act.put, List.setIfInBounds_toArray, List.set_cons_zero, List.set_cons_succ])
    refine SeqY.act (by rfl) rfl (by rfl) (by rfl) (fun K hK => ?_)
    have O3 := Lib.hid ((O1.out.kept K2.out fun _ h => h.elim).kept K3.out fun _ h => h.elim)
    have hs1 := K1.out.size
    have hs2 := K2.out.size
    have hs3 := K3.out.size
    have hB := HB.out
    have lo := Lib.hid O1.out.lt
    refine wp_app_one (E := pairEl) (.tmp 20) (.tmp 24) _ rfl tPairs (D' := fun x => w1.heap.size ≤ x) _ (out ++ l.pairs) rfl O3.out w2.heap.size _ (k, v) rfl ⟨_, _, G3⟩ ⟨_, _, rfl, P1.out.kept byteEl_k K3.out (fun _ _ _ h => h), P2.out.kept byteEl_k K3.out fun _ _ _ h => h⟩ (fun x hx _ => ⟨by have : w1.heap.size ≤ x := hx; omega, fun he => by have := (lo.out x he).2; have : w1.heap.size ≤ x := hx; omega⟩) (by have := BY.out; simp only [Tr.size, List.length_append, Tr.pairs_len] at this ⊢; omega) (by decide) (by omega) ?_
    rintro v4 w4 o4 k4 hb4
    have K4 := Lib.hid (show Kept (fun b => B ≤ b) w w4 from ((K1.out.trans K2.out fun _ h => h.elim).trans K3.out fun _ h => h.elim).trans k4 fun x hx => .inl (lo.out x hx).1)
    have hbB := HBB.out
    have g4 := k4.cell (p := ⟨b, 4, none⟩) (fun hx => by have := (lo.out b hx).1; omega) f4
    have g3 := k4.cell (p := ⟨b, 3, none⟩) (fun hx => by have := (lo.out b hx).1; omega) f3
    refine hK.out _ _ ⟨g3, g4⟩ ?_
    have O4 := Lib.hid o4
    obtain ⟨a4, n4, c4', rfl⟩ := o4.slice'
    clear K hK o4 k4 f3 f4 hb4 G3 g3 hs1 hs2 hs3
    (try simp only [Act.put, List.setIfInBounds_toArray, List.set_cons_zero, List.set_cons_succ])
    (refine SeqY.val (v := ?_) (by rfl) (by rfl) (fun wx hSw => ?_) ?_; rotate_left; (focus ((try dsimp only at hSw); go_simp; (try with_reducible rfl))); (try simp only [Act.put, List.setIfInBounds_toArray, List.set_cons_zero, List.set_cons_succ]))
    refine SeqY.act (by rfl) rfl (by rfl) (by rfl) (fun K hK => ?_)
    go_simp
    have hs4 := K4.out.size
    refine (IR.out pr Sr w4 _ (out ++ l.pairs ++ [(k, v)]) (R.out.kept K4.out (fun x h _ (h2 : B ≤ x) => by have := hD x h; omega) fun x hx (h2 : B ≤ x) => by have := HS.out x (by simp [hx]); omega) (fun x hx => HS.out x (by simp [hx])) (by omega) O4.out (by have := BY.out; simp only [Tr.size, List.length_append, List.length_cons, List.length_nil, Tr.pairs_len] at this ⊢; omega)).mono ?_
    rintro e w5 ⟨v5, rfl, o5, k5⟩
    refine hK.out _ _ ⟨k5.cell (p := ⟨b, 3, none⟩) (fun (h2 : B ≤ b) => by omega) (K4.out.cell (p := ⟨b, 3, none⟩) (fun (h2 : B ≤ b) => by omega) c3), k5.cell (p := ⟨b, 4, none⟩) (fun (h2 : B ≤ b) => by omega) g4⟩ ?_
    have O5 := Lib.hid o5
    have K5 := Lib.hid (K4.out.tr k5)
    obtain ⟨a5, n5, c5', rfl⟩ := o5.slice'
    clear K hK o5 k5 g4
    (try simp only [Act.put, List.setIfInBounds_toArray, List.set_cons_zero, List.set_cons_succ])
    (refine SeqY.val (v := ?_) (by rfl) (by rfl) (fun wx hSw => ?_) ?_; rotate_left; (focus ((try dsimp only at hSw); go_simp; (try with_reducible rfl))); (try simp only [Act.put, List.setIfInBounds_toArray, List.set_cons_zero, List.set_cons_succ]))
    refine SeqY.nil ?_
    go_wp2
    go_ret
    refine ⟨_, rfl, ?_, K5.out⟩
    have := O5.out
    rwa [List.append_assoc, List.append_assoc, List.singleton_append] at this
end Go.Proofs.Ytaopjdjbpamhhaa
