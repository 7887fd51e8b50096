/- Proved: contracts of gather over nodes, and of the map's function Nodes. Conditions: maps in memory. -/
import Derived.Test.YtaopjdjbpamhhaaMap8
namespace Go.Proofs.Ytaopjdjbpamhhaa
open Go Go.RowKit
set_option linter.unusedVariables false
set_option linter.unusedSimpArgs false

structure ND where
  k : Bts
  v : Bts
  dg : Int
  size : Nat
  left : Int
  right : Int
def nodeEl : El ND where
  k := 6
  R := fun D w cs x => ∃ u v, cs = [u, v, .int .u64 x.dg, .int .i64 x.size, .int .i64 x.left, .int .i64 x.right] ∧ BV D w u x.k ∧ BV D w v x.v
  mono := fun hw ⟨u, v, h1, h2, h3⟩ => ⟨u, v, h1, h2.mono byteEl_k hw, h3.mono byteEl_k hw⟩
  len := fun ⟨u, v, h1, _⟩ => by rw [h1]; rfl
  one := fun ⟨u, v, h1, h2, h3⟩ x hx => by
    rw [h1] at hx
    rcases List.mem_cons.1 hx with rfl | hx
    · exact h2.cell1
    · rcases List.mem_cons.1 hx with rfl | hx
      · exact h3.cell1
      · simp only [List.mem_cons, List.not_mem_nil, or_false] at hx
        rcases hx with rfl | rfl | rfl | rfl <;> rfl
theorem nodeEl_k : 0 < nodeEl.k := by decide
def ndOf (seed : Int) (l : Tr) (k v : Bts) (r : Tr) (i : Int) : ND := ⟨k, v, (Tr.nd l k v r).dg seed, (Tr.nd l k v r).size, if l.size = 0 then -1 else i + 1, if r.size = 0 then -1 else i + 1 + l.size⟩
def Tr.nodes (seed : Int) : Tr → Int → List ND
  | nil, _ => []
  | nd l k v r, i => ndOf seed l k v r i :: (l.nodes seed (i + 1) ++ r.nodes seed (i + 1 + l.size))
theorem Tr.nodes_len (seed : Int) : ∀ (t : Tr) (i : Int), (t.nodes seed i).length = t.size
  | nil, _ => rfl
  | nd l k v r, i => by simp only [Tr.nodes, Tr.size, List.length_cons, List.length_append, nodes_len seed l, nodes_len seed r]; omega
def intObj (j : Int) : Obj := .cells #[.int .i64 j] 3
theorem intObj_cell {w : World} {q : Nat} {j : Int} (h : w.heap[q]? = some (intObj j)) : w.cell? ⟨q, 0, none⟩ = some (.int .i64 j) ∧ w.frozen? ⟨q, 0, none⟩ = false := by
  unfold intObj at h
  simp [World.cell?, World.frozen?, h]

theorem nd_done {seed : Int} {l r : Tr} {k v : Bts} {w w1 w2 w4 W : World} {m4 q : Nat} {kv vv : Value} {i a b c d : Int} (hz : w.heap.size < w1.heap.size) (hm : w2.heap.size ≤ m4) (hq : q < w.heap.size)
    (B1 : BV (fun x => w1.heap.size ≤ x ∧ x < w2.heap.size) w4 kv k) (B2 : BV (fun x => w1.heap.size ≤ x ∧ x < w2.heap.size) w4 vv v) (Q : w4.heap[q]? = some (intObj i)) (K : Kept (fun x => x = q) w w4) (hs : w1.heap.size ≤ w2.heap.size)
    (KS : Kept (fun x => x = m4 ∨ x = w.heap.size) w4 W) (e1 : a = (ndOf seed l k v r i).dg) (e2 : b = (ndOf seed l k v r i).size) (e3 : c = (ndOf seed l k v r i).left) (e4 : d = (ndOf seed l k v r i).right) :
    ∃ k' v', Ending.returned (.agg #[kv, vv, .int .u64 a, .int .i64 b, .int .i64 c, .int .i64 d]) = .returned (.agg #[k', v', .int .u64 (ndOf seed l k v r i).dg, .int .i64 (ndOf seed l k v r i).size, .int .i64 (ndOf seed l k v r i).left, .int .i64 (ndOf seed l k v r i).right]) ∧ BV (fun x => w.heap.size ≤ x) W k' k ∧ BV (fun x => w.heap.size ≤ x) W v' v ∧ W.heap[q]? = some (intObj i) ∧ Kept (fun x => x = q) w W := by
  refine ⟨kv, vv, by rw [e1, e2, e3, e4], ?_, ?_, KS.obj (by omega) Q, K.trans KS fun x h => .inr (by omega)⟩
  · exact (B1.kept byteEl_k KS fun x h _ e => by omega).wide byteEl_k fun x h _ => by omega
  · exact (B2.kept byteEl_k KS fun x h _ e => by omega).wide byteEl_k fun x h _ => by omega

set_option maxRecDepth 100000 in
set_option maxHeartbeats 4000000 in
theorem orMap_Nodes_1_calls {seed : Int} {D : Nat → Prop} {w : World} {p : Option Nat} {S : List Nat} {l r : Tr} {k v : Bts} {q : Nat} {i j : Int} (ht : TreeAt seed D w (.nd l k v r) p S) (hq : w.heap[q]? = some (intObj j)) (hi : j + 1 = i) (hqS : q ∉ S) (hqD : ¬ D q) (h0 : 0 ≤ i) (h1 : i + l.size + r.size ≤ 1000000000) :
    Calls Try.prog 158 #[ptr p, .pointer (some ⟨q, 0, none⟩)] w fun e w' => ∃ k' v', e = .returned (.agg #[k', v', .int .u64 (ndOf seed l k v r i).dg, .int .i64 (ndOf seed l k v r i).size, .int .i64 (ndOf seed l k v r i).left, .int .i64 (ndOf seed l k v r i).right]) ∧ BV (fun x => w.heap.size ≤ x) w' k' k ∧ BV (fun x => w.heap.size ≤ x) w' v' v ∧ w'.heap[q]? = some (intObj i) ∧ Kept (fun x => x = q) w w' := by
  obtain ⟨b, pl, pr, Sl, Sr, kv, vv, rfl, rfl, hob, hkv, hvv, hl, hr⟩ := ht
  obtain ⟨c0, c1, _, c3, c4, c5, c6, _⟩ := NodeAt.of hob
  have hbq : b ≠ q := fun e => hqS (by simp [e])
  have el : l.size = 0 ↔ pl = none := TreeAt.empty hl
  have er : r.size = 0 ↔ pr = none := TreeAt.empty hr
  have KV := Lib.hid hkv
  have VV := Lib.hid hvv
  have CL := Lib.hid hl.child
  have HI := Lib.hid hi
  have HQD := Lib.hid hqD
  have H0 := Lib.hid h0
  have H1 := Lib.hid h1
  have HQ := Lib.hid hq
  have LB := Lib.hid (cell_lt c3)
  have lb0 : b < w.heap.size := LB.out
  have hqc := intObj_cell hq
  obtain ⟨q0, fq⟩ := hqc
  have BQ := Lib.hid hbq
  have SB := Lib.hid (show ∀ x, pl = some x → x < w.heap.size from fun x hx => hl.lt x (hl.root hx))
  have SQ := Lib.hid (show ∀ x, pl = some x → x ≠ q from fun x hx e => hqS (by have := hl.root hx; simp [← e, this]))
  clear hob hkv hvv hl hr hi hqD h0 h1 hq hqS hbq
  change Calls _ _ #[.pointer (some ⟨b, 0, none⟩), _] _ _
  rcases pl with _ | b3 <;> rcases pr with _ | b4
  all_goals
    have EL := Lib.hid el
    have ER := Lib.hid er
    clear el er
    have qa : ∀ o, (w.alloc o).cell? ⟨q, 0, none⟩ = some (.int .i64 j) := fun o => ((Kept.refl Noneof w).alloc o).cell (p := ⟨q, 0, none⟩) (fun h => h) q0
    have qf : ∀ o, (w.alloc o).frozen? ⟨q, 0, none⟩ = false := fun o => (intObj_cell (((Kept.refl Noneof w).alloc o).obj (fun h => h) HQ.out)).2
    have hw : IntKind.i64.wrap (j + 1) = i := by have a := HI.out; have b := H0.out; have c := H1.out; rw [IntWalk.i64_in _ ⟨by omega, by omega⟩, a]
    go_enter Try.func158, Try.ntmps158
    go_wp2_with fail
    have G0 := heap_alloc_new w (.cells #[.slice none 0 0, .slice none 0 0, .int .u64 0, .int .i64 0, .int .i64 0, .int .i64 0] 172)
    have K0 := (Kept.refl (fun x => x = q) w).alloc (.cells #[.slice none 0 0, .slice none 0 0, .int .u64 0, .int .i64 0, .int .i64 0, .int .i64 0] 172)
    have s0 := block_lt G0
    have lq := block_lt HQ.out
    have Q0 := ((Kept.refl Noneof w).alloc (.cells #[.slice none 0 0, .slice none 0 0, .int .u64 0, .int .i64 0, .int .i64 0, .int .i64 0] 172)).obj (fun h => h) HQ.out
    generalize w.alloc (.cells #[.slice none 0 0, .slice none 0 0, .int .u64 0, .int .i64 0, .int .i64 0, .int .i64 0] 172) = wa at *
    have KS := (Kept.refl (fun x => x = q) wa).setCell (p := ⟨q, 0, none⟩) (.inl rfl) (.int .i64 i)
    have G1 := Lib.hid (KS.obj (p := w.heap.size) (by omega) G0)
    have Q1 := Lib.hid (show (wa.setCell ⟨q, 0, none⟩ (.int .i64 i)).heap[q]? = some (intObj i) from setCell_obj Q0 _)
    have K1 := Lib.hid (K0.trans KS fun _ h => .inl h)
    have Z1 := Lib.hid (Nat.lt_of_lt_of_le s0 KS.size)
    generalize wa.setCell ⟨q, 0, none⟩ (.int .i64 i) = w1 at *
    have hbq := BQ.out
    have d0 := K1.out.cell (p := ⟨b, 0, none⟩) hbq c0
    have d1 := K1.out.cell (p := ⟨b, 1, none⟩) hbq c1
    have d3 := K1.out.cell (p := ⟨b, 3, none⟩) hbq c3
    have d4 := K1.out.cell (p := ⟨b, 4, none⟩) hbq c4
    have d5 := K1.out.cell (p := ⟨b, 5, none⟩) hbq c5
    have d6 := K1.out.cell (p := ⟨b, 6, none⟩) hbq c6
    clear q0 fq qa qf G0 K0 s0 lq Q0 KS c0 c1 c3 c4 c5 c6 wa
    refine (ornode_pair_calls (D := D) d0 d1 (KV.out.kept byteEl_k K1.out fun x h _ e => HQD.out (e ▸ h)) (VV.out.kept byteEl_k K1.out fun x h _ e => HQD.out (e ▸ h))).mono ?_
    rintro e w2 ⟨k', v', rfl, o1, o2, k2⟩
    obtain ⟨b1, n1, rfl, _⟩ := id o1
    obtain ⟨b2, n2, rfl, _⟩ := id o2
    have O1 := Lib.hid o1
    have O2 := Lib.hid o2
    have K2 := Lib.hid k2
    clear o1 o2 k2
    go_wp2_with fail
    have G3 := heap_alloc_new w2 (.cells #[.slice b1 k.length n1, .slice b2 v.length n2] 70)
    have K3 := Lib.hid ((Kept.refl Noneof w2).alloc (.cells #[.slice b1 k.length n1, .slice b2 v.length n2] 70))
    generalize w2.alloc (.cells #[.slice b1 k.length n1, .slice b2 v.length n2] 70) = w3 at *
    have K12 := Lib.hid ((K1.out.trans K2.out fun _ h => h.elim).trans K3.out fun _ h => h.elim)
    have e0 : w3.cell? ⟨w2.heap.size, 0, none⟩ = some (.slice b1 k.length n1) := by simp [World.cell?, G3]
    have e1 : w3.cell? ⟨w2.heap.size, 1, none⟩ = some (.slice b2 v.length n2) := by simp [World.cell?, G3]
    have e3 := K3.out.cell (p := ⟨b, 3, none⟩) (fun h => h) (K2.out.cell (p := ⟨b, 3, none⟩) (fun h => h) d3)
    have e4 := K3.out.cell (p := ⟨b, 4, none⟩) (fun h => h) (K2.out.cell (p := ⟨b, 4, none⟩) (fun h => h) d4)
    have e5 := K3.out.cell (p := ⟨b, 5, none⟩) (fun h => h) (K2.out.cell (p := ⟨b, 5, none⟩) (fun h => h) d5)
    have e6 := K3.out.cell (p := ⟨b, 6, none⟩) (fun h => h) (K2.out.cell (p := ⟨b, 6, none⟩) (fun h => h) d6)
    have HG3 := Lib.hid (block_lt G3)
    clear G3 d0 d1 d3 d4 d5 d6
    obtain ⟨m2, hm2⟩ : ∃ m2, m2 = w2.heap.size := ⟨_, rfl⟩
    rw [← hm2] at e0 e1
    rw [← hm2]
    have HM2 := Lib.hid hm2
    clear hm2
    refine wp_region_chain 15 [13, 14] (fun w' => w'.cell? ⟨m2, 0, none⟩ = some (.slice b1 k.length n1) ∧ w'.cell? ⟨m2, 1, none⟩ = some (.slice b2 v.length n2) ∧ w'.cell? ⟨b, 6, none⟩ = some (.int .u64 ((Tr.nd l k v r).dg seed)) ∧ w'.cell? ⟨b, 5, none⟩ = some (.int .i64 ((1 + l.size + r.size : Nat) : Int))) (by kernel_rfl) (by kernel_rfl) ?_ ?_
    · exact ⟨e0, e1, e6, e5⟩
    simp only [List.take_succ_cons, List.take_zero, List.drop_succ_cons, List.drop_zero]
    iterate 13 (refine SeqY.val (v := ?_) (by rfl) (by rfl) (fun wx hSw => ?_) ?_; rotate_left; (focus ((try dsimp only at hSw); go_simp; (try with_reducible rfl))); (try simp only [Act.put, List.setIfInBounds_toArray, List.set_cons_zero, List.set_cons_succ]))
    refine SeqY.act (by rfl) rfl (by rfl) (by rfl) (fun K hK => ?_)
    go_simp
    refine hK.out _ _ ?_ ?_
    · exact ⟨((Kept.refl Noneof _).alloc _).cell (p := ⟨m2, 0, none⟩) (fun h => h) e0, ((Kept.refl Noneof _).alloc _).cell (p := ⟨m2, 1, none⟩) (fun h => h) e1, ((Kept.refl Noneof _).alloc _).cell (p := ⟨b, 6, none⟩) (fun h => h) e6, ((Kept.refl Noneof _).alloc _).cell (p := ⟨b, 5, none⟩) (fun h => h) e5⟩
    clear K hK
    (try simp only [Act.put, List.setIfInBounds_toArray, List.set_cons_zero, List.set_cons_succ])
    refine SeqY.act0 (by rfl) rfl (by rfl) (fun K hK => ?_)
    go_simp
    refine hK.out _ ?_ ?_
    · exact ⟨((Kept.refl Noneof _).alloc _).cell (p := ⟨m2, 0, none⟩) (fun h => h) e0, ((Kept.refl Noneof _).alloc _).cell (p := ⟨m2, 1, none⟩) (fun h => h) e1, ((Kept.refl Noneof _).alloc _).cell (p := ⟨b, 6, none⟩) (fun h => h) e6, ((Kept.refl Noneof _).alloc _).cell (p := ⟨b, 5, none⟩) (fun h => h) e5⟩
    refine SeqY.alloc (w := w3.drew) fun w4 G4 K4 hs4 => ?_
    clear K hK
    refine SeqY.nil ?_
    have K34 := Lib.hid (show Kept Noneof w3 w4 from ⟨K4.os, K4.tape, K4.output, K4.size, K4.block⟩)
    have K14 := Lib.hid ((K2.out.trans K3.out fun _ h => h.elim).trans K34.out fun _ h => h.elim)
    have K04 := Lib.hid (K1.out.trans K14.out fun _ h => .inl h.elim)
    have hd : w3.drew.heap.size = w3.heap.size := rfl
    rw [hd] at G4 hs4
    have Q4 := K14.out.obj (p := q) (fun h => h) Q1.out
    have R4 := K14.out.obj (p := w.heap.size) (fun h => h) G1.out
    have B1 := Lib.hid (show BV (fun x => w1.heap.size ≤ x ∧ x < w2.heap.size) w4 (.slice b1 k.length n1) k from (O1.out.bd byteEl_k).kept byteEl_k (K3.out.trans K34.out fun _ h => h.elim) fun _ _ _ h => h)
    have B2 := Lib.hid (show BV (fun x => w1.heap.size ≤ x ∧ x < w2.heap.size) w4 (.slice b2 v.length n2) v from (O2.out.bd byteEl_k).kept byteEl_k (K3.out.trans K34.out fun _ h => h.elim) fun _ _ _ h => h)
    have i3 := K34.out.cell (p := ⟨b, 3, none⟩) (fun h => h) e3
    have i4 := K34.out.cell (p := ⟨b, 4, none⟩) (fun h => h) e4
    have z1 := Z1.out
    have z2 := K2.out.size
    have z3 := K3.out.size
    have lq := block_lt HQ.out
    have lb := BQ.out
    have lb2 := LB.out
    generalize w3.heap.size = m4 at *
    have M4 := Lib.hid (show w2.heap.size ≤ m4 from z3)
    have Z2 := Lib.hid z2
    have n1' : m4 ≠ q := by omega
    have n2' : m4 ≠ w.heap.size := by omega
    have n3' : m4 ≠ b := by omega
    have hw2 : IntKind.i64.wrap (i + 1) = i + 1 := by have b := H0.out; have c := H1.out; exact IntWalk.i64_in _ ⟨by omega, by omega⟩
    have j0 : w4.cell? ⟨m4, 0, none⟩ = some (.slice b1 k.length n1) := by simp [World.cell?, G4]
    have j1 : w4.cell? ⟨m4, 1, none⟩ = some (.slice b2 v.length n2) := by simp [World.cell?, G4]
    have j2 : w4.cell? ⟨m4, 2, none⟩ = some (.int .u64 ((Tr.nd l k v r).dg seed)) := by simp [World.cell?, G4]
    have j3 : w4.cell? ⟨m4, 3, none⟩ = some (.int .i64 ((1 + l.size + r.size : Nat) : Int)) := by simp [World.cell?, G4]
    have j4 : w4.cell? ⟨m4, 4, none⟩ = some (.int .i64 (-1)) := by simp [World.cell?, G4]
    have j5 : w4.cell? ⟨m4, 5, none⟩ = some (.int .i64 (-1)) := by simp [World.cell?, G4]
    have jf : ∀ j, w4.frozen? ⟨m4, j, none⟩ = false := fun j => by simp [World.frozen?, G4]
    have rf : ∀ j, w4.frozen? ⟨w.heap.size, j, none⟩ = false := fun j => by simp [World.frozen?, R4]
    have qi := (intObj_cell Q4).1
    have r0 : w4.cell? ⟨w.heap.size, 0, none⟩ = some (.slice none 0 0) := by simp [World.cell?, R4]
    have r1 : w4.cell? ⟨w.heap.size, 1, none⟩ = some (.slice none 0 0) := by simp [World.cell?, R4]
    have r2 : w4.cell? ⟨w.heap.size, 2, none⟩ = some (.int .u64 0) := by simp [World.cell?, R4]
    have r3 : w4.cell? ⟨w.heap.size, 3, none⟩ = some (.int .i64 0) := by simp [World.cell?, R4]
    have r4 : w4.cell? ⟨w.heap.size, 4, none⟩ = some (.int .i64 0) := by simp [World.cell?, R4]
    have r5 : w4.cell? ⟨w.heap.size, 5, none⟩ = some (.int .i64 0) := by simp [World.cell?, R4]
    simp only [ptr, adr] at i3 i4
    have GG := Lib.hid G4
    have RR := Lib.hid R4
    have QQ := Lib.hid Q4
    clear G4 R4 Q4 z1 z2 z3 lq e0 e1 e3 e4 e5 e6 hs4 hd K4 O1 O2 K12 HG3 HM2 lb2
  · have KB := Lib.hid (Kept.refl (fun x => x = m4 ∨ x = w.heap.size) w4)
    (
    go_wp2
    refine bodyPost_ret (results_cell_row rfl _ _ w.heap.size _ #[_, _, _, _, _, _] (0, 0) _ rfl (setCell_obj (setCell_obj (setCell_obj (setCell_obj (setCell_obj (setCell_obj RR.out _) _) _) _) _) _) Try.underlying172 rfl (by kernel_rfl)) rfl ?_
    refine nd_done (Z1.out) (M4.out) (block_lt HQ.out) B1.out B2.out QQ.out K04.out Z2.out (Kept.setCell (Kept.setCell (Kept.setCell (Kept.setCell (Kept.setCell (Kept.setCell (KB.out) (.inl (.inr rfl)) _) (.inl (.inr rfl)) _) (.inl (.inr rfl)) _) (.inl (.inr rfl)) _) (.inl (.inr rfl)) _) (.inl (.inr rfl)) _) rfl ?_ ?_ ?_
    · simp [ndOf, Tr.size]
    all_goals
      have el := EL.out
      have er := ER.out
      simp only [true_iff, false_iff, iff_true, iff_false, reduceCtorEq] at el er
      simp [ndOf, el, er])
  · go_wp2_with fail
    (
    have G5 := Lib.hid GG.out
    have K45 := Lib.hid (show Kept (fun x => x = m4) w4 w4 from Kept.refl _ _)
    have a0 := K45.out.cell (p := ⟨q, 0, none⟩) (fun e => n1' e.symm) qi
    have a3 := K45.out.cell (p := ⟨b, 3, none⟩) (fun e => n3' e.symm) i3
    have R5 := Lib.hid (K45.out.obj (p := w.heap.size) (fun e => n2' e.symm) RR.out)
    have hw3 : IntKind.i64.wrap (i + 1 + (l.size : Int)) = i + 1 + l.size := by have b := H0.out; have c := H1.out; exact IntWalk.i64_in _ ⟨by omega, by omega⟩
    have f5 : (w4).frozen? ⟨m4, 5, none⟩ = false := by have := G5.out; simp [World.frozen?, this]
    have c5 : (w4).cell? ⟨m4, 5, none⟩ = some (.int .i64 (-1)) := by have := G5.out; simp [World.cell?, this]
    have CH := Lib.hid (show childAt w4 none l.size (l.dg seed) from (CL.out.kept K04.out fun x h => SQ.out x h).kept K45.out fun x h => by have := SB.out x h; have := M4.out; have := Z1.out; have := Z2.out; omega)
    clear j0 j1 j2 j3 j4 j5 jf r0 r1 r2 r3 r4 r5 rf i4
    refine wp_region_chain 10 [6, 9] (fun w' => w'.cell? ⟨q, 0, none⟩ = some (.int .i64 i) ∧ w'.cell? ⟨b, 3, none⟩ = some (.pointer none)) (by kernel_rfl) (by kernel_rfl) ?_ ?_
    · exact ⟨a0, a3⟩
    simp only [List.take_succ_cons, List.take_zero, List.drop_succ_cons, List.drop_zero]
    iterate 6 (refine SeqY.val (v := ?_) (by rfl) (by rfl) (fun wx hSw => ?_) ?_; rotate_left; (focus ((try dsimp only at hSw); go_simp; (try with_reducible rfl))); (try simp only [Act.put, List.setIfInBounds_toArray, List.set_cons_zero, List.set_cons_succ]))
    refine SeqY.act (by rfl) rfl (by rfl) (by rfl) (fun K hK => ?_)
    go_simp
    refine (orcount_calls (w := (w4).drew) (p := none) (n := l.size) (d := l.dg seed) (CH.out.at rfl)).mono ?_
    rintro e w6 ⟨rfl, rfl⟩
    refine hK.out _ _ ⟨a0, a3⟩ ?_
    clear K hK
    (try simp only [Act.put, List.setIfInBounds_toArray, List.set_cons_zero, List.set_cons_succ])
    iterate 2 (refine SeqY.val (v := ?_) (by rfl) (by rfl) (fun wx hSw => ?_) ?_; rotate_left; (focus ((try dsimp only at hSw); go_simp; (try with_reducible rfl))); (try simp only [Act.put, List.setIfInBounds_toArray, List.set_cons_zero, List.set_cons_succ]))
    refine SeqY.act0 (by rfl) rfl (by rfl) (fun K hK => ?_)
    go_simp
    have K47 : Kept (fun x => x = m4) w4 ((w4).setCell ⟨m4, 5, none⟩ (.int .i64 (i + 1 + (l.size : Int)))).drew := (K45.out.setCell (.inl rfl) _).drew
    have G7 : ((w4).setCell ⟨m4, 5, none⟩ (.int .i64 (i + 1 + (l.size : Int)))).drew.heap[m4]? = _ := setCell_obj G5.out _
    have a7 := K47.cell (p := ⟨q, 0, none⟩) (fun e => n1' e.symm) qi
    have b7 := K47.cell (p := ⟨b, 3, none⟩) (fun e => n3' e.symm) i3
    refine hK.out _ ⟨a7, b7⟩ ?_
    clear K hK a0 a3 R5 f5 c5 CH
    refine SeqY.nil ?_
    have R7 := K47.obj (p := w.heap.size) (fun e => n2' e.symm) RR.out
    generalize ((w4).setCell ⟨m4, 5, none⟩ (.int .i64 (i + 1 + (l.size : Int)))).drew = w7 at *
    have j0 : w7.cell? ⟨m4, 0, none⟩ = some (.slice b1 k.length n1) := by simp [World.cell?, G7]
    have j1 : w7.cell? ⟨m4, 1, none⟩ = some (.slice b2 v.length n2) := by simp [World.cell?, G7]
    have j2 : w7.cell? ⟨m4, 2, none⟩ = some (.int .u64 ((Tr.nd l k v r).dg seed)) := by simp [World.cell?, G7]
    have j3 : w7.cell? ⟨m4, 3, none⟩ = some (.int .i64 ((1 + l.size + r.size : Nat) : Int)) := by simp [World.cell?, G7]
    have j4 : w7.cell? ⟨m4, 4, none⟩ = some (.int .i64 (-1)) := by simp [World.cell?, G7]
    have j5 : w7.cell? ⟨m4, 5, none⟩ = some (.int .i64 (i + 1 + (l.size : Int))) := by simp [World.cell?, G7]
    have r0 : w7.cell? ⟨w.heap.size, 0, none⟩ = some (.slice none 0 0) := by simp [World.cell?, R7]
    have r1 : w7.cell? ⟨w.heap.size, 1, none⟩ = some (.slice none 0 0) := by simp [World.cell?, R7]
    have r2 : w7.cell? ⟨w.heap.size, 2, none⟩ = some (.int .u64 0) := by simp [World.cell?, R7]
    have r3 : w7.cell? ⟨w.heap.size, 3, none⟩ = some (.int .i64 0) := by simp [World.cell?, R7]
    have r4 : w7.cell? ⟨w.heap.size, 4, none⟩ = some (.int .i64 0) := by simp [World.cell?, R7]
    have r5 : w7.cell? ⟨w.heap.size, 5, none⟩ = some (.int .i64 0) := by simp [World.cell?, R7]
    have rf : ∀ j, w7.frozen? ⟨w.heap.size, j, none⟩ = false := fun j => by simp [World.frozen?, R7]
    have KB := Lib.hid (show Kept (fun x => x = m4 ∨ x = w.heap.size) w4 w7 from K47.mono fun _ h => .inl h)
    have RR7 := Lib.hid R7
    clear K47 G7 R7 a7 b7 G5 K45
    (
    go_wp2
    refine bodyPost_ret (results_cell_row rfl _ _ w.heap.size _ #[_, _, _, _, _, _] (0, 0) _ rfl (setCell_obj (setCell_obj (setCell_obj (setCell_obj (setCell_obj (setCell_obj RR7.out _) _) _) _) _) _) Try.underlying172 rfl (by kernel_rfl)) rfl ?_
    refine nd_done (Z1.out) (M4.out) (block_lt HQ.out) B1.out B2.out QQ.out K04.out Z2.out (Kept.setCell (Kept.setCell (Kept.setCell (Kept.setCell (Kept.setCell (Kept.setCell (KB.out) (.inl (.inr rfl)) _) (.inl (.inr rfl)) _) (.inl (.inr rfl)) _) (.inl (.inr rfl)) _) (.inl (.inr rfl)) _) (.inl (.inr rfl)) _) rfl ?_ ?_ ?_
    · simp [ndOf, Tr.size]
    all_goals
      have el := EL.out
      have er := ER.out
      simp only [true_iff, false_iff, iff_true, iff_false, reduceCtorEq] at el er
      simp [ndOf, el, er]))
  · have KB := Lib.hid (show Kept (fun x => x = m4 ∨ x = w.heap.size) w4 (w4.setCell ⟨m4, 4, none⟩ (.int .i64 (i + 1))) from (Kept.refl _ w4).setCell (.inl (.inl rfl)) _)
    have R3 := Kept.obj (w' := w4.setCell ⟨m4, 4, none⟩ (.int .i64 (i + 1))) ((Kept.refl (fun x => x = m4) w4).setCell (.inl rfl) _) (fun e => n2' e.symm) RR.out
    (
    go_wp2
    refine bodyPost_ret (results_cell_row rfl _ _ w.heap.size _ #[_, _, _, _, _, _] (0, 0) _ rfl (setCell_obj (setCell_obj (setCell_obj (setCell_obj (setCell_obj (setCell_obj R3 _) _) _) _) _) _) Try.underlying172 rfl (by kernel_rfl)) rfl ?_
    refine nd_done (Z1.out) (M4.out) (block_lt HQ.out) B1.out B2.out QQ.out K04.out Z2.out (Kept.setCell (Kept.setCell (Kept.setCell (Kept.setCell (Kept.setCell (Kept.setCell (KB.out) (.inl (.inr rfl)) _) (.inl (.inr rfl)) _) (.inl (.inr rfl)) _) (.inl (.inr rfl)) _) (.inl (.inr rfl)) _) (.inl (.inr rfl)) _) rfl ?_ ?_ ?_
    · simp [ndOf, Tr.size]
    all_goals
      have el := EL.out
      have er := ER.out
      simp only [true_iff, false_iff, iff_true, iff_false, reduceCtorEq] at el er
      simp [ndOf, el, er])
  · go_wp2_with fail
    (
    have G5 := Lib.hid (show (w4.setCell ⟨m4, 4, none⟩ (.int .i64 (i + 1))).heap[m4]? = _ from setCell_obj GG.out _)
    have K45 := Lib.hid (show Kept (fun x => x = m4) w4 (w4.setCell ⟨m4, 4, none⟩ (.int .i64 (i + 1))) from (Kept.refl (fun x => x = m4) w4).setCell (p := ⟨m4, 4, none⟩) (.inl rfl) (.int .i64 (i + 1)))
    have a0 := K45.out.cell (p := ⟨q, 0, none⟩) (fun e => n1' e.symm) qi
    have a3 := K45.out.cell (p := ⟨b, 3, none⟩) (fun e => n3' e.symm) i3
    have R5 := Lib.hid (K45.out.obj (p := w.heap.size) (fun e => n2' e.symm) RR.out)
    have hw3 : IntKind.i64.wrap (i + 1 + (l.size : Int)) = i + 1 + l.size := by have b := H0.out; have c := H1.out; exact IntWalk.i64_in _ ⟨by omega, by omega⟩
    have f5 : ((w4.setCell ⟨m4, 4, none⟩ (.int .i64 (i + 1)))).frozen? ⟨m4, 5, none⟩ = false := by have := G5.out; simp [World.frozen?, this]
    have c5 : ((w4.setCell ⟨m4, 4, none⟩ (.int .i64 (i + 1)))).cell? ⟨m4, 5, none⟩ = some (.int .i64 (-1)) := by have := G5.out; simp [World.cell?, this]
    have CH := Lib.hid (show childAt (w4.setCell ⟨m4, 4, none⟩ (.int .i64 (i + 1))) (some b3) l.size (l.dg seed) from (CL.out.kept K04.out fun x h => SQ.out x h).kept K45.out fun x h => by have := SB.out x h; have := M4.out; have := Z1.out; have := Z2.out; omega)
    clear j0 j1 j2 j3 j4 j5 jf r0 r1 r2 r3 r4 r5 rf i4
    refine wp_region_chain 10 [6, 9] (fun w' => w'.cell? ⟨q, 0, none⟩ = some (.int .i64 i) ∧ w'.cell? ⟨b, 3, none⟩ = some (.pointer (some ⟨b3, 0, none⟩))) (by kernel_rfl) (by kernel_rfl) ?_ ?_
    · exact ⟨a0, a3⟩
    simp only [List.take_succ_cons, List.take_zero, List.drop_succ_cons, List.drop_zero]
    iterate 6 (refine SeqY.val (v := ?_) (by rfl) (by rfl) (fun wx hSw => ?_) ?_; rotate_left; (focus ((try dsimp only at hSw); go_simp; (try with_reducible rfl))); (try simp only [Act.put, List.setIfInBounds_toArray, List.set_cons_zero, List.set_cons_succ]))
    refine SeqY.act (by rfl) rfl (by rfl) (by rfl) (fun K hK => ?_)
    go_simp
    refine (orcount_calls (w := ((w4.setCell ⟨m4, 4, none⟩ (.int .i64 (i + 1)))).drew) (p := (some b3)) (n := l.size) (d := l.dg seed) (CH.out.at rfl)).mono ?_
    rintro e w6 ⟨rfl, rfl⟩
    refine hK.out _ _ ⟨a0, a3⟩ ?_
    clear K hK
    (try simp only [Act.put, List.setIfInBounds_toArray, List.set_cons_zero, List.set_cons_succ])
    iterate 2 (refine SeqY.val (v := ?_) (by rfl) (by rfl) (fun wx hSw => ?_) ?_; rotate_left; (focus ((try dsimp only at hSw); go_simp; (try with_reducible rfl))); (try simp only [Act.put, List.setIfInBounds_toArray, List.set_cons_zero, List.set_cons_succ]))
    refine SeqY.act0 (by rfl) rfl (by rfl) (fun K hK => ?_)
    go_simp
    have K47 : Kept (fun x => x = m4) w4 (((w4.setCell ⟨m4, 4, none⟩ (.int .i64 (i + 1)))).setCell ⟨m4, 5, none⟩ (.int .i64 (i + 1 + (l.size : Int)))).drew := (K45.out.setCell (.inl rfl) _).drew
    have G7 : (((w4.setCell ⟨m4, 4, none⟩ (.int .i64 (i + 1)))).setCell ⟨m4, 5, none⟩ (.int .i64 (i + 1 + (l.size : Int)))).drew.heap[m4]? = _ := setCell_obj G5.out _
    have a7 := K47.cell (p := ⟨q, 0, none⟩) (fun e => n1' e.symm) qi
    have b7 := K47.cell (p := ⟨b, 3, none⟩) (fun e => n3' e.symm) i3
    refine hK.out _ ⟨a7, b7⟩ ?_
    clear K hK a0 a3 R5 f5 c5 CH
    refine SeqY.nil ?_
    have R7 := K47.obj (p := w.heap.size) (fun e => n2' e.symm) RR.out
    generalize (((w4.setCell ⟨m4, 4, none⟩ (.int .i64 (i + 1)))).setCell ⟨m4, 5, none⟩ (.int .i64 (i + 1 + (l.size : Int)))).drew = w7 at *
    have j0 : w7.cell? ⟨m4, 0, none⟩ = some (.slice b1 k.length n1) := by simp [World.cell?, G7]
    have j1 : w7.cell? ⟨m4, 1, none⟩ = some (.slice b2 v.length n2) := by simp [World.cell?, G7]
    have j2 : w7.cell? ⟨m4, 2, none⟩ = some (.int .u64 ((Tr.nd l k v r).dg seed)) := by simp [World.cell?, G7]
    have j3 : w7.cell? ⟨m4, 3, none⟩ = some (.int .i64 ((1 + l.size + r.size : Nat) : Int)) := by simp [World.cell?, G7]
    have j4 : w7.cell? ⟨m4, 4, none⟩ = some (.int .i64 (i + 1)) := by simp [World.cell?, G7]
    have j5 : w7.cell? ⟨m4, 5, none⟩ = some (.int .i64 (i + 1 + (l.size : Int))) := by simp [World.cell?, G7]
    have r0 : w7.cell? ⟨w.heap.size, 0, none⟩ = some (.slice none 0 0) := by simp [World.cell?, R7]
    have r1 : w7.cell? ⟨w.heap.size, 1, none⟩ = some (.slice none 0 0) := by simp [World.cell?, R7]
    have r2 : w7.cell? ⟨w.heap.size, 2, none⟩ = some (.int .u64 0) := by simp [World.cell?, R7]
    have r3 : w7.cell? ⟨w.heap.size, 3, none⟩ = some (.int .i64 0) := by simp [World.cell?, R7]
    have r4 : w7.cell? ⟨w.heap.size, 4, none⟩ = some (.int .i64 0) := by simp [World.cell?, R7]
    have r5 : w7.cell? ⟨w.heap.size, 5, none⟩ = some (.int .i64 0) := by simp [World.cell?, R7]
    have rf : ∀ j, w7.frozen? ⟨w.heap.size, j, none⟩ = false := fun j => by simp [World.frozen?, R7]
    have KB := Lib.hid (show Kept (fun x => x = m4 ∨ x = w.heap.size) w4 w7 from K47.mono fun _ h => .inl h)
    have RR7 := Lib.hid R7
    clear K47 G7 R7 a7 b7 G5 K45
    (
    go_wp2
    refine bodyPost_ret (results_cell_row rfl _ _ w.heap.size _ #[_, _, _, _, _, _] (0, 0) _ rfl (setCell_obj (setCell_obj (setCell_obj (setCell_obj (setCell_obj (setCell_obj RR7.out _) _) _) _) _) _) Try.underlying172 rfl (by kernel_rfl)) rfl ?_
    refine nd_done (Z1.out) (M4.out) (block_lt HQ.out) B1.out B2.out QQ.out K04.out Z2.out (Kept.setCell (Kept.setCell (Kept.setCell (Kept.setCell (Kept.setCell (Kept.setCell (KB.out) (.inl (.inr rfl)) _) (.inl (.inr rfl)) _) (.inl (.inr rfl)) _) (.inl (.inr rfl)) _) (.inl (.inr rfl)) _) (.inl (.inr rfl)) _) rfl ?_ ?_ ?_
    · simp [ndOf, Tr.size]
    all_goals
      have el := EL.out
      have er := ER.out
      simp only [true_iff, false_iff, iff_true, iff_false, reduceCtorEq] at el er
      simp [ndOf, el, er]))
end Go.Proofs.Ytaopjdjbpamhhaa
