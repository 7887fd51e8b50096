/- Proved: contract of gather over nodes. Conditions: nodes as a tree in memory. -/
import Derived.Test.YtaopjdjbpamhhaaMap9
namespace Go.Proofs.Ytaopjdjbpamhhaa
open Go Go.RowKit
set_option linter.unusedVariables false
set_option linter.unusedSimpArgs false

theorem tNodes : SlT Try.prog 166 172 6 80 (.agg #[.slice none 0 0, .slice none 0 0, .int .u64 0, .int .i64 0, .int .i64 0, .int .i64 0]) := SlT.of (by kernel_rfl) (by kernel_rfl) rfl (by decide)
set_option maxRecDepth 100000 in
set_option maxHeartbeats 4000000 in
theorem orgather_nodes {seed : Int} {D : Nat → Prop} {B q : Nat} (hD : ∀ b, D b → b < B ∧ b ≠ q) (hqB : q < B) : ∀ (t : Tr) (p : Option Nat) (S : List Nat) (w : World) (vo : Value) (out : List ND) (j i : Int), TreeAt seed D w t p S → (∀ b ∈ S, b < B ∧ b ≠ q) → B ≤ w.heap.size → w.heap[q]? = some (intObj j) → j + 1 = i → 0 ≤ i → i + t.size ≤ 1000000000 →
    Own 172 nodeEl (fun b => B ≤ b) B w vo out → (out.length + t.size) * 80 ≤ 140737488355328 →
    Calls Try.prog 157 #[ptr p, vo, .func (.func 158) #[] #[.pointer (some ⟨q, 0, none⟩)]] w fun e w' => ∃ v', e = .returned v' ∧ Own 172 nodeEl (fun b => B ≤ b) B w' v' (out ++ t.nodes seed i) ∧ w'.heap[q]? = some (intObj (j + t.size)) ∧ Kept (fun b => b = q ∨ B ≤ b) w w' := by
  intro t
  induction t with
  | nil =>
    intro p S w vo out j i ht hS hB hq hi h0 hsz ho hb
    obtain ⟨rfl, rfl⟩ := ht
    have HO := Lib.hid ho
    have HQ := Lib.hid hq
    obtain ⟨a, c, rfl⟩ := ho.slice
    clear ho hq hi h0 hsz
    change Calls _ _ #[.pointer none, _, _] _ _
    go_enter Try.func157, Try.ntmps157
    go_wp2
    go_ret
    exact ⟨_, rfl, by simpa [Tr.nodes] using HO.out, by simpa [Tr.size] using HQ.out, Kept.refl _ _⟩
  | nd l k v r il ir =>
    intro p S w vo out j i ht hS hB hq hi h0 hsz ho hb
    have IL := Lib.hid il
    have IR := Lib.hid ir
    have HO := Lib.hid ho
    have HS := Lib.hid hS
    have HB := Lib.hid hB
    have BY := Lib.hid hb
    have HQ := Lib.hid hq
    have HI := Lib.hid hi
    have H0 := Lib.hid h0
    have SZ := Lib.hid hsz
    have HT := Lib.hid ht
    obtain ⟨b, pl, pr, Sl, Sr, kv, vv, rfl, rfl, hob, hkv, hvv, hl, hr⟩ := ht
    obtain ⟨a1, n1, c1', rfl⟩ := ho.slice'
    obtain ⟨_, _, _, c3, c4, _, _, _⟩ := NodeAt.of hob
    have L := Lib.hid hl
    have R := Lib.hid hr
    clear hob hkv hvv hl hr il ir ho hS hB hb hq hi h0 hsz
    change Calls _ _ #[.pointer (some ⟨b, 0, none⟩), _, _] _ _
    go_enter Try.func157, Try.ntmps157
    go_wp2_with fail
    refine wp_region_chain 19 [11, 12, 13, 15, 17] (fun w' => w'.cell? ⟨b, 3, none⟩ = some (ptr pl) ∧ w'.cell? ⟨b, 4, none⟩ = some (ptr pr)) (by kernel_rfl) (by kernel_rfl) ?_ ?_
    · exact ⟨c3, c4⟩
    simp only [List.take_succ_cons, List.take_zero, List.drop_succ_cons, List.drop_zero]
    iterate 11 (refine SeqY.val (v := ?_) (by rfl) (by rfl) (fun wx hSw => ?_) ?_; rotate_left; (focus ((try dsimp only at hSw); go_simp; (try with_reducible rfl))); (try simp only [Act.put, List.setIfInBounds_toArray, List.set_cons_zero, List.set_cons_succ]))
    refine SeqY.act (by rfl) rfl (by rfl) (by rfl) (fun K hK => ?_)
    go_simp
    refine (orMap_Nodes_1_calls (w := w.drew) (p := some b) (l := l) (k := k) (v := v) (r := r) (HT.out.at rfl) (show w.drew.heap[q]? = _ from HQ.out) HI.out (fun h => (HS.out q h).2 rfl) (fun h => (hD q h).2 rfl) H0.out (by have := SZ.out; simp only [Tr.size] at this; omega)).mono ?_
    rintro e w1 ⟨k', v', rfl, o1, o2, q1, k1⟩
    have hbQ : b ≠ q := (HS.out b (by simp)).2
    have hbB : b < B := (HS.out b (by simp)).1
    have K1 := Lib.hid (show Kept (fun x => x = q) w w1 from ⟨k1.os, k1.tape, k1.output, k1.size, k1.block⟩)
    have O1 := Lib.hid (show BV (fun x => w.heap.size ≤ x) w1 k' k from o1)
    have O2 := Lib.hid (show BV (fun x => w.heap.size ≤ x) w1 v' v from o2)
    have Q1 := Lib.hid q1
    have d3 := k1.cell (p := ⟨b, 3, none⟩) hbQ c3
    have d4 := k1.cell (p := ⟨b, 4, none⟩) hbQ c4
    obtain ⟨b1, n1', rfl, _⟩ := id o1
    obtain ⟨b2, n2', rfl, _⟩ := id o2
    refine hK.out _ _ ⟨d3, d4⟩ ?_
    clear K hK o1 o2 q1 k1 c3 c4
    (try simp only [Act.put, List.setIfInBounds_toArray, List.set_cons_zero, List.set_cons_succ])
    refine SeqY.act (by rfl) rfl (by rfl) (by rfl) (fun K hK => ?_)
    go_simp
    have G3 := heap_alloc_new w1 (.cells #[.slice b1 k.length n1', .slice b2 v.length n2', .int .u64 (ndOf seed l k v r i).dg, .int .i64 (ndOf seed l k v r i).size, .int .i64 (ndOf seed l k v r i).left, .int .i64 (ndOf seed l k v r i).right] 172)
    have K3 := Lib.hid ((Kept.refl Noneof w1).alloc (.cells #[.slice b1 k.length n1', .slice b2 v.length n2', .int .u64 (ndOf seed l k v r i).dg, .int .i64 (ndOf seed l k v r i).size, .int .i64 (ndOf seed l k v r i).left, .int .i64 (ndOf seed l k v r i).right] 172))
    have f3 := K3.out.cell (p := ⟨b, 3, none⟩) (fun h => h) d3
    have f4 := K3.out.cell (p := ⟨b, 4, none⟩) (fun h => h) d4
    refine hK.out _ _ ⟨f3, f4⟩ ?_
    generalize w1.alloc (.cells #[.slice b1 k.length n1', .slice b2 v.length n2', .int .u64 (ndOf seed l k v r i).dg, .int .i64 (ndOf seed l k v r i).size, .int .i64 (ndOf seed l k v r i).left, .int .i64 (ndOf seed l k v r i).right] 172) = w3 at *
    clear K hK d3 d4
    (try simp only [Act.put, List.setIfInBounds_toArray, List.set_cons_zero, List.set_cons_succ])
    refine SeqY.act (by rfl) rfl (by rfl) (by rfl) (fun K hK => ?_)
    have lo := Lib.hid HO.out.lt
    have O3 := Lib.hid ((HO.out.kept K1.out fun x h _ => ⟨fun (h2 : B ≤ x) => by omega, fun h2 => by have := (lo.out x h2).1; omega⟩).kept K3.out fun _ h => h.elim)
    have hs1 := K1.out.size
    have hs3 := K3.out.size
    have hB := HB.out
    have Q3 := K3.out.obj (fun h => h) Q1.out
    refine wp_app_one (E := nodeEl) (.tmp 18) (.tmp 22) _ rfl tNodes (D' := fun x => w.heap.size ≤ x) _ out rfl O3.out w1.heap.size _ (ndOf seed l k v r i) rfl ⟨_, _, G3⟩ ⟨_, _, rfl, O1.out.kept byteEl_k K3.out (fun _ _ _ h => h), O2.out.kept byteEl_k K3.out fun _ _ _ h => h⟩ (fun x hx _ => ⟨by have : w.heap.size ≤ x := hx; omega, fun he => by have := (lo.out x he).2; have : w.heap.size ≤ x := hx; omega⟩) (by have := BY.out; simp only [Tr.size] at this ⊢; omega) (by decide) (by omega) ?_
    rintro v4 w4 o4 k4 hb4
    have K4 := Lib.hid (show Kept (fun b => b = q ∨ B ≤ b) w w4 from ((K1.out.mono fun _ h => .inl h).trans K3.out fun _ h => h.elim).trans k4 fun x hx => .inl (.inr (lo.out x hx).1))
    have Q4 := Lib.hid (k4.obj (p := q) (fun hx => by have := (lo.out q hx).1; omega) Q3)
    have g3 := k4.cell (p := ⟨b, 3, none⟩) (fun hx => by have := (lo.out b hx).1; omega) f3
    have g4 := k4.cell (p := ⟨b, 4, none⟩) (fun hx => by have := (lo.out b hx).1; omega) f4
    refine hK.out _ _ ⟨g3, g4⟩ ?_
    have O4 := Lib.hid o4
    obtain ⟨a4, n4, c4', rfl⟩ := o4.slice'
    clear K hK o4 k4 f3 f4 hb4 G3 hs1 hs3 Q3
    (try simp only [Act.put, List.setIfInBounds_toArray, List.set_cons_zero, List.set_cons_succ])
    (refine SeqY.val (v := ?_) (by rfl) (by rfl) (fun wx hSw => ?_) ?_; rotate_left; (focus ((try dsimp only at hSw); go_simp; (try with_reducible rfl))); (try simp only [Act.put, List.setIfInBounds_toArray, List.set_cons_zero, List.set_cons_succ]))
    refine SeqY.act (by rfl) rfl (by rfl) (by rfl) (fun K hK => ?_)
    go_simp
    have hs4 := K4.out.size
    refine (IL.out pl Sl w4 _ (out ++ [ndOf seed l k v r i]) i (i + 1) (L.out.kept K4.out (fun x h _ (h2 : x = q ∨ B ≤ x) => by have := hD x h; omega) fun x hx (h2 : x = q ∨ B ≤ x) => by have := HS.out x (by simp [hx]); omega) (fun x hx => HS.out x (by simp [hx])) (by omega) Q4.out rfl (by have := H0.out; omega) (by have := SZ.out; simp only [Tr.size] at this; omega) O4.out (by have := BY.out; simp only [Tr.size, List.length_append, List.length_cons, List.length_nil] at this ⊢; omega)).mono ?_
    rintro e w5 ⟨v5, rfl, o5, q5, k5⟩
    have Q5 := Lib.hid q5
    have h3 := k5.cell (p := ⟨b, 3, none⟩) (fun (h2 : b = q ∨ B ≤ b) => by omega) g3
    have h4 := k5.cell (p := ⟨b, 4, none⟩) (fun (h2 : b = q ∨ B ≤ b) => by omega) g4
    refine hK.out _ _ ⟨h3, h4⟩ ?_
    have O5 := Lib.hid o5
    have K5 := Lib.hid (K4.out.tr k5)
    obtain ⟨a5, n5, c5', rfl⟩ := o5.slice'
    clear K hK o5 k5 g3 g4 q5
    (try simp only [Act.put, List.setIfInBounds_toArray, List.set_cons_zero, List.set_cons_succ])
    (refine SeqY.val (v := ?_) (by rfl) (by rfl) (fun wx hSw => ?_) ?_; rotate_left; (focus ((try dsimp only at hSw); go_simp; (try with_reducible rfl))); (try simp only [Act.put, List.setIfInBounds_toArray, List.set_cons_zero, List.set_cons_succ]))
    refine SeqY.act (by rfl) rfl (by rfl) (by rfl) (fun K hK => ?_)
    go_simp
    have hs5 := K5.out.size
    refine (IR.out pr Sr w5 _ (out ++ [ndOf seed l k v r i] ++ l.nodes seed (i + 1)) (i + l.size) (i + 1 + l.size) (R.out.kept K5.out (fun x h _ (h2 : x = q ∨ B ≤ x) => by have := hD x h; omega) fun x hx (h2 : x = q ∨ B ≤ x) => by have := HS.out x (by simp [hx]); omega) (fun x hx => HS.out x (by simp [hx])) (by omega) Q5.out (by omega) (by have := H0.out; omega) (by have := SZ.out; simp only [Tr.size] at this; omega) O5.out (by have := BY.out; simp only [Tr.size, List.length_append, List.length_cons, List.length_nil, Tr.nodes_len] at this ⊢; omega)).mono ?_
    rintro e w6 ⟨v6, rfl, o6, q6, k6⟩
    have Q6 := Lib.hid q6
    refine hK.out _ _ ⟨k6.cell (p := ⟨b, 3, none⟩) (fun (h2 : b = q ∨ B ≤ b) => by omega) h3, k6.cell (p := ⟨b, 4, none⟩) (fun (h2 : b = q ∨ B ≤ b) => by omega) h4⟩ ?_
    have O6 := Lib.hid o6
    have K6 := Lib.hid (K5.out.tr k6)
    obtain ⟨a6, n6, c6', rfl⟩ := o6.slice'
    clear K hK o6 k6 h3 h4 q6
    (try simp only [Act.put, List.setIfInBounds_toArray, List.set_cons_zero, List.set_cons_succ])
    (refine SeqY.val (v := ?_) (by rfl) (by rfl) (fun wx hSw => ?_) ?_; rotate_left; (focus ((try dsimp only at hSw); go_simp; (try with_reducible rfl))); (try simp only [Act.put, List.setIfInBounds_toArray, List.set_cons_zero, List.set_cons_succ]))
    refine SeqY.nil ?_
    go_wp2
    go_ret
    refine ⟨_, rfl, ?_, ?_, K6.out⟩
    · have := O6.out
      rwa [List.append_assoc, List.append_assoc, List.singleton_append] at this
    · have := Q6.out
      have hi := HI.out
      rw [this, show i + (l.size : Int) + r.size = j + ((Tr.nd l k v r).size : Nat) by simp only [Tr.size]; omega]
end Go.Proofs.Ytaopjdjbpamhhaa
