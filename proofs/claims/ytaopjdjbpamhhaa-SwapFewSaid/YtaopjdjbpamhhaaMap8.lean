/- Proved: contracts of gather over images' rows, and of the map's function Image. Conditions: maps in memory. -/
import Derived.Test.YtaopjdjbpamhhaaMap7
namespace Go.Proofs.Ytaopjdjbpamhhaa
open Go Go.RowKit
set_option linter.unusedVariables false
set_option linter.unusedSimpArgs false

theorem tRows : SlT Try.prog 51 31 1 24 (.slice none 0 0) := SlT.of (by kernel_rfl) (by kernel_rfl) rfl (by decide)
theorem Tr.rows_len : ∀ t : Tr, t.rows.length = t.size
  | nil => rfl
  | nd l k v r => by simp only [Tr.rows, Tr.size, List.length_cons, List.length_append, rows_len l, rows_len r]; omega

set_option maxRecDepth 100000 in
set_option maxHeartbeats 4000000 in
theorem orgather_rows {seed : Int} {D : Nat → Prop} {B : Nat} (hD : ∀ b, D b → b < B) : ∀ (t : Tr) (p : Option Nat) (S : List Nat) (w : World) (vo : Value) (out : List Bts), TreeAt seed D w t p S → t.ok → (∀ b ∈ S, b < B) → B ≤ w.heap.size →
    Own 31 bytesEl (fun b => B ≤ b) B w vo out → (out.length + t.size) * 24 ≤ 140737488355328 →
    Calls Try.prog 127 #[ptr p, vo, .func (.func 128) #[] #[]] w fun e w' => ∃ v', e = .returned v' ∧ Own 31 bytesEl (fun b => B ≤ b) B w' v' (out ++ t.rows) ∧ Kept (fun b => B ≤ b) w w' := by
  intro t
  induction t with
  | nil =>
    intro p S w vo out ht ok hS hB ho hb
    obtain ⟨rfl, rfl⟩ := ht
    have HO := Lib.hid ho
    obtain ⟨a, c, rfl⟩ := ho.slice
    clear ho
    change Calls _ _ #[.pointer none, _, _] _ _
    go_enter Try.func127, Try.ntmps127
    go_wp2
    go_ret
    exact ⟨_, rfl, by simpa [Tr.rows] using HO.out, Kept.refl _ _⟩
  | nd l k v r il ir =>
    intro p S w vo out ht ok hS hB ho hb
    have IL := Lib.hid il
    have IR := Lib.hid ir
    have HO := Lib.hid ho
    have HS := Lib.hid hS
    have HB := Lib.hid hB
    have BY := Lib.hid hb
    have OK := Lib.hid ok
    have HT := Lib.hid ht
    obtain ⟨b, pl, pr, Sl, Sr, kv, vv, rfl, rfl, hob, hkv, hvv, hl, hr⟩ := ht
    obtain ⟨a1, n1, c1', rfl⟩ := ho.slice'
    obtain ⟨_, _, _, c3, c4, _, _, _⟩ := NodeAt.of hob
    have L := Lib.hid hl
    have R := Lib.hid hr
    clear hob hkv hvv hl hr il ir ho hS hB hb ok
    change Calls _ _ #[.pointer (some ⟨b, 0, none⟩), _, _] _ _
    go_enter Try.func127, Try.ntmps127
    go_wp2_with fail
    refine wp_region_chain 19 [11, 12, 13, 15, 17] (fun w' => w'.cell? ⟨b, 3, none⟩ = some (ptr pl) ∧ w'.cell? ⟨b, 4, none⟩ = some (ptr pr)) (by kernel_rfl) (by kernel_rfl) ?_ ?_
    · exact ⟨c3, c4⟩
    simp only [List.take_succ_cons, List.take_zero, List.drop_succ_cons, List.drop_zero]
    iterate 11 (refine SeqY.val (v := ?_) (by rfl) (by rfl) (fun wx hSw => ?_) ?_; rotate_left; (focus ((try dsimp only at hSw); go_simp; (try with_reducible rfl))); (try simp only [Act.put, List.setIfInBounds_toArray, List.set_cons_zero, List.set_cons_succ]))
    refine SeqY.act (by rfl) rfl (by rfl) (by rfl) (fun K hK => ?_)
    go_simp
    refine (orImage_1_calls (w := w.drew) (p := some b) (l := l) (k := k) (v := v) (r := r) (HT.out.at rfl) OK.out.2.1.2.1 OK.out.2.1.2.2).mono ?_
    rintro e w1 ⟨v1, rfl, o1, k1⟩
    have hbB : b < B := HS.out b (by simp)
    have K1 := Lib.hid (show Kept Noneof w w1 from ⟨k1.os, k1.tape, k1.output, k1.size, k1.block⟩)
    have O1 := Lib.hid (show Own 5 byteEl Noneof w.heap.size w1 v1 (rowB l k v r) from o1)
    have d3 := k1.cell (p := ⟨b, 3, none⟩) (fun h => h) c3
    have d4 := k1.cell (p := ⟨b, 4, none⟩) (fun h => h) c4
    obtain ⟨a2, n2, c2', rfl⟩ := o1.slice'
    refine hK.out _ _ ⟨d3, d4⟩ ?_
    clear K hK o1 k1 c3 c4
    (try simp only [Act.put, List.setIfInBounds_toArray, List.set_cons_zero, List.set_cons_succ])
    refine SeqY.act (by rfl) rfl (by rfl) (by rfl) (fun K hK => ?_)
    go_simp
    have G3 := heap_alloc_new w1 (.cells #[.slice a2 n2 c2'] 31)
    have K3 := Lib.hid ((Kept.refl Noneof w1).alloc (.cells #[.slice a2 n2 c2'] 31))
    have f3 := K3.out.cell (p := ⟨b, 3, none⟩) (fun h => h) d3
    have f4 := K3.out.cell (p := ⟨b, 4, none⟩) (fun h => h) d4
    refine hK.out _ _ ⟨f3, f4⟩ ?_
    generalize w1.alloc (.cells #[.slice a2 n2 c2'] 31) = w3 at *
    clear K hK d3 d4
    (try simp only [Act.put, List.setIfInBounds_toArray, List.set_cons_zero, List.set_cons_succ])
    refine SeqY.act (by rfl) rfl (by rfl) (by rfl) (fun K hK => ?_)
    have O3 := Lib.hid ((HO.out.kept K1.out fun _ h => h.elim).kept K3.out fun _ h => h.elim)
    have hs1 := K1.out.size
    have hs3 := K3.out.size
    have hB := HB.out
    have lo := Lib.hid HO.out.lt
    have lw := Lib.hid O1.out.lt
    refine wp_app_one (E := bytesEl) (.tmp 18) (.tmp 22) _ rfl tRows (D' := fun x => w.heap.size ≤ x) _ out rfl O3.out w1.heap.size _ (rowB l k v r) rfl ⟨_, _, G3⟩ ⟨_, rfl, (O1.out.rd (fun _ h => h.elim) fun x hx => (lw.out x hx).1).kept byteEl_k K3.out (fun _ _ _ h => h)⟩ (fun x hx _ => ⟨by have : w.heap.size ≤ x := hx; omega, fun he => by have := (lo.out x he).2; have : w.heap.size ≤ x := hx; omega⟩) (by have := BY.out; simp only [Tr.size] at this ⊢; omega) (by decide) (by omega) ?_
    rintro v4 w4 o4 k4 hb4
    have K4 := Lib.hid (show Kept (fun b => B ≤ b) w w4 from (K1.out.mono (fun _ h => h.elim) |>.trans K3.out fun _ h => h.elim).trans k4 fun x hx => .inl (lo.out x hx).1)
    have g3 := k4.cell (p := ⟨b, 3, none⟩) (fun hx => by have := (lo.out b hx).1; omega) f3
    have g4 := k4.cell (p := ⟨b, 4, none⟩) (fun hx => by have := (lo.out b hx).1; omega) f4
    refine hK.out _ _ ⟨g3, g4⟩ ?_
    have O4 := Lib.hid o4
    obtain ⟨a4, n4, c4', rfl⟩ := o4.slice'
    clear K hK o4 k4 f3 f4 hb4 G3 hs1 hs3
    (try simp only [Act.put, List.setIfInBounds_toArray, List.set_cons_zero, List.set_cons_succ])
    (refine SeqY.val (v := ?_) (by rfl) (by rfl) (fun wx hSw => ?_) ?_; rotate_left; (focus ((try dsimp only at hSw); go_simp; (try with_reducible rfl))); (try simp only [Act.put, List.setIfInBounds_toArray, List.set_cons_zero, List.set_cons_succ]))
    refine SeqY.act (by rfl) rfl (by rfl) (by rfl) (fun K hK => ?_)
    go_simp
    have hs4 := K4.out.size
    refine (IL.out pl Sl w4 _ (out ++ [rowB l k v r]) (L.out.kept K4.out (fun x h _ (h2 : B ≤ x) => by have := hD x h; omega) fun x hx (h2 : B ≤ x) => by have := HS.out x (by simp [hx]); omega) OK.out.1 (fun x hx => HS.out x (by simp [hx])) (by omega) O4.out (by have := BY.out; simp only [Tr.size, List.length_append, List.length_cons, List.length_nil] at this ⊢; omega)).mono ?_
    rintro e w5 ⟨v5, rfl, o5, k5⟩
    have h3 := k5.cell (p := ⟨b, 3, none⟩) (fun (h2 : B ≤ b) => by omega) g3
    have h4 := k5.cell (p := ⟨b, 4, none⟩) (fun (h2 : B ≤ b) => by omega) g4
    refine hK.out _ _ ⟨h3, h4⟩ ?_
    have O5 := Lib.hid o5
    have K5 := Lib.hid (K4.out.tr k5)
    obtain ⟨a5, n5, c5', rfl⟩ := o5.slice'
    clear K hK o5 k5 g3 g4
    (try simp only [Act.put, List.setIfInBounds_toArray, List.set_cons_zero, List.set_cons_succ])
    (refine SeqY.val (v := ?_) (by rfl) (by rfl) (fun wx hSw => ?_) ?_; rotate_left; (focus ((try dsimp only at hSw); go_simp; (try with_reducible rfl))); (try simp only [Act.put, List.setIfInBounds_toArray, List.set_cons_zero, List.set_cons_succ]))
    refine SeqY.act (by rfl) rfl (by rfl) (by rfl) (fun K hK => ?_)
    go_simp
    have hs5 := K5.out.size
    refine (IR.out pr Sr w5 _ (out ++ [rowB l k v r] ++ l.rows) (R.out.kept K5.out (fun x h _ (h2 : B ≤ x) => by have := hD x h; omega) fun x hx (h2 : B ≤ x) => by have := HS.out x (by simp [hx]); omega) OK.out.2.2 (fun x hx => HS.out x (by simp [hx])) (by omega) O5.out (by have := BY.out; simp only [Tr.size, List.length_append, List.length_cons, List.length_nil, Tr.rows_len] at this ⊢; omega)).mono ?_
    rintro e w6 ⟨v6, rfl, o6, k6⟩
    refine hK.out _ _ ⟨k6.cell (p := ⟨b, 3, none⟩) (fun (h2 : B ≤ b) => by omega) h3, k6.cell (p := ⟨b, 4, none⟩) (fun (h2 : B ≤ b) => by omega) h4⟩ ?_
    have O6 := Lib.hid o6
    have K6 := Lib.hid (K5.out.tr k6)
    obtain ⟨a6, n6, c6', rfl⟩ := o6.slice'
    clear K hK o6 k6 h3 h4
    (try simp only [Act.put, List.setIfInBounds_toArray, List.set_cons_zero, List.set_cons_succ])
    (refine SeqY.val (v := ?_) (by rfl) (by rfl) (fun wx hSw => ?_) ?_; rotate_left; (focus ((try dsimp only at hSw); go_simp; (try with_reducible rfl))); (try simp only [Act.put, List.setIfInBounds_toArray, List.set_cons_zero, List.set_cons_succ]))
    refine SeqY.nil ?_
    go_wp2
    go_ret
    refine ⟨_, rfl, ?_, K6.out⟩
    have := O6.out
    rwa [List.append_assoc, List.append_assoc, List.singleton_append] at this
end Go.Proofs.Ytaopjdjbpamhhaa
