/- Proved: contracts of the map's function Image. Conditions: maps in memory. -/
import Derived.Test.YtaopjdjbpamhhaaMap6
namespace Go.Proofs.Ytaopjdjbpamhhaa
open Go Go.RowKit
set_option linter.unusedVariables false
set_option linter.unusedSimpArgs false

/-- The bytes of a node in an image. -/
def rowB (l : Tr) (k v : Bts) (r : Tr) : Bts :=
  [(if l.size = 0 then 0 else 1) + (if r.size = 0 then 0 else 2), UInt8.ofNat k.length] ++ leI v.length 2 ++ k ++ v
def Tr.rows : Tr → List Bts
  | nil => []
  | nd l k v r => rowB l k v r :: (l.rows ++ r.rows)

theorem SeqY.alloc {P : Program} {ops : Array Oper} {S : World → Prop} {acts : List Nat} {Fin : Act → World → Prop} {k : Nat} {l : List Oper} {a : Act} {w : World} {o : Obj} (h : ∀ w', w'.heap[w.heap.size]? = some o → Kept Noneof w w' → w.heap.size < w'.heap.size → SeqY P ops S acts Fin k l a w') : SeqY P ops S acts Fin k l a (w.alloc o) :=
  h _ (heap_alloc_new w o) ((Kept.refl Noneof w).alloc o) (block_lt (heap_alloc_new w o))
theorem two_bytes {D : Nat → Prop} {w : World} {x y : UInt8} {i j : Int} (hi : i = ((x.toNat : Nat) : Int)) (hj : j = ((y.toNat : Nat) : Int)) : Cells byteEl D w [.int .u8 i, .int .u8 j] [x, y] := by
  subst hi
  subst hj
  exact ⟨[_], [_], rfl, rfl, [_], [], rfl, rfl, rfl⟩
theorem wp_app_two {K : Act → World → Prop} {w : World} {o : Oper} {a : Act} {Q : Exit → Act → World → Prop} (s x : Operand) (ho : o.op = .call { callee := .builtin .append, args := #[s, x], argTypes := #[31, 31] })
    (hs : a.eval s = .slice none 0 0) {g : Nat} (hx : a.eval x = .slice (some ⟨g, 0, none⟩) 2 2) {i j : Int} {e' : TypeId} {f : Nat × Nat} (hg : w.heap[g]? = some (.cells #[.int .u8 i, .int .u8 j] e' f)) (c d : UInt8) (hi : i = ((c.toNat : Nat) : Int)) (hj : j = ((d.toNat : Nat) : Int))
    (h : ∀ v' w', Own 5 byteEl Noneof w.heap.size w' v' [c, d] → Kept Noneof w w' → K (a.put o.dst v') w') : o.wp Try.prog a w K Q := by
  refine wp_app (E := byteEl) s x _ ho tBytes (D := Noneof) (D' := Noneof) (B := w.heap.size) _ [] hs (Own.nil _ _ _ _ _) _ 2 [c, d] hx (by simp) (fun h => by cases h) _ (two_bytes hi hj) (fun q u hu => ⟨_, rfl, ?_⟩) (fun _ h => h.elim) (by simp) (by decide) (Nat.le_refl _) fun v' w' k1 k2 k3 _ => h v' w' k1 (k2.mono fun _ h => by cases h)
  rw [Addr.add_lit, Nat.zero_add]
  simp [World.cell?, hg, hu]
theorem wp_app_bytes {P : Program} {ops : Array Oper} {K : Act → World → Prop} {w : World} {o : Oper} {a : Act} {Q : Exit → Act → World → Prop} (hgd : o.guard = none) (s x : Operand) (t : TypeId) (ho : o.op = .call { callee := .builtin .append, args := #[s, x], argTypes := #[t, t] })
    {e : TypeId} {z : Value} (T : SlT P t e 1 1 z) {D' : Nat → Prop} {B : Nat} (v : Value) (l : Bts) (hs : a.eval s = v) (hown : Own e byteEl Noneof B w v l)
    (vx : Value) (m : Bts) (hx : a.eval x = vx) (hm : SV byteEl D' w vx m) (hbytes : l.length + m.length ≤ 140737488355328) (hbase : B ≤ w.heap.size)
    (h : ∀ v' w', Own e byteEl Noneof B w' v' (l ++ m) → Kept (fun k => v.ownBlock = some k) w w' → (∀ b, v'.ownBlock = some b → v.ownBlock = some b ∨ w.heap.size ≤ b) → K (a.put o.dst v') w') : o.wp P a w K Q := by
  obtain ⟨ao, c, rfl, ⟨hc, hn⟩, _, hr⟩ := hm
  obtain ⟨news, h1, h2⟩ := hr.cells
  exact wp_app (E := byteEl) s x t ho T v l hs hown ao c m hx hc hn news (h1.bytes (D' := Noneof)) h2 (fun _ h => h.elim) (by omega) (by decide) hbase fun v' w' k1 k2 k3 _ => h v' w' k1 k2 k3
theorem TreeAt.empty {seed : Int} {D : Nat → Prop} {w : World} {t : Tr} {p : Option Nat} {S : List Nat} (h : TreeAt seed D w t p S) : t.size = 0 ↔ p = none := by
  cases t with
  | nil => obtain ⟨rfl, _⟩ := h; simp [Tr.size]
  | nd l k v r =>
    obtain ⟨b, _, _, _, _, _, _, rfl, _⟩ := h
    simp [Tr.size]

set_option maxRecDepth 100000 in
set_option maxHeartbeats 2000000 in
theorem orImage_1_calls {seed : Int} {D : Nat → Prop} {w : World} {p : Option Nat} {S : List Nat} {l r : Tr} {k v : Bts} (ht : TreeAt seed D w (.nd l k v r) p S) (hkl : k.length ≤ 64) (hvl : v.length ≤ 1000) :
    Calls Try.prog 128 #[ptr p] w fun e w' => ∃ v', e = .returned v' ∧ Own 5 byteEl Noneof w.heap.size w' v' (rowB l k v r) ∧ Kept Noneof w w' := by
  obtain ⟨b, pl, pr, Sl, Sr, kv, vv, rfl, rfl, hob, hkv, hvv, hl, hr⟩ := ht
  obtain ⟨a1, n1, rfl, _⟩ := id hkv
  obtain ⟨a2, n2, rfl, _⟩ := id hvv
  obtain ⟨c0, c1, _, c3, c4, _, _, _⟩ := NodeAt.of hob
  have KV := Lib.hid hkv
  have VV := Lib.hid hvv
  have L := Lib.hid hl
  have R := Lib.hid hr
  have el : l.size = 0 ↔ pl = none := TreeAt.empty hl
  have er : r.size = 0 ↔ pr = none := TreeAt.empty hr
  have hb := byte_nat k.length (by omega)
  have HK := Lib.hid hkl
  have HV := Lib.hid hvl
  clear hob hkv hvv hl hr hkl hvl
  change Calls _ _ #[.pointer (some ⟨b, 0, none⟩)] _ _
  rcases pl with _ | b3 <;> rcases pr with _ | b4
  all_goals
    have el := Lib.hid el
    have er := Lib.hid er
    go_enter Try.func128, Try.ntmps128
    go_wp2_with fail
    refine wp_region_chain 17 [8, 9, 16] (fun w' => w'.cell? ⟨b, 0, none⟩ = some (.slice a1 k.length n1) ∧ w'.cell? ⟨b, 1, none⟩ = some (.slice a2 v.length n2)) (by kernel_rfl) (by kernel_rfl) ?_ ?_
    · exact ⟨c0, c1⟩
    simp only [List.take_succ_cons, List.take_zero, List.drop_succ_cons, List.drop_zero]
    iterate 8 (refine SeqY.val (v := ?_) (by rfl) (by rfl) (fun wx hSw => ?_) ?_; rotate_left; (focus ((try dsimp only at hSw); go_simp; (try with_reducible rfl))); (try simp only [Act.put, List.setIfInBounds_toArray, List.set_cons_zero, List.set_cons_succ]))
    refine SeqY.act (by rfl) rfl (by rfl) (by rfl) (fun K hK => ?_)
    go_simp
    refine hK.out _ _ ⟨((Kept.refl Noneof _).alloc _).cell (p := ⟨b, 0, none⟩) (fun h => h) c0, ((Kept.refl Noneof _).alloc _).cell (p := ⟨b, 1, none⟩) (fun h => h) c1⟩ ?_
    refine SeqY.alloc (w := w.drew) fun w3 G3 K3 hs3 => ?_
    have K4 := Lib.hid (show Kept Noneof w w3 from ⟨K3.os, K3.tape, K3.output, K3.size, K3.block⟩)
    clear K hK
    (try simp only [Act.put, List.setIfInBounds_toArray, List.set_cons_zero, List.set_cons_succ])
    refine SeqY.act (by rfl) rfl (by rfl) (by rfl) (fun K hK => ?_)
    have hk8 : (k.length : Int) = (((UInt8.ofNat k.length).toNat : Nat) : Int) := by have := HK.out; simp; omega
    first | refine wp_app_two (.tmp 17) (.tmp 25) rfl rfl rfl G3 0 _ rfl hk8 ?_ | refine wp_app_two (.tmp 17) (.tmp 25) rfl rfl rfl G3 1 _ rfl hk8 ?_ | refine wp_app_two (.tmp 17) (.tmp 25) rfl rfl rfl G3 2 _ rfl hk8 ?_ | refine wp_app_two (.tmp 17) (.tmp 25) rfl rfl rfl G3 3 _ rfl hk8 ?_
    intro v4 w4 o4 k4
    have K5 := Lib.hid (K4.out.tr k4)
    have d0 := K5.out.cell (p := ⟨b, 0, none⟩) (fun h => h) c0
    have d1 := K5.out.cell (p := ⟨b, 1, none⟩) (fun h => h) c1
    have O4 := Lib.hid (o4.base K4.out.size)
    have L4 := Lib.hid o4.lt
    obtain ⟨a4, n4, c4', rfl⟩ := o4.slice'
    refine hK.out _ _ ⟨d0, d1⟩ ?_
    have hv64 : IntKind.u64.wrap (v.length : Int) = (v.length : Int) := IntWalk.u64_in _ ⟨by omega, by have := HV.out; omega⟩
    clear K hK o4 k4 K3 G3 hk8
    (try simp only [Act.put, List.setIfInBounds_toArray, List.set_cons_zero, List.set_cons_succ])
    iterate 6 (refine SeqY.val (v := ?_) (by rfl) (by rfl) (fun wx hSw => ?_) ?_; rotate_left; (focus ((try dsimp only at hSw); go_simp; (try with_reducible rfl))); (try simp only [Act.put, List.setIfInBounds_toArray, List.set_cons_zero, List.set_cons_succ]))
    refine SeqY.act (by rfl) rfl (by rfl) (by rfl) (fun K hK => ?_)
    go_simp
    refine (orlittle_calls (x := v.length) (n := 2) O4.out (by omega) (by have := HV.out; omega) (by omega) (by show (2 : Nat) ≤ 100000000; omega) K5.out.size).mono ?_
    rintro e w6 ⟨v6, rfl, o6, k6⟩
    have K6 := Lib.hid (K5.out.trans k6 fun x hx => .inr (O4.out.lt x hx).1)
    have hw : ∀ x, x < w.heap.size → (.slice a4 n4 c4' : Value).ownBlock ≠ some x := fun x hx h => by have := (O4.out.lt x h).1; omega
    have lb : b < w.heap.size := cell_lt (p := ⟨b, 0, none⟩) c0
    have g0 := k6.cell (p := ⟨b, 0, none⟩) (hw b lb) d0
    have g1 := k6.cell (p := ⟨b, 1, none⟩) (hw b lb) d1
    have O6 := Lib.hid o6
    obtain ⟨a6, n6, c6', rfl⟩ := o6.slice'
    refine hK.out _ _ ⟨g0, g1⟩ ?_
    clear K hK o6 k6 hw d0 d1
    (try simp only [Act.put, List.setIfInBounds_toArray, List.set_cons_zero, List.set_cons_succ])
    refine SeqY.nil ?_
    go_wp2_with fail
    clear c0 c1
    refine wp_region_chain 12 [5, 10] (fun w' => w'.cell? ⟨b, 0, none⟩ = some (.slice a1 k.length n1) ∧ w'.cell? ⟨b, 1, none⟩ = some (.slice a2 v.length n2)) (by kernel_rfl) (by kernel_rfl) ?_ ?_
    · exact ⟨g0, g1⟩
    simp only [List.take_succ_cons, List.take_zero, List.drop_succ_cons, List.drop_zero]
    iterate 5 (refine SeqY.val (v := ?_) (by rfl) (by rfl) (fun wx hSw => ?_) ?_; rotate_left; (focus ((try dsimp only at hSw); go_simp; (try with_reducible rfl))); (try simp only [Act.put, List.setIfInBounds_toArray, List.set_cons_zero, List.set_cons_succ]))
    have kbd := HK.out
    have vbd := HV.out
    have K7 := Lib.hid (K6.out.drew)
    have O7 := Lib.hid (O6.out.at (w' := w6.drew) rfl)
    have h0 : w6.drew.cell? ⟨b, 0, none⟩ = some (.slice a1 k.length n1) := g0
    have h1 : w6.drew.cell? ⟨b, 1, none⟩ = some (.slice a2 v.length n2) := g1
    have lo := Lib.hid O7.out.lt
    generalize w6.drew = w7 at *
    clear K6 O6 g0 g1
    refine SeqY.act (by rfl) rfl (by rfl) (by rfl) (fun K hK => ?_)
    refine wp_app_bytes (ops := #[]) rfl (.tmp 34) (.tmp 38) _ rfl tBytes _ _ rfl O7.out _ k rfl (KV.out.kept byteEl_k K7.out fun _ _ _ h => h) (by simp [leI_len]; omega) K7.out.size ?_
    intro v8 w8 o8 k8 _
    have hw : (.slice a6 n6 c6' : Value).ownBlock ≠ some b := fun h => by have := (lo.out b h).1; omega
    have K8 := Lib.hid (K7.out.trans k8 fun x hx => .inr (lo.out x hx).1)
    have i0 := k8.cell (p := ⟨b, 0, none⟩) hw h0
    have i1 := k8.cell (p := ⟨b, 1, none⟩) hw h1
    have O8 := Lib.hid o8
    obtain ⟨a8, n8, c8', rfl⟩ := o8.slice'
    refine hK.out _ _ ⟨i0, i1⟩ ?_
    clear K hK o8 k8 hw h0 h1 O7 K7
    (try simp only [Act.put, List.setIfInBounds_toArray, List.set_cons_zero, List.set_cons_succ])
    iterate 4 (refine SeqY.val (v := ?_) (by rfl) (by rfl) (fun wx hSw => ?_) ?_; rotate_left; (focus ((try dsimp only at hSw); go_simp; (try with_reducible rfl))); (try simp only [Act.put, List.setIfInBounds_toArray, List.set_cons_zero, List.set_cons_succ]))
    refine SeqY.act (by rfl) rfl (by rfl) (by rfl) (fun K hK => ?_)
    refine wp_app_bytes (ops := #[]) rfl (.tmp 39) (.tmp 43) _ rfl tBytes _ _ rfl O8.out _ v rfl (VV.out.kept byteEl_k K8.out fun _ _ _ h => h) (by simp [leI_len]; omega) K8.out.size ?_
    intro v9 w9 o9 k9 _
    have lo8 := O8.out.lt
    have hw : (.slice a8 n8 c8' : Value).ownBlock ≠ some b := fun h => by have := (lo8 b h).1; omega
    have K9 := Lib.hid (K8.out.trans k9 fun x hx => .inr (lo8 x hx).1)
    have O9 := Lib.hid o9
    obtain ⟨a9, n9, c9', rfl⟩ := o9.slice'
    refine hK.out _ _ ⟨k9.cell (p := ⟨b, 0, none⟩) hw i0, k9.cell (p := ⟨b, 1, none⟩) hw i1⟩ ?_
    clear K hK o9 k9 hw i0 i1 lo8
    (try simp only [Act.put, List.setIfInBounds_toArray, List.set_cons_zero, List.set_cons_succ])
    (refine SeqY.val (v := ?_) (by rfl) (by rfl) (fun wx hSw => ?_) ?_; rotate_left; (focus ((try dsimp only at hSw); go_simp; (try with_reducible rfl))); (try simp only [Act.put, List.setIfInBounds_toArray, List.set_cons_zero, List.set_cons_succ]))
    refine SeqY.nil ?_
    go_wp2
    go_ret
    refine ⟨_, rfl, ?_, K9.out⟩
    have ho := O9.out
    have h1 := el.out
    have h2 := er.out
    simp only [reduceCtorEq, iff_true, iff_false] at h1 h2
    unfold rowB
    simp only [h1, h2, if_true, if_false]
    exact ho
end Go.Proofs.Ytaopjdjbpamhhaa
