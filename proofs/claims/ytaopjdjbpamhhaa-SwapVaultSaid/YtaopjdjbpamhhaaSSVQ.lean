/- Proved: texts of the families over slots, order and swap, joined, as far as the claim needs them. Conditions: as each theorem says. -/
import Derived.Test.YtaopjdjbpamhhaaSSVO
import Derived.Test.YtaopjdjbpamhhaaSSVA
import Derived.Deep.DeepCutAuto
import Derived.Test.YtaopjdjbpamhhaaSSVM
import Derived.Test.YtaopjdjbpamhhaaSSVN
import Derived.Test.YtaopjdjbpamhhaaSSVP
/- Proved: plain: the reference's layout of a table's pairs is the table's. No program. Conditions: different keys, at most 100000 pairs. -/
namespace Go.Proofs.Ytaopjdjbpamhhaa
open Go Go.RowKit
set_option linter.unusedVariables false
set_option linter.unusedSimpArgs false
/-- A pair as an item of a layout. -/
def itemE (seed : Int) (cells : Nat) (k : Bts) : ItemK := ((hmE seed cells k : Nat), coin seed 2 k, k)
def itemsE (seed : Int) (cells : Nat) (l : List (Bts × Bts)) : List ItemK := l.map fun p => itemE seed cells p.1
theorem itemsE_len (seed : Int) (cells : Nat) (l : List (Bts × Bts)) : (itemsE seed cells l).length = l.length := by simp [itemsE]
theorem itemsE_get {seed : Int} {cells : Nat} {l : List (Bts × Bts)} {i : Nat} (h : i < l.length) : (itemsE seed cells l).getD i default = itemE seed cells (l.getD i default).1 := by
  unfold itemsE
  rw [List.getD_eq_getElem?_getD, List.getElem?_map, List.getD_eq_getElem?_getD, List.getElem?_eq_getElem h]
  rfl
theorem itemsE_succ {seed : Int} {cells : Nat} {l : List (Bts × Bts)} {i : Nat} (h : i < l.length) : (itemsE seed cells (l.take (i + 1))) = itemsE seed cells (l.take i) ++ [itemE seed cells l[i].1] := by
  unfold itemsE
  rw [List.take_add_one, List.getElem?_eq_getElem h, List.map_append]
  rfl
theorem befI_snd (a b c d : Int) (u v : Int × Bts) : befI (a, u) (b, v) = befI (c, u) (d, v) := rfl
theorem befI_itemE (seed : Int) (cells : Nat) (p q : Bts × Bts) : befI (itemE seed cells p.1) (itemE seed cells q.1) = comesE seed p q := by
  unfold itemE
  rw [befI_snd _ _ 0 0]
  exact comesE_befI seed p q
theorem tableE_sort {seed : Int} {cells : Nat} {l : List (Bts × Bts)} {ord : List Nat} (hk : Keyd l) (ho : Ordd (befN befI (itemsE seed cells l)) l.length ord) : sortE seed l = ord.map fun i => l.getD i default := by
  have hperm : (ord.map fun i => l.getD i default).Perm l := by
    have h := ho.perm.map fun i => l.getD i default
    have e : (List.range l.length).map (fun i => l.getD i default) = l := by
      refine List.ext_getElem (by simp) fun i h1 h2 => ?_
      simp [List.getD_eq_getElem?_getD, List.getElem?_eq_getElem h2]
    rwa [e] at h
  refine (sortE_srt hk).uniq (SrtE.of hk hperm ?_) (List.Perm.refl _)
  rw [List.pairwise_map]
  refine ho.srt.imp_of_mem fun {a b} ha hb hab => ?_
  have ha := ho.mem.1 ha
  have hb := ho.mem.1 hb
  unfold Befs befN at hab
  rw [itemsE_get ha, itemsE_get hb, befI_itemE, befI_itemE] at hab
  rcases hab with h | ⟨h, _⟩
  · have no := (comesE_swo seed).asymm h
    exact no
  · exact h
theorem tableE {seed : Int} {l : List (Bts × Bts)} {ord : List Nat} (hk : Keyd l) (hn : l.length ≤ 100000) (ho : Ordd (befN befI (itemsE seed (cellsN l.length) l)) l.length ord) :
    celE seed l = (layF (cellsN l.length) (fun i => homeN (cellsN l.length) (((itemsE seed (cellsN l.length) l).getD i default).1)) ord).map fun x => if x < 0 then none else some (l.getD x.toNat default) := by
  have hs := tableE_sort hk ho
  have hlen := ho.len
  have hf : (List.range l.length).map (fun i => ord.getD i 0) = ord := by
    refine List.ext_getElem (by simp [hlen]) fun i h1 h2 => ?_
    simp [List.getD_eq_getElem?_getD, List.getElem?_eq_getElem h2]
  obtain ⟨_, c8, _, _, _⟩ := cellsN_spec hn
  have e : layF (cellsN l.length) (fun i => homeN (cellsN l.length) (((itemsE seed (cellsN l.length) l).getD i default).1)) ord = (posE seed l).map (mapC fun i => ord.getD i 0) := by
    have h0 : List.replicate (cellsN l.length) (-1 : Int) = (List.replicate (cellsN l.length) (-1)).map (mapC fun i => ord.getD i 0) := by rw [List.map_replicate]; rfl
    unfold layF posE
    conv => lhs; rw [← hf, h0]
    rw [layF_map]
    congr 1
    unfold layF
    refine layF_congr fun i hi => ?_
    have hi := List.mem_range.1 hi
    have hoi : ord.getD i 0 < l.length := by
      rw [List.getD_eq_getElem?_getD, List.getElem?_eq_getElem (by rw [hlen]; exact hi), Option.getD_some]
      exact ho.mem.1 (List.getElem_mem _)
    rw [itemsE_get hoi, hs, List.getD_eq_getElem?_getD (l := List.map _ _), List.getElem?_map, List.getElem?_eq_getElem (l := ord) (by rw [hlen]; exact hi)]
    simp only [Option.map_some, Option.getD_some, itemE]
    rw [List.getD_eq_getElem?_getD (l := ord), List.getElem?_eq_getElem (l := ord) (by rw [hlen]; exact hi), Option.getD_some]
    unfold homeN
    rw [Int.emod_eq_of_lt (by omega) (by have := hmE_lt seed (l.getD (ord[i]'(by rw [hlen]; exact hi)) default).1 (show 0 < cellsN l.length by omega); omega), Int.toNat_natCast]
  rw [e, List.map_map]
  unfold celE
  refine List.map_congr_left fun x hx => ?_
  obtain ⟨k, hk', rfl⟩ := List.getElem_of_mem hx
  simp only [Function.comp_apply, mapC]
  rcases posE_val hn hk' with h | ⟨i, hi, h⟩
  · rw [h]; rfl
  · rw [h, if_neg (by omega), if_neg (by omega), if_neg (by omega), Int.toNat_natCast, Int.toNat_natCast, hs, List.getD_eq_getElem?_getD, List.getElem?_map, List.getD_eq_getElem?_getD (l := ord), List.getElem?_eq_getElem (l := ord) (by rw [hlen]; exact hi)]
    rfl
end Go.Proofs.Ytaopjdjbpamhhaa
/- Proved: contracts of the reference's Cells and item. Conditions: bytes in memory. -/
namespace Go.Proofs.Ytaopjdjbpamhhaa
open Go Go.RowKit
set_option linter.unusedVariables false
set_option linter.unusedSimpArgs false
theorem r1Cells_calls {w : World} {n : Nat} (hn : n ≤ 100000) : Calls Try.prog 105 #[.int .i64 n] w fun e w' => e = .returned (.int .i64 (cellsN n)) ∧ w' = w := by
  go_enter Try.func105, Try.ntmps105
  go_wp2
  go_loopw [3] (fun v wr => ∃ c : Nat, v = .int .i64 c ∧ wr = w ∧ Hid (CellsAt n c)) (fun v _ => 4 * n - 3 * (intOf v).toNat)
  case atStart => exact ⟨8, rfl, rfl, Lib.hid (CellsAt.start n)⟩
  obtain ⟨c, rfl, rfl, H⟩ := hrel
  have hb := H.out.bound
  by_cases hc : 3 * c < 4 * n
  · have hc' : 3 * (c : Int) < 4 * (n : Int) := by omega
    have h6 : (6 : Int) < (n : Int) := by omega
    have NX := Lib.hid (H.out.next hn hc)
    go_wp2
    go_roundw
    case rel => exact ⟨2 * c, by go_num, by first | rfl | trivial, NX⟩
    case measure => simp [intOf]; omega
  · have hc' : ¬ 3 * (c : Int) < 4 * (n : Int) := by omega
    have E := Lib.hid (H.out.stop hc)
    by_cases h6 : (6 : Int) < (n : Int)
    · go_wp2
      go_ret
      exact ⟨by rw [← E.out]; rfl, rfl⟩
    · go_wp2
      go_ret
      exact ⟨by rw [← E.out]; rfl, rfl⟩
set_option maxRecDepth 100000 in
set_option maxHeartbeats 4000000 in
theorem r1item_calls {seed : Int} {w : World} {D : Nat → Prop} {v : Value} {k : Bts} {cells : Nat} (h : BV D w v k) (h1 : 1 ≤ cells) (h2 : cells ≤ 1048576) :
    Calls Try.prog 113 #[.int .u64 seed, v, .int .i64 cells] w fun e w' => e = .returned (.agg #[.int .i64 (hmE seed cells k : Nat), .int .u64 (coin seed 2 k), v]) ∧ Kept Noneof w w' := by
  have H := Lib.hid h
  obtain ⟨r1, r2⟩ := coin_range seed 1 k
  have he : ((hmE seed cells k : Nat) : Int) = coin seed 1 k % (cells : Int) := by
    unfold hmE
    exact Int.toNat_of_nonneg (Int.emod_nonneg _ (by omega))
  have hh := hmE_lt seed k (show 0 < cells by omega)
  obtain ⟨home, hhm⟩ : ∃ x, hmE seed cells k = x := ⟨_, rfl⟩
  obtain ⟨x1, hx1⟩ : ∃ x, coin seed 1 k = x := ⟨_, rfl⟩
  obtain ⟨rk, hrk⟩ : ∃ x, coin seed 2 k = x := ⟨_, rfl⟩
  rw [hhm, hx1] at he
  rw [hx1] at r1
  rw [hhm] at hh
  rw [hhm, hrk]
  have X1 := Lib.hid hx1
  have RK := Lib.hid hrk
  have R0 := Lib.hid (show x1.tmod cells = (home : Int) by rw [Int.tmod_eq_emod_of_nonneg r1]; exact he.symm)
  obtain ⟨a, n, c, rfl⟩ := h.sl
  clear h r1 r2 he hhm hx1 hrk
  go_enter Try.func113, Try.ntmps113
  go_upto_region 1 with (fail)
  have k0 := (Kept.refl Noneof w).alloc (.cells #[.int .i64 0, .int .u64 0, .slice none 0 0] 61)
  have G := Lib.hid (heap_alloc_new w (.cells #[.int .i64 0, .int .u64 0, .slice none 0 0] 61))
  generalize w.alloc (.cells #[.int .i64 0, .int .u64 0, .slice none 0 0] 61) = w0 at *
  refine wp_region_chain 13 [2, 9, 12] (fun _ => True) (by kernel_rfl) (by kernel_rfl) ?_ ?_
  · trivial
  refine SeqW.out ?_
  simp only [List.take_succ_cons, List.take_zero, List.drop_succ_cons, List.drop_zero]
  replace G := Lib.hid (show w0.drew.heap[w.heap.size]? = _ from G.out)
  have KW := Lib.hid (k0.drew)
  generalize w0.drew = wz at *
  clear k0
  iterate 2 (refine SeqW.val (v := ?_) (by rfl) (by rfl) (fun wx hSw => ?_) ?_; rotate_left; (focus ((try dsimp only at hSw); go_simp; (try with_reducible rfl))); (try simp only [Act.put, List.setIfInBounds_toArray, List.set_cons_zero, List.set_cons_succ]))
  refine SeqW.act (by rfl) rfl (by rfl) (by rfl) (fun K hK => ?_)
  go_simp
  refine (r1Coin_calls (H.out.still' KW.out)).mono ?_
  rintro e wc ⟨rfl, dc⟩
  have kc := (Kept.refl Noneof wz).drewn dc
  refine hK.out _ _ trivial ?_
  replace G := Lib.hid (kc.obj (fun h => h) G.out)
  replace KW := Lib.hid (KW.out.tr kc)
  rw [X1.out]
  have R := R0.out
  have w1 : IntKind.u64.wrap (cells : Int) = (cells : Int) := IntWalk.u64_in _ ⟨by omega, by omega⟩
  have hz : (cells = 0) = False := eq_false (by omega)
  have w2 : IntKind.i64.wrap (home : Int) = (home : Int) := IntWalk.i64_in _ ⟨by omega, by omega⟩
  clear K hK dc kc
  (try simp only [Act.put, List.setIfInBounds_toArray, List.set_cons_zero, List.set_cons_succ])
  iterate 4 (refine SeqW.val (v := ?_) (by rfl) (by rfl) (fun wx hSw => ?_) ?_; rotate_left; (focus ((try dsimp only at hSw); go_simp; (try with_reducible rfl))); (try simp only [Act.put, List.setIfInBounds_toArray, List.set_cons_zero, List.set_cons_succ]))
  iterate 2 (refine SeqW.val (v := ?_) (by rfl) (by rfl) (fun wx hSw => ?_) ?_; rotate_left; (focus ((try dsimp only at hSw); go_simp; (try with_reducible rfl))); (try simp only [Act.put, List.setIfInBounds_toArray, List.set_cons_zero, List.set_cons_succ]))
  refine SeqW.act (by rfl) rfl (by rfl) (by rfl) (fun K hK => ?_)
  go_simp
  refine (r1Coin_calls (H.out.still' KW.out)).mono ?_
  rintro e wd ⟨rfl, dc⟩
  have kc := (Kept.refl Noneof wc).drewn dc
  refine hK.out _ _ trivial ?_
  replace G := Lib.hid (kc.obj (fun h => h) G.out)
  replace KW := Lib.hid (KW.out.tr kc)
  rw [RK.out]
  clear K hK dc kc R w1 hz
  (try simp only [Act.put, List.setIfInBounds_toArray, List.set_cons_zero, List.set_cons_succ])
  iterate 2 (refine SeqW.val (v := ?_) (by rfl) (by rfl) (fun wx hSw => ?_) ?_; rotate_left; (focus ((try dsimp only at hSw); go_simp; (try with_reducible rfl))); (try simp only [Act.put, List.setIfInBounds_toArray, List.set_cons_zero, List.set_cons_succ]))
  have g0 : wd.cell? ⟨w.heap.size, 0, none⟩ = some (.int .i64 0) := by simp [World.cell?, G.out]
  have g1 : wd.cell? ⟨w.heap.size, 1, none⟩ = some (.int .u64 0) := by simp [World.cell?, G.out]
  have g2 : wd.cell? ⟨w.heap.size, 2, none⟩ = some (.slice none 0 0) := by simp [World.cell?, G.out]
  have gf : ∀ j, wd.frozen? ⟨w.heap.size, j, none⟩ = false := fun j => by simp [World.frozen?, G.out]
  refine SeqW.act0 (by rfl) rfl (by rfl) (fun K hK => ?_)
  go_simp
  refine hK.out _ trivial ?_
  have KT := Lib.hid ((((Kept.refl (fun b => b = w.heap.size) wd).setCell (p := ⟨w.heap.size, 0, none⟩) (.inl rfl) (.int .i64 home)).setCell (p := ⟨w.heap.size, 1, none⟩) (.inl rfl) (.int .u64 rk)).setCell (p := ⟨w.heap.size, 2, none⟩) (.inl rfl) (.slice a n c))
  have GF := Lib.hid (setCell_obj (setCell_obj (setCell_obj G.out (.int .i64 home) (j := 0)) (.int .u64 rk) (j := 1)) (.slice a n c) (j := 2))
  clear K hK g0 g1 g2 gf
  (try simp only [Act.put, List.setIfInBounds_toArray, List.set_cons_zero, List.set_cons_succ])
  refine SeqW.nil ?_
  go_wp2_with fail
  refine bodyPost_ret (results_cell_row rfl _ _ w.heap.size _ #[_, _, _] (0, 0) _ rfl GF.out Try.underlying61 rfl (by kernel_rfl)) rfl ?_
  exact ⟨rfl, KW.out.trans KT.out fun b e => .inr (by omega)⟩
end Go.Proofs.Ytaopjdjbpamhhaa
/- Proved: contract of the reference's Table; of SameCells where both lists are the same, wherever the bytes lie. Conditions: pairs and cells in memory; different keys, at most 100000. -/
namespace Go.Proofs.Ytaopjdjbpamhhaa
open Go Go.RowKit
set_option linter.unusedVariables false
set_option linter.unusedSimpArgs false
/-- A cell, whose bytes lie anywhere. -/
def cellVEl : El CellK where
  k := 3
  R := fun D w cs x => ∃ u v, cs = [.bool x.1, u, v] ∧ BV D w u x.2.1 ∧ BV D w v x.2.2
  mono := fun hw ⟨u, v, h1, h2, h3⟩ => ⟨u, v, h1, h2.mono byteEl_k hw, h3.mono byteEl_k hw⟩
  len := fun ⟨u, v, h1, _⟩ => by rw [h1]; rfl
  one := fun ⟨u, v, h1, h2, h3⟩ x hx => by
    rw [h1] at hx
    simp only [List.mem_cons, List.not_mem_nil, or_false] at hx
    rcases hx with rfl | rfl | rfl
    · rfl
    · exact h2.cell1
    · exact h3.cell1
theorem SV.cellV {D : Nat → Prop} {w : World} {v : Value} {l : List CellK} (h : SV cellEl D w v l) : SV cellVEl D w v l := by
  obtain ⟨a, c, h1, h2, h3, h4⟩ := h
  refine ⟨a, c, h1, h2, h3, fun i hi => ?_⟩
  obtain ⟨b, o, cs, r1, r2, r3, u, v, r4, r5, r6⟩ := h4 i hi
  exact ⟨b, o, cs, r1, r2, r3, u, v, r4, r5.1, r6.1⟩
theorem tItemsR : SlT Try.prog 57 61 3 40 (.agg #[.int .i64 0, .int .u64 0, .slice none 0 0]) := SlT.of (by kernel_rfl) (by kernel_rfl) rfl (by decide)
theorem tCellsV : SlT Try.prog 39 78 cellVEl.k 56 (.agg #[.bool false, .slice none 0 0, .slice none 0 0]) := tCells
set_option maxRecDepth 100000 in
set_option maxHeartbeats 8000000 in
theorem r1Table_calls {seed : Int} {w : World} {D : Nat → Prop} {v : Value} {l : List (Bts × Bts)} (h : SV pairEl D w v l) (hk : Keyd l) (hn : l.length ≤ 100000) :
    Calls Try.prog 52 #[.int .u64 seed, v] w fun e w' => ∃ g, e = .returned (.slice (some ⟨g, 0, none⟩) (cellsN l.length) (cellsN l.length)) ∧ Own 78 cellVEl (fun b => D b ∧ b < w.heap.size) w.heap.size w' (.slice (some ⟨g, 0, none⟩) (cellsN l.length) (cellsN l.length)) ((celE seed l).map cellT) ∧ Kept Noneof w w' := by
  have H := Lib.hid (h.bd pairEl_k)
  have KD := Lib.hid hk
  obtain ⟨a, c, rfl, ⟨hc, _⟩, hm, _⟩ := h
  obtain ⟨C, hC⟩ : ∃ C, cellsN l.length = C := ⟨_, rfl⟩
  obtain ⟨_, C8, C4, _, CM⟩ := cellsN_spec hn
  have HN := Lib.hid hn
  have CC := Lib.hid (r1Cells_calls (w := w) hn)
  obtain ⟨n, hnn⟩ : ∃ n, l.length = n := ⟨_, rfl⟩
  rw [hC] at C8 C4 CM CC
  rw [hnn] at C4 hc hm hn CC
  rw [hC, hnn]
  replace hC := Lib.hid hC
  replace hnn := Lib.hid hnn
  clear hk
  go_enter Try.func52, Try.ntmps52
  go_wp2_with fail
  refine CC.out.mono ?_
  rintro e w ⟨rfl, rfl⟩
  clear CC
  go_upto_region 4 with (fail)
  have k0 := (Kept.refl Noneof w).alloc (.cells #[] 61)
  have O0 := Lib.hid (show Own 61 itemEl (fun b => D b ∧ b < w.heap.size) w.heap.size (w.alloc (.cells #[] 61)) (.slice (some ⟨w.heap.size, 0, none⟩) 0 0) (itemsE seed C (l.take 0)) from Own.lit0 _ _ _ _)
  have K0 := Lib.hid k0
  clear k0
  generalize w.alloc (.cells #[] 61) = w0 at *
  generalize Value.slice (some ⟨w.heap.size, 0, none⟩) 0 0 = v0 at *
  go_loopw [6, 7] (fun v iv wr => ∃ i : Nat, i ≤ n ∧ iv = .int .i64 i ∧ Hid (Own 61 itemEl (fun b => D b ∧ b < w.heap.size) w.heap.size wr v (itemsE seed C (l.take i))) ∧ Hid (Kept Noneof w wr)) (fun _ iv _ => n - (intOf iv).toNat)
  case atStart => exact ⟨0, Nat.zero_le _, rfl, O0, K0⟩
  clear O0 K0
  obtain ⟨i, hi, rfl, O, KW⟩ := hrel
  by_cases hlt : i < n
  focus
    have hlt' : (i : Int) < (n : Int) := by omega
    have hil : i < l.length := by rw [hnn.out]; exact hlt
    have NX := Lib.hid (itemsE_succ (seed := seed) (cells := C) hil)
    have LE := Lib.hid (show (itemsE seed C (l.take i)).length ≤ 100000 by rw [itemsE_len, List.length_take]; omega)
    obtain ⟨va9, vn9, vc9, hv9⟩ := O.out.slice'
    subst hv9
    have hsv := H.out.still' KW.out
    rw [hnn.out] at hsv
    obtain ⟨_, _, hsl, _, _, rd⟩ := hsv
    simp only [Value.slice.injEq] at hsl
    obtain ⟨rfl, -, rfl⟩ := hsl
    obtain ⟨b, o, u, x, rfl, db, e0, e1, hk, hv⟩ := Rd.pair rd hil
    generalize l[i] = p at *
    obtain ⟨ka, kn, kc, rfl⟩ := hk.sl
    have HK := Lib.hid hk
    clear rd hil hk hv e1 db
    go_wp2_with fail
    refine (r1item_calls HK.out (by omega) CM).mono ?_
    rintro e w2 ⟨rfl, k2⟩
    replace O := Lib.hid (O.out.kept k2 fun _ h => h.elim)
    replace HK := Lib.hid (HK.out.still' k2)
    replace KW := Lib.hid (KW.out.tr k2)
    clear k2 e0
    have IE := Lib.hid (show itemE seed C p.1 = (((hmE seed C p.1 : Nat) : Int), coin seed 2 p.1, p.1) from rfl)
    generalize hmE seed C p.1 = hm1 at *
    generalize coin seed 2 p.1 = rk1 at *
    have ha1 := Lib.hid (show (w2.alloc (.cells #[.int .i64 hm1, .int .u64 rk1, .slice ka kn kc] 61)).heap.size = w2.heap.size + 1 by simp)
    have kA := Lib.hid ((Kept.refl Noneof w2).alloc (.cells #[.int .i64 hm1, .int .u64 rk1, .slice ka kn kc] 61))
    have qA := Lib.hid (heap_alloc_new w2 (.cells #[.int .i64 hm1, .int .u64 rk1, .slice ka kn kc] 61))
    go_wp2_with (at_builtin; refine wl_app_one (E := itemEl) (D := fun b => D b ∧ b < w.heap.size) (D' := fun b => D b ∧ b < w.heap.size) rfl (.tmp 21) (.tmp 30) _ rfl tItemsR _ _ rfl (O.out.kept kA.out fun _ h => h.elim) w2.heap.size [.int .i64 hm1, .int .u64 rk1, .slice ka kn kc] (hm1, rk1, p.1) rfl ?c1 ?c2 ?c3 ?c4 ?c5 ?c6 ?_)
    case c1 => exact ⟨_, _, qA.out⟩
    case c2 => exact ⟨_, rfl, HK.out.still' kA.out⟩
    case c3 => exact fun b h _ => ⟨h, fun e => by have := (O.out.lt b e).1; have := h.2; omega⟩
    case c4 => have := LE.out; omega
    case c5 => omega
    case c6 => have := KW.out.size; rw [ha1.out]; omega
    intro v5 w5 ho5 k5 b5
    rw [← IE.out, ← NX.out] at ho5
    have O5 := Lib.hid ho5
    have KW5 := Lib.hid ((KW.out.tr kA.out).trans k5 fun b h => .inr (O.out.lt b h).1)
    clear ho5 k5 b5 O KW kA qA ha1 HK IE NX LE
    go_wp2
    go_roundw
    case rel => exact ⟨i + 1, by omega, by go_num, O5, KW5⟩
    case measure => simp [intOf]; omega
  obtain rfl : n = i := by omega
  clear hlt hi
  rw [List.take_of_length_le (by rw [hnn.out]; exact Nat.le_refl _)] at O
  have OS := Lib.hid (O.out.sv.bd itemEl_k)
  have IL := Lib.hid (show (itemsE seed C l).length = n by rw [itemsE_len]; exact hnn.out)
  obtain ⟨va9, vn9, vc9, hv9⟩ := O.out.slice'
  subst hv9
  clear O
  go_wp2_with fail
  refine (r1Lay_calls OS.out (by omega) CM (by rw [IL.out]; omega) (fun b h => h.2)).mono ?_
  rintro e w2 ⟨g2, ord, rfl, ho, own, k2⟩
  rw [itemsE_len] at ho
  have LD := layF_laid (cells := C) (home := fun i => homeN C (((itemsE seed C l).getD i default).1)) (l := ord) (by rw [ho.len, hnn.out]; omega) ho.nodup (fun i _ => homeN_lt _ (by omega))
  have TE := tableE (seed := seed) KD.out HN.out (by rw [hC.out]; exact ho)
  rw [hC.out] at TE
  generalize layF C (fun i => homeN C (((itemsE seed C l).getD i default).1)) ord = L at *
  have LC := Lib.hid (show ∀ k (hk : k < L.length), L[k] < 0 ∧ (celE seed l)[k]? = some none ∨ ∃ i : Nat, ∃ hi : i < l.length, L[k] = (i : Int) ∧ (celE seed l)[k]? = some (some l[i]) from fun k hk => by
    have h := LD.cell k (by rw [← LD.len]; exact hk)
    rw [List.getD_eq_getElem?_getD, List.getElem?_eq_getElem hk, Option.getD_some] at h
    rw [TE, List.getElem?_map, List.getElem?_eq_getElem hk, Option.map_some]
    rcases h with h | ⟨i, hi, h⟩
    · exact .inl ⟨by omega, by rw [if_pos (by omega)]⟩
    · have hi' := ho.mem.1 hi
      refine .inr ⟨i, hi', h, ?_⟩
      rw [h, if_neg (by omega), Int.toNat_natCast, List.getD_eq_getElem?_getD, List.getElem?_eq_getElem hi', Option.getD_some])
  have LL := Lib.hid LD.len
  have PO := Lib.hid own
  replace KW := Lib.hid (KW.out.tr k2)
  clear LD TE ho own k2 OS IL
  go_wp2_with (at_make; refine wl_make (E := cellVEl) rfl _ _ _ rfl tCellsV (fun b => D b ∧ b < w.heap.size) w2.heap.size C .i64 .i64 _ _ rfl rfl rfl rfl (false, [], []) (fun w => ⟨_, _, rfl, BV.nil _ _, BV.nil _ _⟩) ?b1 ?b2 ?b3 ?_)
  case b1 => omega
  case b2 => omega
  case b3 => exact Nat.le_refl _
  intro w3 g5 hown hk hg
  rw [← cellsK_zero seed l C] at hown
  have O2 := Lib.hid hown
  have K2 := Lib.hid hk
  have HG := Lib.hid hg
  clear hown hk hg
  go_upto_region 10 with (fail)
  go_loopw [10] (fun kv wr => ∃ k : Nat, k ≤ C ∧ kv = .int .i64 k ∧ Hid (Own 78 cellVEl (fun b => D b ∧ b < w.heap.size) w2.heap.size wr (.slice (some ⟨g5, 0, none⟩) C C) (cellsK seed l C k)) ∧ Hid (Kept Noneof w2 wr)) (fun kv _ => C - (intOf kv).toNat)
  case atStart => exact ⟨0, Nat.zero_le _, rfl, O2, K2⟩
  clear O2 K2
  obtain ⟨k, hk, rfl, O, KV⟩ := hrel
  by_cases hlt : k < C
  rotate_left
  · obtain rfl : k = C := by omega
    go_wp2
    go_ret
    refine ⟨_, rfl, ?_, KW.out.tr KV.out⟩
    rw [← cellsK_all hC.out]
    exact O.out.base KW.out.size
  have hlt' : (k : Int) < (C : Int) := by omega
  have hkp : k < L.length := by rw [LL.out]; exact hlt
  obtain ⟨e0, _, hgb, hgb2⟩ := (PO.out.kept KV.out fun _ h => h.elim).islot hkp
  rcases LC.out k hkp with ⟨hx, hce⟩ | ⟨i, hi, hx, hce⟩
  · have CE := Lib.hid (cellsK_free hlt hce)
    rw [CE.out] at O
    have hx' : decide (0 ≤ L[k]) = false := decide_eq_false (by omega)
    generalize L[k] = x at *
    clear hx hkp hce
    go_wp2_with fail
    go_roundw
    case rel => exact ⟨k + 1, by omega, by go_num, O, KV⟩
    case measure => simp [intOf]; omega
  rw [hx] at e0
  have CE := Lib.hid (cellsK_set hC.out hlt hce)
  have CL := Lib.hid (cellsK_len (seed := seed) hC.out hk)
  have hsv := H.out.still' (KW.out.tr KV.out)
  rw [hnn.out] at hsv
  obtain ⟨_, _, hsl, _, _, rd⟩ := hsv
  simp only [Value.slice.injEq] at hsl
  obtain ⟨rfl, -, rfl⟩ := hsl
  obtain ⟨b, o, u, v, rfl, db, a0, a1, hu, hv⟩ := Rd.pair rd hi
  have hin : (i : Int) < (n : Int) := by have := hnn.out; omega
  have hi0 : decide ((0 : Int) ≤ (i : Int)) = true := decide_eq_true (by omega)
  generalize l[i] = p at *
  obtain ⟨ua, un, uc, rfl⟩ := hu.sl
  obtain ⟨va, vn, vc, rfl⟩ := hv.sl
  have HU := Lib.hid hu
  have HV := Lib.hid hv
  have GB := Lib.hid (show b < w.heap.size ∧ w2.heap.size ≤ g5 ∧ w.heap.size ≤ w2.heap.size ∧ g2 ≠ g5 from ⟨db.2, HG.out, KW.out.size, by have := (PO.out.lt g2 rfl).2; have := HG.out; omega⟩)
  clear rd hi db hu hv hx hce hkp hgb hgb2
  go_upto_region 13 with (fail)
  refine wp_region_chain 21 [20] (fun w' => w'.cell? ⟨g2, k, none⟩ = some (.int .i64 i) ∧ w'.cell? ⟨b, o + i * 2, none⟩ = some (.slice ua un uc) ∧ w'.cell? ⟨b, o + i * 2 + 1, none⟩ = some (.slice va vn vc)) (by kernel_rfl) (by kernel_rfl) ?_ ?_
  · exact ⟨e0, a0, a1⟩
  refine SeqW.out ?_
  simp only [List.take_succ_cons, List.take_zero, List.drop_succ_cons, List.drop_zero]
  have kd := (Kept.refl Noneof wr).drew
  replace O := Lib.hid (O.out.kept kd fun _ h => h.elim)
  replace KV := Lib.hid (KV.out.tr kd)
  replace e0 := kd.cell (p := ⟨g2, k, none⟩) (fun h => h) e0
  replace a0 := kd.cell (p := ⟨b, o + i * 2, none⟩) (fun h => h) a0
  replace a1 := kd.cell (p := ⟨b, o + i * 2 + 1, none⟩) (fun h => h) a1
  replace HU := Lib.hid (HU.out.still' kd)
  replace HV := Lib.hid (HV.out.still' kd)
  generalize wr.drew = wb at *
  clear kd hi0
  iterate 20 (refine SeqW.val (v := ?_) (by rfl) (by rfl) (fun wx hSw => ?_) ?_; rotate_left; (focus ((try dsimp only at hSw); go_simp; (try with_reducible rfl))); (try simp only [Act.put, List.setIfInBounds_toArray, List.set_cons_zero, List.set_cons_succ]))
  have hkl : k < (cellsK seed l C k).length := by rw [CL.out]; exact hlt
  obtain ⟨⟨u0, r0⟩, f0⟩ := O.out.cellat (j := 0) hkl (by show 0 < 3; decide)
  obtain ⟨⟨u1, r1⟩, f1⟩ := O.out.cellat (j := 1) hkl (by show 1 < 3; decide)
  obtain ⟨⟨u2, r2⟩, f2⟩ := O.out.cellat (j := 2) hkl (by show 2 < 3; decide)
  have k3 : cellVEl.k = 3 := rfl
  rw [k3] at r0 f0 r1 f1 r2 f2
  simp only [Nat.add_zero] at r0 f0
  refine SeqW.act0 (by rfl) rfl (by rfl) (fun K hK => ?_)
  go_simp
  have KT := Lib.hid ((((Kept.refl (fun b => b = g5) wb).setCell (p := ⟨g5, k * 3, none⟩) (.inl rfl) (.bool true)).setCell (p := ⟨g5, k * 3 + 1, none⟩) (.inl rfl) (.slice ua un uc)).setCell (p := ⟨g5, k * 3 + 2, none⟩) (.inl rfl) (.slice va vn vc))
  have hne1 : ¬ g2 = g5 := GB.out.2.2.2
  have hne2 : ¬ b = g5 := by have := GB.out; omega
  have OT : Own 78 cellVEl (fun b => D b ∧ b < w.heap.size) w2.heap.size (((wb.setCell ⟨g5, k * 3, none⟩ (.bool true)).setCell ⟨g5, k * 3 + 1, none⟩ (.slice ua un uc)).setCell ⟨g5, k * 3 + 2, none⟩ (.slice va vn vc)) (.slice (some ⟨g5, 0, none⟩) C C) ((cellsK seed l C k).set k (cellT (some p))) := by
    refine O.out.setc (cs := [.bool true, .slice ua un uc, .slice va vn vc]) hkl rfl (D' := fun b => D b ∧ b < w.heap.size) ⟨_, _, rfl, ?_, ?_⟩ (fun b h _ => ⟨h, fun e => by have e : b = g5 := e; have := h.2; have := GB.out; omega⟩) KT.out fun cur hcur => ?_
    · exact HU.out.kept byteEl_k KT.out fun b h _ e => by have e : b = g5 := e; have := h.2; have := GB.out; omega
    · exact HV.out.kept byteEl_k KT.out fun b h _ e => by have e : b = g5 := e; have := h.2; have := GB.out; omega
    · rw [setCell_obj (setCell_obj (setCell_obj hcur _) _) _, k3]
      rfl
  rw [CE.out] at OT
  have OS := Lib.hid OT
  have KZ := Lib.hid (KV.out.trans KT.out fun b e => .inr (by have := GB.out; omega))
  refine hK.out _ ⟨KT.out.cell (p := ⟨g2, k, none⟩) hne1 e0, KT.out.cell (p := ⟨b, o + i * 2, none⟩) hne2 a0, KT.out.cell (p := ⟨b, o + i * 2 + 1, none⟩) hne2 a1⟩ ?_
  clear K hK
  generalize (((wb.setCell _ _).setCell _ _).setCell _ _) = wz at *
  (try simp only [Act.put, List.setIfInBounds_toArray, List.set_cons_zero, List.set_cons_succ])
  refine SeqW.nil ?_
  clear r0 r1 r2 f0 f1 f2 O KV KT a0 a1 e0 CE CL OT HU HV
  go_wp2
  go_roundw
  case rel => exact ⟨k + 1, by omega, by go_num, OS, KZ⟩
  case measure => simp [intOf]; omega
end Go.Proofs.Ytaopjdjbpamhhaa
/- Proved: contracts of the reference's Little and Image of tables; of SameCells where both lists are the same, wherever the bytes lie. Conditions: pairs and cells in memory; different keys, at most 100000. -/
namespace Go.Proofs.Ytaopjdjbpamhhaa
open Go Go.RowKit
set_option linter.unusedVariables false
set_option linter.unusedSimpArgs false
theorem cellAt_some {seed : Int} {T : List (Bts × Bts)} {i : Nat} (hi : i < cellsN T.length) : (celE seed T)[i]? = some (cellAt seed T i) := by
  have hl : i < (celE seed T).length := by rw [celE_len]; exact hi
  unfold cellAt
  rw [List.getD_eq_getElem?_getD, List.getElem?_eq_getElem hl, Option.getD_some]
set_option maxHeartbeats 400000 in
theorem r1Little_calls {x : Int} {n : Nat} {w : World} (h0 : 0 ≤ x) (h1 : x ≤ 18446744073709551615) (hn : n ≤ 8) :
    Calls Try.prog 155 #[.int .u64 x, .int .i64 n] w fun e w' => ∃ v', e = .returned v' ∧ Own 5 byteEl Noneof w.heap.size w' v' (leI x n) ∧ Kept Noneof w w' := by
  go_enter Try.func155, Try.ntmps155
  go_wp2
  go_loopw [5, 6] (fun v i wr => ∃ k : Nat, k ≤ n ∧ i = .int .i64 k ∧ Own 5 byteEl Noneof w.heap.size wr v (leI x k) ∧ Kept Noneof w wr) (fun _ i _ => n - (intOf i).toNat)
  case atStart => exact ⟨0, by omega, rfl, Own.lit0 _ _ _ _, (Kept.refl _ _).alloc _⟩
  case round =>
    obtain ⟨k, hk, rfl, hown, hkept⟩ := hrel
    by_cases hlt : k < n
    · have hx : 0 ≤ x / 2 ^ (8 * k) := Int.ediv_nonneg h0 (Int.pow_nonneg (by decide))
      have hl := leI_len k x
      go_wp2_with (at_builtin; refine wl_app_one (E := byteEl) (D := Noneof) (D' := Noneof) rfl (.tmp 13) (.tmp 19) _ rfl tBytes _ _ rfl (hown.alloc _) wr.heap.size [.int .u8 (x / 2 ^ (8 * k) % 256)] (UInt8.ofNat (x / 2 ^ (8 * k) % 256).toNat) rfl ?c1 ?c2 ?c3 ?c4 ?c5 ?c6 ?_)
      case c1 => exact ⟨_, _, heap_alloc_new _ _⟩
      case c2 => show _ = _; rw [u8_of _ hx]
      case c3 => exact fun _ h => h.elim
      case c4 => omega
      case c5 => omega
      case c6 => have := hkept.size; simp; omega
      intro v' w1 hown1 hk1 _
      rw [← leI_snoc] at hown1
      have hkw : Kept Noneof w w1 := (hkept.alloc _).trans hk1 (fun b hb => .inr (hown.lt b hb).1)
      clear hown hkept hk1 hl
      go_wp2
      go_roundw
      case rel => exact ⟨k + 1, by omega, by go_num, hown1, hkw⟩
      case measure => simp [intOf]; omega
    · obtain rfl : k = n := by omega
      go_wp2
      go_ret
      exact ⟨_, rfl, hown, hkept⟩
end Go.Proofs.Ytaopjdjbpamhhaa
/- Proved: contract of the reference's Image of tables. Conditions: pairs in memory; different keys, at most 100000, of allowed lengths. -/
namespace Go.Proofs.Ytaopjdjbpamhhaa
open Go Go.RowKit
set_option linter.unusedVariables false
set_option linter.unusedSimpArgs false
/-- A cell of a row of the call's own. -/
theorem Own.cellV {D : Nat → Prop} {B : Nat} {w : World} {g n c : Nat} {l : List CellK} (h : Own 78 cellVEl D B w (.slice (some ⟨g, 0, none⟩) n c) l) {i : Nat} (hi : i < l.length) : ∃ u v, w.cell? ⟨g, i * 3, none⟩ = some (.bool l[i].1) ∧ w.cell? ⟨g, i * 3 + 1, none⟩ = some u ∧ w.cell? ⟨g, i * 3 + 2, none⟩ = some v ∧ BV D w u l[i].2.1 ∧ BV D w v l[i].2.2 := by
  have hr := h.rd (D' := fun _ => True) (fun _ _ => trivial) (fun _ _ => trivial)
  obtain ⟨hl, D0, h0, xs, ⟨h1, h2⟩, h3⟩ := h
  rcases h2 with ⟨hh, _⟩ | ⟨g', cap, cur, hv, hg, hh, hc, hm', hs, ht⟩
  · cases hh
  · simp only [Value.slice.injEq, Option.some.injEq, Addr.mk.injEq, and_true] at hv
    obtain ⟨rfl, rfl, rfl⟩ := hv
    obtain ⟨cs, ⟨u, v, rfl, hu, hv⟩, h6⟩ := h3.at_ i hi
    have hk : cellVEl.k = 3 := rfl
    have key : ∀ j (hj : j < 3), w.cell? ⟨g, i * 3 + j, none⟩ = some ([Value.bool l[i].1, u, v][j]'(by simpa using hj)) := fun j hj => by
      have h7 := h6 j (by show j < 3; exact hj)
      rw [hk] at h7
      have hlt := (List.getElem?_eq_some_iff.1 h7).1
      rw [← ht] at h7
      rw [← ht, List.length_take] at hlt
      rw [List.getElem?_take, if_pos (by omega), Array.getElem?_toList] at h7
      simp [World.cell?, hh, h7]
    exact ⟨u, v, key 0 (by decide), key 1 (by decide), key 2 (by decide), SV.mono byteEl_k hu fun b hb _ => ⟨(h0 b hb).1, rfl⟩, SV.mono byteEl_k hv fun b hb _ => ⟨(h0 b hb).1, rfl⟩⟩
set_option maxRecDepth 100000 in
set_option maxHeartbeats 8000000 in
theorem r1Image_calls {seed : Int} {w : World} {D : Nat → Prop} {v : Value} {l : List (Bts × Bts)} (h : SV pairEl D w v l) (hk : Keyd l) (hn : l.length ≤ 100000) (ok : ∀ p ∈ l, okP p) :
    Calls Try.prog 108 #[.int .u64 seed, v] w fun e w' => ∃ v', e = .returned v' ∧ Own 5 byteEl Noneof w.heap.size w' v' (imgT seed l) ∧ Kept Noneof w w' := by
  have H := Lib.hid (h.bd pairEl_k)
  have KD := Lib.hid hk
  have OK := Lib.hid ok
  have HN := Lib.hid hn
  obtain ⟨a, c, rfl, ⟨hc, _⟩, hm, _⟩ := h
  obtain ⟨C, hC⟩ : ∃ C, cellsN l.length = C := ⟨_, rfl⟩
  obtain ⟨_, C8, C4, _, CM⟩ := cellsN_spec hn
  have IL := Lib.hid (fun k (hk : k ≤ C) => imgK_len (seed := seed) (l := l) hn ok (k := k) (by rw [hC]; exact hk))
  have IA := Lib.hid (show imgK seed l C = imgT seed l by rw [← hC]; exact imgK_all seed l)
  have CA := Lib.hid (fun k (hk : k < C) => cellAt_some (seed := seed) (T := l) (i := k) (by rw [hC]; exact hk))
  obtain ⟨n, hnn⟩ : ∃ n, l.length = n := ⟨_, rfl⟩
  have I0 := Lib.hid (show leI n 4 = imgK seed l 0 by rw [imgK_zero, hnn])
  rw [hC] at C8 C4 CM
  rw [hnn] at C4 hc hm hn H
  rw [hnn]
  replace hC := Lib.hid hC
  replace hnn := Lib.hid hnn
  clear hk ok
  go_enter Try.func108, Try.ntmps108
  go_wp2_with fail
  refine (r1Little_calls (x := n) (n := 4) (by omega) (by omega) (by omega)).mono ?_
  rintro e w1 ⟨v1, rfl, o1, k1⟩
  rw [I0.out] at o1
  have O1 := Lib.hid o1
  obtain ⟨x1, x2, x3, rfl⟩ := o1.slice'
  have K1 := Lib.hid k1
  clear o1 k1
  go_wp2_with fail
  refine (r1Table_calls (l := l) (H.out.still' K1.out) KD.out HN.out).mono ?_
  rintro e w2 ⟨g, rfl, tt, k2⟩
  rw [hC.out] at tt ⊢
  have TT := Lib.hid (tt.wide (D' := fun b => b < w.heap.size) fun b hb => hb.1.2)
  have NB := Lib.hid (show ∀ b, (Value.slice x1 x2 x3).ownBlock = some b → b ≠ g from fun b hb e => by have := (O1.out.lt b hb).2; have := (tt.lt g rfl).1; omega)
  have GG := Lib.hid (show w.heap.size ≤ g from Nat.le_trans K1.out.size (tt.lt g rfl).1)
  replace O1 := Lib.hid (O1.out.kept k2 fun _ h => h.elim)
  replace K1 := Lib.hid (K1.out.tr k2)
  clear tt k2
  generalize Value.slice x1 x2 x3 = v1 at *
  go_upto_region 4 with (fail)
  go_loopw [5, 7] (fun v kv wr => ∃ k : Nat, k ≤ C ∧ kv = .int .i64 k ∧ Hid (Own 5 byteEl Noneof w.heap.size wr v (imgK seed l k)) ∧ Hid (Own 78 cellVEl (fun b => b < w.heap.size) w1.heap.size wr (.slice (some ⟨g, 0, none⟩) C C) ((celE seed l).map cellT)) ∧ Hid (∀ b, v.ownBlock = some b → b ≠ g) ∧ Hid (Kept Noneof w wr)) (fun _ kv _ => C - (intOf kv).toNat)
  case atStart => exact ⟨0, Nat.zero_le _, rfl, O1, TT, NB, K1⟩
  clear O1 TT NB K1
  obtain ⟨k, hk, rfl, O, TT, NB, KW⟩ := hrel
  by_cases hlt : k < C
  rotate_left
  · obtain rfl : k = C := by omega
    obtain ⟨x1, x2, x3, rfl⟩ := O.out.slice'
    go_wp2
    go_ret
    exact ⟨_, rfl, by rw [← IA.out]; exact O.out, KW.out⟩
  have hlt' : (k : Int) < (C : Int) := by omega
  obtain ⟨y1, y2, y3, hy⟩ := O.out.slice'
  subst hy
  have hkl : k < ((celE seed l).map cellT).length := by rw [List.length_map, celE_len, hC.out]; exact hlt
  obtain ⟨u, v, e0, e1, e2, hu, hv⟩ := TT.out.cellV hkl
  have eg : ((celE seed l).map cellT)[k] = cellT (cellAt seed l k) := by
    have h1 := CA.out k hlt
    rw [List.getElem_map]
    congr 1
    have h2 : k < (celE seed l).length := by simpa using hkl
    rw [List.getElem?_eq_getElem h2] at h1
    exact Option.some.inj h1
  rw [eg] at e0 hu hv
  clear eg hkl
  have LB := Lib.hid (IL.out k hk)
  have NX := Lib.hid (imgK_succ (CA.out k hlt))
  cases hcx : cellAt seed l k with
  | none =>
    rw [hcx] at e0
    simp only [cellT] at e0
    have NX1 := Lib.hid (show imgK seed l k ++ [0] = imgK seed l (k + 1) by rw [← NX.out, hcx]; rfl)
    have ha1 := Lib.hid (show (wr.alloc (.cells #[.int .u8 0] 5)).heap.size = wr.heap.size + 1 by simp)
    have kA := Lib.hid ((Kept.refl Noneof wr).alloc (.cells #[.int .u8 0] 5))
    have qA := Lib.hid (heap_alloc_new wr (.cells #[.int .u8 0] 5))
    clear hu hv e1 e2 hcx NX
    go_wp2_with (at_builtin; refine wl_app_one (E := byteEl) (D := Noneof) (D' := Noneof) rfl (.tmp 27) (.tmp 28) _ rfl tBytes _ _ rfl (O.out.kept kA.out fun _ h => h.elim) wr.heap.size [.int .u8 0] 0 rfl ?c1 ?c2 ?c3 ?c4 ?c5 ?c6 ?_)
    case c1 => exact ⟨_, _, qA.out⟩
    case c2 => exact (rfl : _ = _)
    case c3 => exact fun _ h => h.elim
    case c4 => have := LB.out; omega
    case c5 => omega
    case c6 => have := KW.out.size; rw [ha1.out]; omega
    intro v5 w5 ho5 k5 b5
    rw [NX1.out] at ho5
    have O5 := Lib.hid ho5
    have TT5 := Lib.hid ((TT.out.kept kA.out fun _ h => h.elim).kept k5 fun b h _ => ⟨fun h' => by have := (O.out.lt b h).1; omega, fun e => NB.out b h (by simpa [Value.ownBlock] using e.symm)⟩)
    have KW5 := Lib.hid ((KW.out.tr kA.out).trans k5 fun b h => .inr (O.out.lt b h).1)
    have NB5 := Lib.hid (show ∀ b, v5.ownBlock = some b → b ≠ g from fun b hb => by
      rcases b5 b hb with h | h
      · exact NB.out b h
      · have := (TT.out.lt g rfl).2; have := ha1.out; omega)
    clear ho5 k5 b5 O TT KW NB kA qA ha1 LB NX1 e0
    go_wp2
    go_roundw
    case rel => exact ⟨k + 1, by omega, by go_num, O5, TT5, NB5, KW5⟩
    case measure => simp [intOf]; omega
  | some p =>
    rw [hcx] at e0 hu hv
    obtain ⟨p1, p2⟩ := p
    simp only [cellT] at e0
    obtain ⟨_, hp1, hp2⟩ := OK.out _ (cellAt_mem HN.out hcx)
    simp only at hp1 hp2
    have hu : BV (fun b => b < w.heap.size) wr u p1 := hu
    have hv : BV (fun b => b < w.heap.size) wr v p2 := hv
    have HU := Lib.hid hu
    have HV := Lib.hid hv
    obtain ⟨ua, uc, rfl, _⟩ := hu
    obtain ⟨va, vc, rfl, _⟩ := hv
    have hb := byte_nat p1.length (by omega)
    have T2 := Lib.hid (show imgK seed l k ++ ([1, UInt8.ofNat p1.length] ++ leI p2.length 2 ++ p1 ++ p2) = imgK seed l (k + 1) by rw [← NX.out, hcx, cellB_two hp1])
    have HP := Lib.hid (And.intro hp1 hp2)
    have ha1 := Lib.hid (show (wr.alloc (.cells #[.int .u8 1, .int .u8 (p1.length : Int)] 5)).heap.size = wr.heap.size + 1 by simp)
    have kA := Lib.hid ((Kept.refl Noneof wr).alloc (.cells #[.int .u8 1, .int .u8 (p1.length : Int)] 5))
    have qA := Lib.hid (heap_alloc_new wr (.cells #[.int .u8 1, .int .u8 (p1.length : Int)] 5))
    clear hcx NX hp1 hp2
    go_wp2_with (at_builtin; refine wl_app (E := byteEl) (D := Noneof) (D' := Noneof) rfl (.tmp 30) (.tmp 38) _ rfl tBytes _ _ rfl (O.out.kept kA.out fun _ h => h.elim) _ 2 [1, UInt8.ofNat p1.length] rfl ?d1 ?d2 [.int .u8 1, .int .u8 (p1.length : Int)] ?d3 ?d4 ?d5 ?d6 ?d7 ?d8 ?_)
    case d3 => exact two_bytes rfl (by have := HP.out.1; simp; omega)
    case d5 => exact fun _ h => h.elim
    case d6 => have := LB.out; first | omega | (simp; omega)
    case d8 => have := KW.out.size; have := kA.out.size; omega
    intro v5 w5 ho5 k5 b5 _
    replace e1 := k5.cell (p := ⟨g, k * 3 + 1, none⟩) (fun e => NB.out g e rfl) (kA.out.cell (p := ⟨g, k * 3 + 1, none⟩) (fun h => h) e1)
    replace e2 := k5.cell (p := ⟨g, k * 3 + 2, none⟩) (fun e => NB.out g e rfl) (kA.out.cell (p := ⟨g, k * 3 + 2, none⟩) (fun h => h) e2)
    have KA5 := Lib.hid (show Kept (fun b => w.heap.size ≤ b) wr w5 from (kA.out.mono (T := fun b => w.heap.size ≤ b) fun _ h => h.elim).trans k5 fun b h => .inl (O.out.lt b h).1)
    have O5 := Lib.hid ho5
    have TT5 := Lib.hid ((TT.out.kept kA.out fun _ h => h.elim).kept k5 fun b h _ => ⟨fun h' => by have := (O.out.lt b h).1; omega, fun e => NB.out b h (by simpa [Value.ownBlock] using e.symm)⟩)
    have KW5 := Lib.hid ((KW.out.tr kA.out).trans k5 fun b h => .inr (O.out.lt b h).1)
    have NB5 := Lib.hid (show ∀ b, v5.ownBlock = some b → b ≠ g from fun b hb => by
      rcases b5 b hb with h | h
      · exact NB.out b h
      · have := (TT.out.lt g rfl).2; have := ha1.out; omega)
    replace HU := Lib.hid (HU.out.kept byteEl_k KA5.out fun b h _ e => by have h : b < w.heap.size := h; have e : w.heap.size ≤ b := e; omega)
    replace HV := Lib.hid (HV.out.kept byteEl_k KA5.out fun b h _ e => by have h : b < w.heap.size := h; have e : w.heap.size ≤ b := e; omega)
    have LB5 := Lib.hid (show (imgK seed l k ++ [1, UInt8.ofNat p1.length]).length ≤ 900000002 by have := LB.out; simp; omega)
    obtain ⟨a5, n5, c5, rfl⟩ := ho5.slice'
    have hv2 := HP.out.2
    clear ho5 k5 b5 O TT KW NB kA qA ha1 LB KA5 e0 hb
    go_wp2_with fail
    refine (r1Little_calls (x := p2.length) (n := 2) (by omega) (by omega) (by omega)).mono ?_
    rintro e w6 ⟨v6, rfl, o6, k6⟩
    have O6 := Lib.hid o6.sv
    obtain ⟨a6, n6, c6, rfl⟩ := o6.slice'
    replace e1 := k6.cell (p := ⟨g, k * 3 + 1, none⟩) (fun h => h) e1
    replace e2 := k6.cell (p := ⟨g, k * 3 + 2, none⟩) (fun h => h) e2
    replace HU := Lib.hid (HU.out.still' k6)
    replace HV := Lib.hid (HV.out.still' k6)
    replace O5 := Lib.hid (O5.out.kept k6 fun _ h => h.elim)
    replace TT5 := Lib.hid (TT5.out.kept k6 fun _ h => h.elim)
    replace KW5 := Lib.hid (KW5.out.tr k6)
    clear o6 k6
    go_wp2_with (at_builtin; refine wl_app_bytes rfl (.tmp 40) (.tmp 48) _ rfl tBytes _ _ rfl O5.out _ (leI p2.length 2) rfl O6.out ?c4 ?c6 ?_)
    case c4 => have := LB5.out; rw [leI_len]; omega
    case c6 => exact KW5.out.size
    (
    intro vX wX hoX kX bX
    have hgl := (TT5.out.lt g rfl).2
    replace e1 := kX.cell (p := ⟨g, k * 3 + 1, none⟩) (fun e => NB5.out g e rfl) e1
    replace e2 := kX.cell (p := ⟨g, k * 3 + 2, none⟩) (fun e => NB5.out g e rfl) e2
    replace HU := Lib.hid (HU.out.kept byteEl_k kX fun b h _ e => by have h : b < w.heap.size := h; have := (O5.out.lt b e).1; omega)
    replace HV := Lib.hid (HV.out.kept byteEl_k kX fun b h _ e => by have h : b < w.heap.size := h; have := (O5.out.lt b e).1; omega)
    replace TT5 := Lib.hid (TT5.out.kept kX fun b h _ => ⟨fun h' => by have := (O5.out.lt b h).1; omega, fun e => NB5.out b h (by simpa [Value.ownBlock] using e.symm)⟩)
    replace KW5 := Lib.hid (KW5.out.trans kX fun b h => .inr (O5.out.lt b h).1)
    replace NB5 := Lib.hid (show ∀ b, vX.ownBlock = some b → b ≠ g from fun b hb => by
      rcases bX b hb with h | h
      · exact NB5.out b h
      · omega)
    replace O5 := Lib.hid hoX)
    obtain ⟨a5, n5, c5, rfl⟩ := hoX.slice'
    have LB6 := Lib.hid (show (imgK seed l k ++ 1 :: UInt8.ofNat p1.length :: leI p2.length 2).length ≤ 900000004 by have := LB5.out; simp [leI_len] at this ⊢; omega)
    clear hoX kX bX hgl O6 LB5
    go_wp2_with (at_builtin; refine wl_app_bytes rfl (.tmp 50) (.tmp 55) _ rfl tBytes _ _ rfl O5.out _ p1 rfl HU.out ?c4 ?c6 ?_)
    case c4 => have := LB6.out; have := HP.out.1; omega
    case c6 => exact KW5.out.size
    (
    intro vX wX hoX kX bX
    have hgl := (TT5.out.lt g rfl).2
    replace e1 := kX.cell (p := ⟨g, k * 3 + 1, none⟩) (fun e => NB5.out g e rfl) e1
    replace e2 := kX.cell (p := ⟨g, k * 3 + 2, none⟩) (fun e => NB5.out g e rfl) e2
    replace HU := Lib.hid (HU.out.kept byteEl_k kX fun b h _ e => by have h : b < w.heap.size := h; have := (O5.out.lt b e).1; omega)
    replace HV := Lib.hid (HV.out.kept byteEl_k kX fun b h _ e => by have h : b < w.heap.size := h; have := (O5.out.lt b e).1; omega)
    replace TT5 := Lib.hid (TT5.out.kept kX fun b h _ => ⟨fun h' => by have := (O5.out.lt b h).1; omega, fun e => NB5.out b h (by simpa [Value.ownBlock] using e.symm)⟩)
    replace KW5 := Lib.hid (KW5.out.trans kX fun b h => .inr (O5.out.lt b h).1)
    replace NB5 := Lib.hid (show ∀ b, vX.ownBlock = some b → b ≠ g from fun b hb => by
      rcases bX b hb with h | h
      · exact NB5.out b h
      · omega)
    replace O5 := Lib.hid hoX)
    obtain ⟨a5, n5, c5, rfl⟩ := hoX.slice'
    have LB7 := Lib.hid (show (imgK seed l k ++ 1 :: UInt8.ofNat p1.length :: (leI p2.length 2 ++ p1)).length ≤ 900000100 by have := LB6.out; have := HP.out.1; simp only [List.length_append, List.length_cons] at *; omega)
    clear hoX kX bX hgl LB6
    go_wp2_with (at_builtin; refine wl_app_bytes rfl (.tmp 57) (.tmp 62) _ rfl tBytes _ _ rfl O5.out _ p2 rfl HV.out ?c4 ?c6 ?_)
    case c4 => have := LB7.out; have := HP.out.2; omega
    case c6 => exact KW5.out.size
    (
    intro vX wX hoX kX bX
    have hgl := (TT5.out.lt g rfl).2
    replace e1 := kX.cell (p := ⟨g, k * 3 + 1, none⟩) (fun e => NB5.out g e rfl) e1
    replace e2 := kX.cell (p := ⟨g, k * 3 + 2, none⟩) (fun e => NB5.out g e rfl) e2
    replace HU := Lib.hid (HU.out.kept byteEl_k kX fun b h _ e => by have h : b < w.heap.size := h; have := (O5.out.lt b e).1; omega)
    replace HV := Lib.hid (HV.out.kept byteEl_k kX fun b h _ e => by have h : b < w.heap.size := h; have := (O5.out.lt b e).1; omega)
    replace TT5 := Lib.hid (TT5.out.kept kX fun b h _ => ⟨fun h' => by have := (O5.out.lt b h).1; omega, fun e => NB5.out b h (by simpa [Value.ownBlock] using e.symm)⟩)
    replace KW5 := Lib.hid (KW5.out.trans kX fun b h => .inr (O5.out.lt b h).1)
    replace NB5 := Lib.hid (show ∀ b, vX.ownBlock = some b → b ≠ g from fun b hb => by
      rcases bX b hb with h | h
      · exact NB5.out b h
      · omega)
    replace O5 := Lib.hid hoX)
    have O6 := Lib.hid (show Own 5 byteEl Noneof w.heap.size wX vX (imgK seed l (k + 1)) by
      rw [← T2.out]
      simpa using hoX)
    obtain ⟨a5, n5, c5, rfl⟩ := hoX.slice'
    clear hoX kX bX hgl LB7 T2 HU HV O5 e1 e2 HP hv2
    go_wp2
    go_roundw
    case rel => exact ⟨k + 1, by omega, by go_num, O6, TT5, NB5, KW5⟩
    case measure => simp [intOf]; omega
end Go.Proofs.Ytaopjdjbpamhhaa
/- Proved: plain facts: what a map has behind a mirror; the reference's recursion tells the same messages and leaves the same pairs. No program. No condition. -/
namespace Go.Proofs.Ytaopjdjbpamhhaa
open Go Go.RowKit
set_option linter.unusedVariables false
set_option linter.unusedSimpArgs false
theorem getK_ins : ∀ {l : List (Bts × Bts)} {k v x : Bts}, Srt l → getK (ins l k v) x = if k = x then some v else getK l x
  | [], k, v, x, _ => by
    rw [ins, getK, getK]
    by_cases e : k = x
    · subst e; rw [if_neg (by rw [cmpB_self]; omega), if_pos (cmpB_self _), if_pos rfl]
    · rw [if_neg e]
      split
      · rfl
      · rw [if_neg fun h => e (cmpB_zero h)]
  | p :: l, k, v, x, hs => by
    have hs' := List.pairwise_cons.1 hs
    have ih := getK_ins (l := l) (k := k) (v := v) (x := x) hs'.2
    rw [ins]
    by_cases c : cmpB p.1 k < 0
    · rw [if_pos c, getK, getK, ih]
      by_cases d : cmpB p.1 x < 0
      · rw [if_pos d, if_pos d]
      · rw [if_neg d, if_neg d, if_neg (fun e : k = x => d (e ▸ c))]
    · rw [if_neg c]
      by_cases e : cmpB p.1 k = 0
      · rw [if_pos e]
        have e := cmpB_zero e
        subst e
        rw [getK, getK]
        by_cases d : p.1 = x
        · rw [← d, if_neg (by rw [cmpB_self]; omega), if_pos (cmpB_self _), if_pos rfl]
        · rw [if_neg d]
          split
          · rfl
          · rw [if_neg fun h => d (cmpB_zero h), if_neg fun h => d (cmpB_zero h)]
      · rw [if_neg e, getK]
        have c' : cmpB k p.1 < 0 := by have := cmpB_neg p.1 k; omega
        by_cases d : k = x
        · subst d
          rw [if_neg (by rw [cmpB_self]; omega), if_pos (cmpB_self _), if_pos rfl]
        · rw [if_neg d]
          by_cases d1 : cmpB k x < 0
          · rw [if_pos d1]
          · rw [if_neg d1, if_neg fun h => d (cmpB_zero h)]
            have d2 : cmpB x k < 0 := by have := cmpB_neg k x; have : ¬ cmpB k x = 0 := fun h => d (cmpB_zero h); omega
            have d3 := not_lt_of (cmpB_trans d2 c')
            rw [getK, if_neg d3.1, if_neg d3.2]
theorem getK_del : ∀ {l : List (Bts × Bts)} {k x : Bts}, Srt l → getK (del l k) x = if k = x then none else getK l x
  | [], k, x, _ => by simp [del, getK]
  | p :: l, k, x, hs => by
    have hs' := List.pairwise_cons.1 hs
    have ih := getK_del (l := l) (k := k) (x := x) hs'.2
    rw [del]
    by_cases c : cmpB p.1 k < 0
    · rw [if_pos c, getK, getK, ih]
      by_cases d : cmpB p.1 x < 0
      · rw [if_pos d, if_pos d]
      · rw [if_neg d, if_neg d, if_neg (fun e : k = x => d (e ▸ c))]
    · rw [if_neg c]
      by_cases e : cmpB p.1 k = 0
      · rw [if_pos e]
        have e := cmpB_zero e
        subst e
        by_cases d : p.1 = x
        · subst d
          rw [if_pos rfl]
          exact getK_gt0 fun q hq => hs'.1 q hq
        · rw [if_neg d, getK]
          by_cases d1 : cmpB p.1 x < 0
          · rw [if_pos d1]
          · rw [if_neg d1, if_neg fun h => d (cmpB_zero h)]
            have d2 : cmpB x p.1 < 0 := by have := cmpB_neg p.1 x; have : ¬ cmpB p.1 x = 0 := fun h => d (cmpB_zero h); omega
            exact getK_gt0 fun q hq => cmpB_trans d2 (hs'.1 q hq)
      · rw [if_neg e]
        by_cases d : k = x
        · subst d
          rw [if_pos rfl, getK, if_neg c, if_neg e]
        · rw [if_neg d]
theorem getK_iff {l : List (Bts × Bts)} {k v : Bts} (h : Srt l) : getK l k = some v ↔ (k, v) ∈ l := ⟨getK_mem, fun hm => mem_getK h hm⟩
theorem srt_getK {a b : List (Bts × Bts)} (ha : Srt a) (hb : Srt b) (h : ∀ k, getK a k = getK b k) : a = b :=
  srt_ext ha hb fun p => by rw [show p = (p.1, p.2) from rfl, ← getK_iff ha, ← getK_iff hb, h]
theorem srt_filter {l : List (Bts × Bts)} (f : Bts × Bts → Bool) (h : Srt l) : Srt (l.filter f) := List.Pairwise.sublist List.filter_sublist h
theorem getK_filter {l : List (Bts × Bts)} {low high x : Bts} {fr tt : Bool} (h : Srt l) : getK (l.filter (inS low fr high tt)) x = if inS low fr high tt (x, []) = true then getK l x else none := by
  refine Option.ext fun v => ?_
  rw [getK_iff (srt_filter _ h), List.mem_filter, ← getK_iff h]
  split
  · next c => exact ⟨fun h => h.1, fun h => ⟨h, c⟩⟩
  · next c => exact ⟨fun h => absurd h.2 c, fun h => by cases h⟩

section
variable {seed : Int}
/-- What the last pair of a key says. -/
def lastK : List (Bts × Bts) → Bts → Option Bts
  | [], _ => none
  | p :: l, x => (lastK l x).or (if p.1 = x then some p.2 else none)
theorem Tr.ext {t u : Tr} (ht : t.good seed) (hu : u.good seed) (h : ∀ k, getK t.pairs k = getK u.pairs k) : t = u := Tr.canon ht hu (srt_getK (Tr.good_srt ht) (Tr.good_srt hu) h)

/-! ### The reference's recursion -/
/-- Two maps have the same in a span. -/
def Agree (u u' : Tr) (low high : Bts) (bd : Bool) : Prop := ∀ x, inS low true high bd (x, []) = true → getK u'.pairs x = getK u.pairs x
theorem Agree.filter {u u' : Tr} {low high : Bts} {bd : Bool} (h : Agree u u' low high bd) (hu : u.good seed) (hu' : u'.good seed) : u'.pairs.filter (inS low true high bd) = u.pairs.filter (inS low true high bd) :=
  srt_getK (srt_filter _ (Tr.good_srt hu')) (srt_filter _ (Tr.good_srt hu)) fun k => by
    rw [getK_filter (Tr.good_srt hu'), getK_filter (Tr.good_srt hu)]
    split
    · next c => exact h k c
    · rfl
theorem Agree.cut {u u' : Tr} {low high : Bts} {bd : Bool} (h : Agree u u' low high bd) (hu : u.good seed) (hu' : u'.good seed) : u'.cut low true high bd = u.cut low true high bd := by
  obtain ⟨g1, e1⟩ := Tr.cut_good low true high bd hu
  obtain ⟨g2, e2⟩ := Tr.cut_good low true high bd hu'
  exact Tr.canon g2 g1 (by rw [e1, e2, h.filter hu hu'])
theorem Agree.same {u u' t : Tr} {low high : Bts} {bd : Bool} (h : Agree u u' low high bd) (hu : u.good seed) (hu' : u'.good seed) : sameAt seed u' t low high bd = sameAt seed u t low high bd := by
  unfold sameAt
  rw [h.cut hu hu']
/-- What a map has behind a mirror of a span. -/
def behind (seed : Int) (u t : Tr) (low high : Bts) (bd : Bool) (x : Bts) (a : Option Bts) : Option Bts := (lastK (comes seed u t low high bd) x).or (if x ∈ gones seed u t low high bd then none else a)
/-! ### Where no spans meet -/
end
end Go.Proofs.Ytaopjdjbpamhhaa
