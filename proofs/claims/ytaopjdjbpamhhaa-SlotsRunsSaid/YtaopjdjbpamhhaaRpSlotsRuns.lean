/- Proved: the law SlotsRuns returns true for all its arguments, and each argument reads afterwards as it read before. No condition beyond the statement's own. -/
import Derived.Test.YtaopjdjbpamhhaaPkO
import Derived.Test.YtaopjdjbpamhhaaRows
import Derived.Test.YtaopjdjbpamhhaaFacts
import Derived.Test.YtaopjdjbpamhhaaPkN
import Derived.Test.YtaopjdjbpamhhaaPkA
import Derived.ProofKit
import Derived.OpenShut
import Derived.ShutString
import Derived.ChangeOld
import Derived.ChangeMaps5
import Derived.SizedLaws
import Derived.Carry
/- Proved: the law function SlotsRuns returns true for all its arguments. Conditions: ops in memory. -/
namespace Go.Proofs.Ytaopjdjbpamhhaa
open Go Go.RowKit
set_option linter.unusedVariables false
set_option linter.unusedSimpArgs false

set_option maxRecDepth 100000 in
set_option maxHeartbeats 8000000 in
theorem slotsRuns_walk {w : World} {seed : Int} {script : Value} {l : List OpK} {D1 : Nat → Prop} (h1 : SV opEl D1 w script l) :
    Calls Try.prog 11 #[.int .u64 seed, script] w fun e w' => e = .returned (.bool true) ∧ Kept Noneof w w' := by
  have H1 := Lib.hid (h1.bd opEl_k)
  obtain ⟨a, c, rfl, ⟨hc, _⟩, hm, _⟩ := h1
  have FW := Lib.hid (l1few_calls (w := w) H1.out)
  obtain ⟨n, hn⟩ : ∃ n, l.length = n := ⟨_, rfl⟩
  rw [hn] at hc hm FW ⊢
  replace hn := Lib.hid hn
  go_enter Try.func11, Try.ntmps11
  go_wp2_with fail
  refine FW.out.mono ?_
  rintro e w ⟨rfl, rfl⟩
  clear FW
  by_cases hf : fewO l = true
  · have h120 : n ≤ 120 := by
      unfold fewO at hf
      simp only [Bool.and_eq_true, decide_eq_true_eq] at hf
      rw [hn.out] at hf
      exact hf.1
    rw [hf]
    clear hf
    go_wp2_with fail
    refine slNew_calls.mono ?_
    rintro e w1 ⟨rfl, t1, k1, _⟩
    have TB := Lib.hid (show ∃ F, TabAt seed w1 (w.heap.size + 1) (opsT (l.take 0)) F ∧ ∀ b, F b → w.heap.size ≤ b from ⟨_, t1, fun b h => h.1⟩)
    have KW := Lib.hid k1
    clear t1 k1
    generalize w.heap.size + 1 = t at *
    unfold bp
    go_wp2_with fail
    (
  go_loopw [6] (fun kv wr => ∃ i : Nat, i ≤ n ∧ kv = .int .i64 i ∧ Hid (∃ F, TabAt seed wr t (opsT (l.take i)) F ∧ ∀ b, F b → w.heap.size ≤ b) ∧ Hid (Kept Noneof w wr)) (fun kv _ => n - (intOf kv).toNat)
  case atStart => exact ⟨0, Nat.zero_le _, rfl, TB, KW⟩
  clear TB KW
  obtain ⟨i, hi, rfl, TB, KW⟩ := hrel
  by_cases hlt : i < n
  focus
    have hlt' : (i : Int) < (n : Int) := by omega
    have hil : i < l.length := by rw [hn.out]; exact hlt
    have hsv := H1.out.still' KW.out opEl_k
    rw [hn.out] at hsv
    obtain ⟨_, _, hsl, _, _, rd⟩ := hsv
    simp only [Value.slice.injEq] at hsl
    obtain ⟨rfl, -, rfl⟩ := hsl
    obtain ⟨b, o, u, v, rfl, db, e0, e1, e2, hk, hv⟩ := Rd.op rd hil
    have DB := Lib.hid db.2
    have NX := Lib.hid (opsT_succ hil)
    have LN := Lib.hid (show (opsT (l.take i)).length < 100000 by have := opsT_len (l.take i); rw [List.length_take] at this; omega)
    generalize l[i] = x at *
    obtain ⟨xn, xk, xv⟩ := x
    simp only at e0 e1 e2 hk hv
    obtain ⟨ka, kn, kc, rfl⟩ := hk.sl
    obtain ⟨va, vn, vc, rfl⟩ := hv.sl
    have HK := Lib.hid hk
    have HV := Lib.hid hv
    clear rd db hk hv hil
    by_cases hx : xn = 1
    focus
      have hb : (xn == 1) = true := by simpa using hx
      have NX1 := Lib.hid (show opsT (l.take (i + 1)) = tdel (opsT (l.take i)) xk by rw [NX.out, opT, if_pos hx])
      clear NX hx
      go_wp2_with fail
      obtain ⟨F, tb, fb⟩ := TB.out
      refine (slDrop_calls tb HK.out (fun b h hf => by have := fb b hf; have := h.2; omega)).mono ?_
      rintro e w2 ⟨rfl, t2, k2⟩
      rw [← NX1.out] at t2
      have T2 := Lib.hid (show ∃ F, TabAt seed w2 t (opsT (l.take (i + 1))) F ∧ ∀ b, F b → w.heap.size ≤ b from ⟨F, t2, fb⟩)
      have K2 := Lib.hid (KW.out.trans k2 fun b e => .inr (fb b e))
      clear tb fb t2 k2 TB KW NX1 HK HV
      go_wp2
      go_roundw
      case rel => exact ⟨i + 1, by omega, by go_num, T2, K2⟩
      case measure => simp [intOf]; omega
    focus
      have hb : (xn == 1) = false := by simpa using hx
      have NX1 := Lib.hid (show opsT (l.take (i + 1)) = if allowedK xk xv = true then tput (opsT (l.take i)) xk xv else opsT (l.take i) by rw [NX.out, opT, if_neg hx])
      clear NX hx
      go_wp2_with fail
      refine wp_region_chain 12 [11] (fun w' => w'.cell? ⟨b, o + i * 3 + 1, none⟩ = some (.slice ka kn kc) ∧ w'.cell? ⟨b, o + i * 3 + 2, none⟩ = some (.slice va vn vc)) (by kernel_rfl) (by kernel_rfl) ?_ ?_
      · exact ⟨e1, e2⟩
      refine SeqW.out ?_
      simp only [List.take_succ_cons, List.take_zero, List.drop_succ_cons, List.drop_zero]
      have kd := (Kept.refl Noneof wr).drew
      replace e1 := kd.cell (p := ⟨b, o + i * 3 + 1, none⟩) (fun h => h) e1
      replace e2 := kd.cell (p := ⟨b, o + i * 3 + 2, none⟩) (fun h => h) e2
      replace KW := Lib.hid (KW.out.tr kd)
      replace HK := Lib.hid (HK.out.still' kd)
      replace HV := Lib.hid (HV.out.still' kd)
      replace TB := Lib.hid (show ∃ F, TabAt seed wr.drew t (opsT (l.take i)) F ∧ ∀ b, F b → w.heap.size ≤ b from by
        obtain ⟨F, tb, fb⟩ := TB.out
        exact ⟨F, tb.still kd, fb⟩)
      generalize wr.drew = wd at *
      clear kd e0
      iterate 11 (refine SeqW.val (v := ?_) (by rfl) (by rfl) (fun wx hSw => ?_) ?_; rotate_left; (focus ((try dsimp only at hSw); go_simp; (try with_reducible rfl))); (try simp only [Act.put, List.setIfInBounds_toArray, List.set_cons_zero, List.set_cons_succ]))
      refine SeqW.act (by rfl) rfl (by rfl) (by rfl) (fun K hK => ?_)
      go_simp
      obtain ⟨F, tb, fb⟩ := TB.out
      by_cases hal : allowedK xk xv = true
      focus
        rw [if_pos hal] at NX1
        refine (slPut_calls tb HK.out HV.out (fun b h hf => by have := fb b hf; have := h.2; omega) hal (.inr LN.out)).mono ?_
        rintro e w2 ⟨rfl, F', t2, f2, k2⟩
        rw [← NX1.out] at t2
        have T2 := Lib.hid (show ∃ F, TabAt seed w2 t (opsT (l.take (i + 1))) F ∧ ∀ b, F b → w.heap.size ≤ b from ⟨F', t2, fun b h => (f2 b h).elim (fb b) fun h => by have := KW.out.size; omega⟩)
        have K2 := Lib.hid (KW.out.trans k2 fun b e => .inr (fb b e))
        refine hK.out _ _ ⟨k2.cell (p := ⟨b, o + i * 3 + 1, none⟩) (fun h => by have := fb b h; have := DB.out; omega) e1, k2.cell (p := ⟨b, o + i * 3 + 2, none⟩) (fun h => by have := fb b h; have := DB.out; omega) e2⟩ ?_
        clear K hK tb fb t2 f2 k2 TB KW NX1 HK HV e1 e2 hal
        (try simp only [Act.put, List.setIfInBounds_toArray, List.set_cons_zero, List.set_cons_succ])
        refine SeqW.nil ?_
        go_wp2
        go_roundw
        case rel => exact ⟨i + 1, by omega, by go_num, T2, K2⟩
        case measure => simp [intOf]; omega
      focus
        rw [if_neg hal] at NX1
        refine (slPut_no tb HK.out HV.out (by simpa using hal)).mono ?_
        rintro e w2 ⟨⟨_, rfl, _⟩, rfl⟩
        rw [← NX1.out] at TB
        refine hK.out _ _ ⟨e1, e2⟩ ?_
        clear K hK tb fb NX1 HK HV e1 e2 hal
        (try simp only [Act.put, List.setIfInBounds_toArray, List.set_cons_zero, List.set_cons_succ])
        refine SeqW.nil ?_
        go_wp2
        go_roundw
        case rel => exact ⟨i + 1, by omega, by go_num, TB, KW⟩
        case measure => simp [intOf]; omega
  obtain rfl : n = i := by omega
  clear hlt hi
  obtain ⟨F, tb, fb⟩ := TB.out
  have TB := Lib.hid (show TabAt seed wr t (opsT l) F by rw [List.take_of_length_le (by rw [hn.out]; exact Nat.le_refl _)] at tb; exact tb)
  have FB := Lib.hid fb
  clear tb fb)
    go_wp2_with fail
    refine (slCells_calls TB.out).mono ?_
    rintro e wc ⟨cv, rfl, own, kc⟩
    have KY := Lib.hid TB.out.keyd
    have TL : (opsT l).length ≤ 120 := by have := opsT_len l; rw [hn.out] at this; omega
    generalize opsT l = T at *
    obtain ⟨_, c8, c4, _, c5⟩ := cellsN_spec (n := T.length) (by omega)
    obtain ⟨ca, cc, hcv, _, _, rd⟩ := own.sv
    have hlen : ((celE seed T).map cellT).length = cellsN T.length := by rw [List.length_map, celE_len]
    rw [hlen] at hcv
    subst hcv
    have OC := Lib.hid rd
    have AT := Lib.hid (fun c p (hc : c < cellsN T.length) h => celE_path (seed := seed) (c := c) (p := p) KY.out (by omega) hc h)
    have KC := Lib.hid (KW.out.tr kc)
    have CA := Lib.hid (fun (w' : World) (k : Kept Noneof wc w') i (hi : i < cellsN T.length) => cells_at (OC.out.kept cellEl_k k fun _ _ _ h => h) hi)
    have HP := Lib.hid (fun k => hmE_lt seed k (show 0 < cellsN T.length by omega))
    generalize cellsN T.length = C at *
    have C8 : 8 ≤ C := by omega
    have CM : C ≤ 1048576 := by omega
    clear own kc rd hlen TB FB KW OC c8 c4 c5
    go_wp2_with fail
    go_loopw [8] (fun kv wr => ∃ i : Nat, i ≤ C ∧ kv = .int .i64 i ∧ Hid (Kept Noneof wc wr)) (fun kv _ => C - (intOf kv).toNat)
    case atStart => exact ⟨0, Nat.zero_le _, rfl, Lib.hid (Kept.refl _ _)⟩
    obtain ⟨i, hi, rfl, KW⟩ := hrel
    by_cases hlt : i < C
    · have hlt' : (i : Int) < (C : Int) := by omega
      obtain ⟨b, o, u, v, rfl, db, e0, e1, e2, hk, hv⟩ := CA.out wr KW.out i hlt
      cases hcx : cellAt seed T i with
      | none =>
        rw [hcx] at e0
        simp only [cellT] at e0
        clear hk hv e1 e2 hcx
        go_wp2
        go_roundw
        case rel => exact ⟨i + 1, by omega, by go_num, KW⟩
        case measure => simp [intOf]; omega
      | some p =>
        rw [hcx] at e0 hk hv
        simp only [cellT] at e0 hk hv
        obtain ⟨k, hkC, hik, path⟩ := AT.out i p hlt hcx
        have PATH := Lib.hid path
        have IK := Lib.hid hik
        obtain ⟨ka, kn, kc, rfl⟩ := hk.sl
        have HK := Lib.hid hk
        clear hk hv path hik hcx e2
        go_wp2_with fail
        refine wp_region_kept 14 [(6, .con (.int .u64 (coin seed 2 p.1))), (13, .act IsPtr fun u wx => ∃ b, u = bp b ∧ wr.heap.size ≤ b ∧ wx.heap[b]? = some (.cells #[.int .i64 0, .int .u64 0, .slice none 0 0] 61))] Noneof (by kernel_rfl) (by kernel_rfl) (by kernel_rfl) ?_; simp only [List.take_succ_cons, List.take_zero, List.drop_succ_cons, List.drop_zero]
        have hS : ∀ w', Kept Noneof wr w' → w'.cell? ⟨b, o + i * 3 + 1, none⟩ = some (.slice ka kn kc) := fun w' k => k.cell (fun h => h) e1
        iterate 6 (refine SeqL.val (v := ?_) hS rfl (by rfl) (fun wx hSw => ?_) ?_; rotate_left; (focus ((try dsimp only at hSw); go_simp; (try with_reducible rfl))); (try simp only [Act.put, List.setIfInBounds_toArray, List.set_cons_zero, List.set_cons_succ]))
        refine SeqL.con rfl rfl (by rfl) (by rfl) (fun wx hx hh K hK => ?_) ?_
        · go_simp
          refine (slCoin_calls (HK.out.still' hx)).mono ?_
          rintro e w2 ⟨rfl, d2⟩
          exact hK.out w2 ((Kept.refl Noneof wx).drewn d2)
        (try simp only [Act.put, List.setIfInBounds_toArray, List.set_cons_zero, List.set_cons_succ])
        iterate 6 (refine SeqL.val (v := ?_) hS rfl (by rfl) (fun wx hSw => ?_) ?_; rotate_left; (focus ((try dsimp only at hSw); go_simp; (try with_reducible rfl))); (try simp only [Act.put, List.setIfInBounds_toArray, List.set_cons_zero, List.set_cons_succ]))
        refine SeqL.act rfl rfl (by rfl) (by rfl) isPtr (fun wx hx hh K hK => ?_) (fun u1 hu1 => ?_)
        · go_simp
          exact hK.out _ _ ⟨_, rfl⟩ ((Kept.refl _ _).alloc _) ⟨_, rfl, hx.size, heap_alloc_new wx _⟩
        obtain ⟨bm, rfl⟩ := hu1
        (try simp only [Act.put, List.setIfInBounds_toArray, List.set_cons_zero, List.set_cons_succ])
        refine SeqL.nil fun wz hz hh => ?_
        obtain ⟨wc', _, oc, kc'⟩ := hh 13 (by decide) _ _ _ rfl rfl
        have hbm : wr.heap.size ≤ bm ∧ wz.heap[bm]? = some (.cells #[.int .i64 0, .int .u64 0, .slice none 0 0] 61) := by
          obtain ⟨b', e1, e2, e3⟩ := oc
          have e1 : bp bm = bp b' := e1
          simp only [bp, Value.pointer.injEq, Option.some.injEq, Addr.mk.injEq, and_true] at e1
          subst e1
          exact ⟨e2, kc'.obj (fun h => h) e3⟩
        obtain ⟨hbm, gm⟩ := hbm
        have g0 : wz.cell? ⟨bm, 0, none⟩ = some (.int .i64 0) := by simp [World.cell?, gm]
        have g1 : wz.cell? ⟨bm, 1, none⟩ = some (.int .u64 0) := by simp [World.cell?, gm]
        have g2 : wz.cell? ⟨bm, 2, none⟩ = some (.slice none 0 0) := by simp [World.cell?, gm]
        have ef : ∀ j, wz.frozen? ⟨bm, j, none⟩ = false := fun j => by simp [World.frozen?, gm]
        have GM := Lib.hid (setCell_obj (setCell_obj (setCell_obj gm (.int .i64 0) (j := 0)) (.int .u64 (coin seed 2 p.1)) (j := 1)) (.slice ka kn kc) (j := 2))
        have KM := Lib.hid (((((Kept.refl (fun b => b = bm) wz).setCell (p := ⟨bm, 0, none⟩) (.inl rfl) (.int .i64 0)).setCell (p := ⟨bm, 1, none⟩) (.inl rfl) (.int .u64 (coin seed 2 p.1))).setCell (p := ⟨bm, 2, none⟩) (.inl rfl) (.slice ka kn kc)))
        have HZ := Lib.hid hz
        have HBM := Lib.hid hbm
        clear hh hS oc kc' hz gm hbm e0
        go_upto_region 18 with (fail)
        have GC := Lib.hid (show _ ∧ _ ∧ _ from ⟨show (((wz.setCell ⟨bm, 0, none⟩ (.int .i64 0)).setCell ⟨bm, 1, none⟩ (.int .u64 (coin seed 2 p.1))).setCell ⟨bm, 2, none⟩ (.slice ka kn kc)).cell? ⟨bm, 0, none⟩ = some (.int .i64 0) by simp [World.cell?, GM.out], show (((wz.setCell ⟨bm, 0, none⟩ (.int .i64 0)).setCell ⟨bm, 1, none⟩ (.int .u64 (coin seed 2 p.1))).setCell ⟨bm, 2, none⟩ (.slice ka kn kc)).cell? ⟨bm, 1, none⟩ = some (.int .u64 (coin seed 2 p.1)) by simp [World.cell?, GM.out], show (((wz.setCell ⟨bm, 0, none⟩ (.int .i64 0)).setCell ⟨bm, 1, none⟩ (.int .u64 (coin seed 2 p.1))).setCell ⟨bm, 2, none⟩ (.slice ka kn kc)).cell? ⟨bm, 2, none⟩ = some (.slice ka kn kc) by simp [World.cell?, GM.out]⟩)
        have K3 := HZ.out.trans KM.out fun b e => .inr (by have := HBM.out; omega)
        generalize ((wz.setCell ⟨bm, 0, none⟩ (.int .i64 0)).setCell ⟨bm, 1, none⟩ (.int .u64 (coin seed 2 p.1))).setCell ⟨bm, 2, none⟩ (.slice ka kn kc) = w3 at *
        replace e1 := K3.cell (p := ⟨b, o + i * 3 + 1, none⟩) (fun h => h) e1
        replace KW := Lib.hid (KW.out.tr K3)
        replace HK := Lib.hid (HK.out.still' K3)
        clear g0 g1 g2 ef GM KM HZ K3
        go_wp2_with fail
        refine (slCoin_calls HK.out).mono ?_
        rintro e w4 ⟨rfl, d4⟩
        have k4 := (Kept.refl Noneof w3).drewn d4
        replace KW := Lib.hid (KW.out.tr k4)
        replace HK := Lib.hid (HK.out.still' k4)
        replace GC := Lib.hid (show _ ∧ _ ∧ _ from ⟨k4.cell (p := ⟨bm, 0, none⟩) (fun h => h) GC.out.1, k4.cell (p := ⟨bm, 1, none⟩) (fun h => h) GC.out.2.1, k4.cell (p := ⟨bm, 2, none⟩) (fun h => h) GC.out.2.2⟩)
        obtain ⟨r1, r2⟩ := coin_range seed 1 p.1
        have he : ((hmE seed C p.1 : Nat) : Int) = coin seed 1 p.1 % (C : Int) := by
          unfold hmE
          exact Int.toNat_of_nonneg (Int.emod_nonneg _ (by omega))
        have hh := HP.out p.1
        have CB := Lib.hid (fun q : Bts × Bts => comesE_befI seed q p)
        generalize hmE seed C p.1 = home at *
        generalize coin seed 1 p.1 = x1 at *
        have w1 : IntKind.u64.wrap (C : Int) = (C : Int) := IntWalk.u64_in _ ⟨by omega, by omega⟩
        have hz : ((C : Int) == 0) = false := by simp; omega
        have R : x1.tmod C = (home : Int) := by rw [Int.tmod_eq_emod_of_nonneg r1]; exact he.symm
        clear he k4 d4 e1 r1 r2
        go_upto_region 19 with (fail)
        try rw [R]
        clear R w1
        have CELLP := GC
        go_loopw [10] (fun av w' => ∃ j : Nat, j ≤ k ∧ av = .int .i64 (stepC C home j : Nat) ∧ Hid (Kept Noneof w4 w')) (fun av _ => k - ((intOf av).toNat + C - home) % C)
        case atStart => exact ⟨0, Nat.zero_le _, by rw [stepC_zero hh], Lib.hid (Kept.refl _ _)⟩
        obtain ⟨j, hj, rfl, K5⟩ := hrel
        by_cases hjk : j < k
        · as_aux_lemma =>
            have B1 := stepC_back (k := j) hh (by omega)
            have B2 := stepC_back (k := k) hh hkC
            have B3 := Lib.hid (stepC_back (k := j + 1) hh (by omega))
            have hne : stepC C home j ≠ i := fun e => by
              rw [e, IK.out, B2] at B1
              omega
            have hb : (((stepC C home j : Nat) : Int) != (i : Int)) = true := by simp; omega
            obtain ⟨q, hq, hcm⟩ := PATH.out j hjk
            have hat := stepC_lt (cells := C) (c := home) (k := j) (by omega)
            have NX := Lib.hid (stepC_succ C home j)
            have BB := Lib.hid B1
            generalize stepC C home j = at' at *
            have hat' : (at' : Int) < (C : Int) := by omega
            have R2 : ((at' : Int) + 1).tmod (C : Int) = ((stepC C home (j + 1) : Nat) : Int) := by
              rw [Int.tmod_eq_emod_of_nonneg (by omega), ← NX.out]
              push_cast
              rfl
            obtain ⟨b', o', u', v', eb, _, f0, f1, f2, hk', hv'⟩ := CA.out wr (KW.out.tr K5.out) at' hat
            simp only [Option.some.injEq, Addr.mk.injEq, and_true] at eb
            obtain ⟨rfl, rfl⟩ := eb
            rw [hq] at f0 hk' hv'
            simp only [cellT] at f0 hk' hv'
            obtain ⟨qa, qn, qc, rfl⟩ := hk'.sl
            obtain ⟨va, vn, vc, rfl⟩ := hv'.sl
            have HQ := Lib.hid hk'
            have CM2 := Lib.hid hcm
            have CBQ : befI (0, coin seed 2 q.1, q.1) (0, coin seed 2 p.1, p.1) = true := by rw [CB.out, CM2.out]
            have CQ := Lib.hid (fun (Da : Nat → Prop) (wx : World) (h : BV Da wx (.slice qa qn qc) q.1) => slCoin_calls (seed := seed) (tag := 2) h)
            have BQ := Lib.hid (show ∀ (Da Db : Nat → Prop) (wx : World), BV Da wx (.slice qa qn qc) q.1 → BV Db wx (.slice ka kn kc) p.1 → Calls Try.prog 53 #[.agg #[.int .i64 0, .int .u64 (coin seed 2 q.1), .slice qa qn qc], .agg #[.int .i64 0, .int .u64 (coin seed 2 p.1), .slice ka kn kc]] wx (fun e w' => e = .returned (.bool true) ∧ Kept Noneof wx w') from fun Da Db wx h1 h2 => by
              have := r1Before_calls (x := (0, coin seed 2 q.1, q.1)) (y := (0, coin seed 2 p.1, p.1)) h1 h2
              rw [CBQ] at this
              exact this)
            clear B1 B2 hne hq hk' hv' hcm CBQ CM2 CB
            generalize coin seed 2 q.1 = cq at *
            generalize coin seed 2 p.1 = cp at *
            go_upto_region 21 with (fail)
            have kA := (Kept.refl Noneof wr).alloc (.cells #[.bool true, .slice qa qn qc, .slice va vn vc] 78)
            have qA := heap_alloc_new wr (.cells #[.bool true, .slice qa qn qc, .slice va vn vc] 78)
            generalize wr.alloc (.cells #[.bool true, .slice qa qn qc, .slice va vn vc] 78) = wA at *
            replace K5 := Lib.hid (K5.out.tr kA)
            replace HQ := Lib.hid (HQ.out.still' kA)
            clear kA f0 f1 f2
            generalize wr.heap.size = bA at *
            have a0 : wA.cell? ⟨bA, 0, none⟩ = some (.bool true) := by simp [World.cell?, qA]
            have a1 : wA.cell? ⟨bA, 1, none⟩ = some (.slice qa qn qc) := by simp [World.cell?, qA]
            have p0 := K5.out.cell (p := ⟨bm, 0, none⟩) (fun h => h) CELLP.out.1
            have p1 := K5.out.cell (p := ⟨bm, 1, none⟩) (fun h => h) CELLP.out.2.1
            have p2 := K5.out.cell (p := ⟨bm, 2, none⟩) (fun h => h) CELLP.out.2.2
            have SS := Lib.hid (show _ ∧ _ ∧ _ ∧ _ ∧ _ from ⟨a0, a1, p0, p1, p2⟩)
            clear qA a0 a1 p0 p1 p2
            refine wp_region_chain 15 [7, 12] (fun w' => w'.cell? ⟨bA, 0, none⟩ = some (.bool true) ∧ w'.cell? ⟨bA, 1, none⟩ = some (.slice qa qn qc) ∧ w'.cell? ⟨bm, 0, none⟩ = some (.int .i64 0) ∧ w'.cell? ⟨bm, 1, none⟩ = some (.int .u64 cp) ∧ w'.cell? ⟨bm, 2, none⟩ = some (.slice ka kn kc)) (by kernel_rfl) (chain_mask [0, 1, 3, 7, 15, 15, 47, 127, 15, 271, 1023, 15, 4095, 8191, 16383] (by kernel_rfl)) ?_ ?_
            · exact SS.out
            have ST := Lib.hid (fun (x y : World) (k : Kept Noneof x y) (h : x.cell? ⟨bA, 0, none⟩ = some (.bool true) ∧ x.cell? ⟨bA, 1, none⟩ = some (.slice qa qn qc) ∧ x.cell? ⟨bm, 0, none⟩ = some (.int .i64 0) ∧ x.cell? ⟨bm, 1, none⟩ = some (.int .u64 cp) ∧ x.cell? ⟨bm, 2, none⟩ = some (.slice ka kn kc)) =>
              show y.cell? ⟨bA, 0, none⟩ = some (.bool true) ∧ y.cell? ⟨bA, 1, none⟩ = some (.slice qa qn qc) ∧ y.cell? ⟨bm, 0, none⟩ = some (.int .i64 0) ∧ y.cell? ⟨bm, 1, none⟩ = some (.int .u64 cp) ∧ y.cell? ⟨bm, 2, none⟩ = some (.slice ka kn kc) from
              ⟨k.cell (p := ⟨bA, 0, none⟩) (fun h => h) h.1, k.cell (p := ⟨bA, 1, none⟩) (fun h => h) h.2.1, k.cell (p := ⟨bm, 0, none⟩) (fun h => h) h.2.2.1, k.cell (p := ⟨bm, 1, none⟩) (fun h => h) h.2.2.2.1, k.cell (p := ⟨bm, 2, none⟩) (fun h => h) h.2.2.2.2⟩)
            refine SeqW.out ?_
            simp only [List.take_succ_cons, List.take_zero, List.drop_succ_cons, List.drop_zero]
            have kd := (Kept.refl Noneof wA).drew
            replace SS := Lib.hid (ST.out _ _ kd SS.out)
            replace K5 := Lib.hid (K5.out.tr kd)
            replace HQ := Lib.hid (HQ.out.still' kd)
            generalize wA.drew = wd at *
            clear kd
            iterate 7 (refine SeqW.val (v := ?_) (by rfl) (by rfl) (fun wx hSw => ?_) ?_; rotate_left; (focus ((try dsimp only at hSw); go_simp; (try with_reducible rfl))); (try simp only [Act.put, List.setIfInBounds_toArray, List.set_cons_zero, List.set_cons_succ]))
            refine SeqW.act (by rfl) rfl (by rfl) (by rfl) (fun K hK => ?_)
            go_simp
            refine (CQ.out _ _ HQ.out).mono ?_
            rintro e w6 ⟨rfl, d6⟩
            have k6 := (Kept.refl Noneof wd).drewn d6
            replace SS := Lib.hid (ST.out _ _ k6 SS.out)
            refine hK.out _ _ SS.out ?_
            replace K5 := Lib.hid (K5.out.tr k6)
            replace HQ := Lib.hid (HQ.out.still' k6)
            clear K hK k6 d6
            (try simp only [Act.put, List.setIfInBounds_toArray, List.set_cons_zero, List.set_cons_succ])
            iterate 4 (refine SeqW.val (v := ?_) (by rfl) (by rfl) (fun wx hSw => ?_) ?_; rotate_left; (focus ((try dsimp only at hSw); go_simp; (try with_reducible rfl))); (try simp only [Act.put, List.setIfInBounds_toArray, List.set_cons_zero, List.set_cons_succ]))
            refine SeqW.act (by rfl) rfl (by rfl) (by rfl) (fun K hK => ?_)
            go_simp
            refine (BQ.out _ _ _ HQ.out (HK.out.still' K5.out)).mono ?_
            rintro e w7 ⟨rfl, k7⟩
            replace SS := Lib.hid (ST.out _ _ k7 SS.out)
            refine hK.out _ _ SS.out ?_
            replace K5 := Lib.hid (K5.out.tr k7)
            clear K hK k7 HQ SS ST
            (try simp only [Act.put, List.setIfInBounds_toArray, List.set_cons_zero, List.set_cons_succ])
            iterate 2 (refine SeqW.val (v := ?_) (by rfl) (by rfl) (fun wx hSw => ?_) ?_; rotate_left; (focus ((try dsimp only at hSw); go_simp; (try with_reducible rfl))); (try simp only [Act.put, List.setIfInBounds_toArray, List.set_cons_zero, List.set_cons_succ]))
            refine SeqW.nil ?_
            go_wp2
            go_roundw
            case rel => exact ⟨j + 1, by omega, rfl, K5⟩
            case measure => simp only [intOf, Int.toNat_natCast]; rw [B3.out, BB.out]; omega
        · obtain rfl : j = k := by omega
          have hb : (((stepC C home j : Nat) : Int) != (i : Int)) = false := by rw [IK.out]; simp
          have K6 := Lib.hid (KW.out.tr K5.out)
          clear hjk
          go_wp2
          go_roundw
          case rel => exact ⟨i + 1, by omega, by go_num, K6⟩
          case measure => simp [intOf]; omega
    · obtain rfl : i = C := by omega
      have KE := Lib.hid (KC.out.tr KW.out)
      have g8 : decide ((8 : Int) ≤ (i : Int)) = true := decide_eq_true (by omega)
      have g8' : decide (8 ≤ i) = true := decide_eq_true (by omega)
      clear hlt
      go_wp2_with fail
      (refine (l1awake_calls _).mono ?_; rintro e w1 ⟨rfl, k1⟩; have K := Lib.hid (KE.out.tr k1); clear k1; go_wp2; go_ret; exact ⟨rfl, K.out⟩)
  · have hf : fewO l = false := by simpa using hf
    rw [hf]
    clear hf
    go_wp2_with fail
    (refine (l1awake_calls _).mono ?_; rintro e w1 ⟨rfl, k1⟩; have K := Lib.hid k1; clear k1; go_wp2; go_ret; exact ⟨rfl, K.out⟩)
end Go.Proofs.Ytaopjdjbpamhhaa
/- Proved: the law SlotsRuns returns true for all its arguments, and each argument reads afterwards as it read before. No condition beyond the statement's own. -/
namespace Go.Proofs.Ytaopjdjbpamhhaa.slotsRuns
open Go.ChangeShapes Go.WideShapes Go.ChangeAt Go.RowKit
set_option linter.unusedVariables false
theorem opensOp : Opens Try.prog 33 opEl := opens_op (ti := 3) (t := 31) (e := 5) (Try.underlying33) rfl rfl rfl rfl rfl rfl (by kernel_rfl) (by kernel_rfl) (by kernel_rfl) Try.underlying3 Try.underlying31 Try.underlying5 (by kernel_rfl) (of_decide_eq_true (by kernel_rfl))
set_option maxRecDepth 100000 in
theorem lifted (os : Os) (started : os.Started) (H : Type) (enc : TypeId × Value → H) :
    ReturnsInHanded {} Try.checked os 11 .any (Rows.slotsRunsSpec.pre6 enc Try.prog Try.f11 Rows.slotsRunsRow.domain false) (Rows.slotsRunsSpec.post enc Try.prog Try.f11 false true false false) := by
  refine returnsInHanded_of_change_sized (C := Try.checked) Facts.own started (by kernel_rfl) Try.func11
    (ChangeSpec.witness6 (enc := enc) (C := Try.checked) false ⟨#[], #[.int .u64 0, .slice none 0 0], []⟩ 8 (by kernel_rfl) (by kernel_rfl) (by kernel_rfl) (by kernel_rfl)) ?_
  intro W base args ds gs before hval0 hW hcnd hsz0 _
  have hsz : (DataW.weightsEach Try.prog (Try.f11.params.toList ++ Rows.slotsRunsSpec.plain.varTypes Try.prog) (ds ++ gs)).all (· ≤ reachBytes) = true := hsz0
  have hval : ∀ (j : Nat) t v, Try.f11.params[j]? = some t → args[j]? = some v → Value.okWide Try.prog W .any base t v := hval0
  have hW' := hW
  obtain ⟨p, q, hA0, hV, rfl, hfz, hnd⟩ := hW
  have hA : DataW.TrodAll enc Try.prog W 0 (fun _ => true) true Try.f11.params.toList args.toList ds p := hA0
  rw [Try.params11] at hA hval hsz
  obtain ⟨v0, vs0, d0, ds0, p0, q0, hargs, rfl, rfl, h0, r0⟩ := trodAll_cons hA
  obtain ⟨v1, vs1, d1, ds1, p1, q1, rfl, rfl, rfl, h1, r1⟩ := trodAll_cons r0
  obtain ⟨rfl, rfl, rfl⟩ := trodAll_nil r1
  obtain rfl : args = #[v0, v1] := by cases args; simp_all
  obtain ⟨rfl, rfl⟩ := trodVars_none hV
  obtain ⟨a0, rfl, rfl, rfl, w0⟩ := open_int Try.underlying22 (hval 0 22 v0 rfl rfl) h0
  obtain ⟨a1, len1, cap1, rfl⟩ := okWide_slice Try.underlying23 (hval 1 23 v1 rfl rfl)
  have k1 := h1
  have lt1 : ∀ x ∈ p1, x.block < W.heap.size := by obtain ⟨m, hm⟩ := k1; exact DataW.trod_lt m _ _ _ hm
  obtain ⟨l1, s1⟩ := open_arg (E := opEl) (j := 1) opEl_k opensOp Try.underlying23 (by kernel_rfl) (of_decide_eq_true (by kernel_rfl)) h1 rfl hsz rfl rfl
  clear hA0 hval0 hsz0
  refine (slotsRuns_walk s1).mono fun e W' ⟨he, kw⟩ => ?_
  have bel : Below W.heap.size W W' := kw.below (Nat.le_refl _) fun _ h => h.elim
  subst he
  exact ⟨_, rfl, _, _, _, [], _, [], hW', trodAll_mk1 (shut_bool Try.underlying4 _), (trodAll_cons_mk (shut_int Try.underlying22 w0) (trodAll_cons_mk (Below.trod Facts.laid (by kernel_rfl) (of_decide_eq_true (by kernel_rfl)) k1 bel lt1) trodAll_mk0)), rfl, bel.frame _, fun h => by cases h⟩
set_option maxHeartbeats 4000000 in
theorem closed : joinedFacts Try.prog 11 Try.f11 Rows.slotsRunsSpec Rows.slotsRunsRow = true := by
  refine Facts.joined 11 Try.f11 Rows.slotsRunsSpec Rows.slotsRunsRow ?_ ?_ ?_ ?_ ?_ ?_ ?_ ?_ ?_ ?_ ?_ ?_ ?_ ?_ ?_ ?_ ?_ ?_ ?_ ?_ ?_ ?_ ?_ ?_ ?_ ?_ ?_ <;> exact (by as_aux_lemma => kernel_rfl)
set_option maxHeartbeats 4000000 in
theorem over : Rows.slotsRunsRow.holds Try.pinned (OpenSpec.ofChange Rows.slotsRunsSpec) :=
  OpenClaim.holds_of_wide 11 Try.f11 rfl rfl rfl rfl rfl rfl rfl ⟨rfl, rfl, rfl, rfl, rfl⟩ rfl rfl rfl rfl rfl (by as_aux_lemma => kernel_rfl) Try.func11 closed
    (of_decide_eq_true (by as_aux_lemma => kernel_rfl)) (by unfold Func.isWrapper; first | (rw [if_pos (by decide +kernel)]; kernel_rfl) | (rw [if_neg (by decide +kernel)]; exact ⟨rfl, rfl⟩))
    (fun os started H enc _ => lifted os started H enc)
theorem proved : Rows.SlotsRunsSaid := over
end Go.Proofs.Ytaopjdjbpamhhaa.slotsRuns
namespace Go.Proofs.Ytaopjdjbpamhhaa
theorem slotsRuns_holds : Rows.SlotsRunsSaid := slotsRuns.proved
#print axioms slotsRuns_holds
end Go.Proofs.Ytaopjdjbpamhhaa
