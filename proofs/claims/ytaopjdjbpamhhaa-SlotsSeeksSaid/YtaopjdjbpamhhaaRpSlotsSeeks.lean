/- Proved: the law SlotsSeeks returns true for all its arguments, and each argument reads afterwards as it read before. No condition beyond the statement's own. -/
import Derived.Test.YtaopjdjbpamhhaaPkO
import Derived.Test.YtaopjdjbpamhhaaRows
import Derived.Test.YtaopjdjbpamhhaaFacts
import Derived.Test.YtaopjdjbpamhhaaPkN
import Derived.Test.YtaopjdjbpamhhaaPkA
import Derived.ProofKit
import Derived.OpenShut
import Derived.ShutString
import Derived.ChangeOld
import Derived.ChangeMaps5
import Derived.SizedLaws
import Derived.Carry
/- Proved: the law function SlotsSeeks returns true for all its arguments. Conditions: ops and bytes in memory. -/
namespace Go.Proofs.Ytaopjdjbpamhhaa
open Go Go.RowKit
set_option linter.unusedVariables false
set_option linter.unusedSimpArgs false

set_option maxRecDepth 100000 in
set_option maxHeartbeats 8000000 in
theorem slotsSeeks_walk {w : World} {seed : Int} {script kv : Value} {l : List OpK} {key : Bts} {D1 D2 : Nat → Prop} (h1 : SV opEl D1 w script l) (h2 : BV D2 w kv key) :
    Calls Try.prog 12 #[.int .u64 seed, script, kv] w fun e w' => e = .returned (.bool true) ∧ Kept Noneof w w' := by
  have H1 := Lib.hid (h1.bd opEl_k)
  have H2 := Lib.hid h2
  obtain ⟨a, c, rfl, ⟨hc, _⟩, hm, _⟩ := h1
  obtain ⟨ka, kc, rfl, _, hkm, _⟩ := h2
  have FW := Lib.hid (l1few_calls (w := w) H1.out)
  obtain ⟨n, hn⟩ : ∃ n, l.length = n := ⟨_, rfl⟩
  rw [hn] at hc hm FW ⊢
  replace hn := Lib.hid hn
  go_enter Try.func12, Try.ntmps12
  go_wp2_with fail
  refine FW.out.mono ?_
  rintro e w ⟨rfl, rfl⟩
  clear FW
  by_cases hf : fewO l = true
  rotate_left
  · have hf : fewO l = false := by simpa using hf
    rw [hf]
    clear hf
    go_wp2_with fail
    (refine (l1awake_calls _).mono ?_; rintro e w1 ⟨rfl, k1⟩; have K := Lib.hid k1; clear k1; go_wp2; go_ret; exact ⟨rfl, K.out⟩)
  have h120 : n ≤ 120 := by
    unfold fewO at hf
    simp only [Bool.and_eq_true, decide_eq_true_eq] at hf
    rw [hn.out] at hf
    exact hf.1
  rw [hf]
  clear hf
  by_cases hk : key.length ≤ 1200
  rotate_left
  · have hk' : decide ((1200 : Int) < (key.length : Int)) = true := decide_eq_true (by omega)
    clear hk
    go_wp2_with fail
    (refine (l1awake_calls _).mono ?_; rintro e w1 ⟨rfl, k1⟩; have K := Lib.hid k1; clear k1; go_wp2; go_ret; exact ⟨rfl, K.out⟩)
  have hk' : decide ((1200 : Int) < (key.length : Int)) = false := decide_eq_false (by omega)
  clear hk
  go_wp2_with fail
  clear hk'
  refine slNew_calls.mono ?_
  rintro e w1 ⟨rfl, t1, k1, _⟩
  have TB := Lib.hid (show ∃ F, TabAt seed w1 (w.heap.size + 1) (opsT (l.take 0)) F ∧ ∀ b, F b → w.heap.size ≤ b from ⟨_, t1, fun b h => h.1⟩)
  have KW := Lib.hid k1
  clear t1 k1
  generalize w.heap.size + 1 = t at *
  unfold bp
  go_wp2_with fail
  (
  go_loopw [8] (fun kv wr => ∃ i : Nat, i ≤ n ∧ kv = .int .i64 i ∧ Hid (∃ F, TabAt seed wr t (opsT (l.take i)) F ∧ ∀ b, F b → w.heap.size ≤ b) ∧ Hid (Kept Noneof w wr)) (fun kv _ => n - (intOf kv).toNat)
  case atStart => exact ⟨0, Nat.zero_le _, rfl, TB, KW⟩
  clear TB KW
  obtain ⟨i, hi, rfl, TB, KW⟩ := hrel
  by_cases hlt : i < n
  focus
    have hlt' : (i : Int) < (n : Int) := by omega
    have hil : i < l.length := by rw [hn.out]; exact hlt
    have hsv := H1.out.still' KW.out opEl_k
    rw [hn.out] at hsv
    obtain ⟨_, _, hsl, _, _, rd⟩ := hsv
    simp only [Value.slice.injEq] at hsl
    obtain ⟨rfl, -, rfl⟩ := hsl
    obtain ⟨b, o, u, v, rfl, db, e0, e1, e2, hk, hv⟩ := Rd.op rd hil
    have DB := Lib.hid db.2
    have NX := Lib.hid (opsT_succ hil)
    have LN := Lib.hid (show (opsT (l.take i)).length < 100000 by have := opsT_len (l.take i); rw [List.length_take] at this; omega)
    generalize l[i] = x at *
    obtain ⟨xn, xk, xv⟩ := x
    simp only at e0 e1 e2 hk hv
    obtain ⟨ka, kn, kc, rfl⟩ := hk.sl
    obtain ⟨va, vn, vc, rfl⟩ := hv.sl
    have HK := Lib.hid hk
    have HV := Lib.hid hv
    clear rd db hk hv hil
    by_cases hx : xn = 1
    focus
      have hb : (xn == 1) = true := by simpa using hx
      have NX1 := Lib.hid (show opsT (l.take (i + 1)) = tdel (opsT (l.take i)) xk by rw [NX.out, opT, if_pos hx])
      clear NX hx
      go_wp2_with fail
      obtain ⟨F, tb, fb⟩ := TB.out
      refine (slDrop_calls tb HK.out (fun b h hf => by have := fb b hf; have := h.2; omega)).mono ?_
      rintro e w2 ⟨rfl, t2, k2⟩
      rw [← NX1.out] at t2
      have T2 := Lib.hid (show ∃ F, TabAt seed w2 t (opsT (l.take (i + 1))) F ∧ ∀ b, F b → w.heap.size ≤ b from ⟨F, t2, fb⟩)
      have K2 := Lib.hid (KW.out.trans k2 fun b e => .inr (fb b e))
      clear tb fb t2 k2 TB KW NX1 HK HV
      go_wp2
      go_roundw
      case rel => exact ⟨i + 1, by omega, by go_num, T2, K2⟩
      case measure => simp [intOf]; omega
    focus
      have hb : (xn == 1) = false := by simpa using hx
      have NX1 := Lib.hid (show opsT (l.take (i + 1)) = if allowedK xk xv = true then tput (opsT (l.take i)) xk xv else opsT (l.take i) by rw [NX.out, opT, if_neg hx])
      clear NX hx
      go_wp2_with fail
      refine wp_region_chain 12 [11] (fun w' => w'.cell? ⟨b, o + i * 3 + 1, none⟩ = some (.slice ka kn kc) ∧ w'.cell? ⟨b, o + i * 3 + 2, none⟩ = some (.slice va vn vc)) (by kernel_rfl) (by kernel_rfl) ?_ ?_
      · exact ⟨e1, e2⟩
      refine SeqW.out ?_
      simp only [List.take_succ_cons, List.take_zero, List.drop_succ_cons, List.drop_zero]
      have kd := (Kept.refl Noneof wr).drew
      replace e1 := kd.cell (p := ⟨b, o + i * 3 + 1, none⟩) (fun h => h) e1
      replace e2 := kd.cell (p := ⟨b, o + i * 3 + 2, none⟩) (fun h => h) e2
      replace KW := Lib.hid (KW.out.tr kd)
      replace HK := Lib.hid (HK.out.still' kd)
      replace HV := Lib.hid (HV.out.still' kd)
      replace TB := Lib.hid (show ∃ F, TabAt seed wr.drew t (opsT (l.take i)) F ∧ ∀ b, F b → w.heap.size ≤ b from by
        obtain ⟨F, tb, fb⟩ := TB.out
        exact ⟨F, tb.still kd, fb⟩)
      generalize wr.drew = wd at *
      clear kd e0
      iterate 11 (refine SeqW.val (v := ?_) (by rfl) (by rfl) (fun wx hSw => ?_) ?_; rotate_left; (focus ((try dsimp only at hSw); go_simp; (try with_reducible rfl))); (try simp only [Act.put, List.setIfInBounds_toArray, List.set_cons_zero, List.set_cons_succ]))
      refine SeqW.act (by rfl) rfl (by rfl) (by rfl) (fun K hK => ?_)
      go_simp
      obtain ⟨F, tb, fb⟩ := TB.out
      by_cases hal : allowedK xk xv = true
      focus
        rw [if_pos hal] at NX1
        refine (slPut_calls tb HK.out HV.out (fun b h hf => by have := fb b hf; have := h.2; omega) hal (.inr LN.out)).mono ?_
        rintro e w2 ⟨rfl, F', t2, f2, k2⟩
        rw [← NX1.out] at t2
        have T2 := Lib.hid (show ∃ F, TabAt seed w2 t (opsT (l.take (i + 1))) F ∧ ∀ b, F b → w.heap.size ≤ b from ⟨F', t2, fun b h => (f2 b h).elim (fb b) fun h => by have := KW.out.size; omega⟩)
        have K2 := Lib.hid (KW.out.trans k2 fun b e => .inr (fb b e))
        refine hK.out _ _ ⟨k2.cell (p := ⟨b, o + i * 3 + 1, none⟩) (fun h => by have := fb b h; have := DB.out; omega) e1, k2.cell (p := ⟨b, o + i * 3 + 2, none⟩) (fun h => by have := fb b h; have := DB.out; omega) e2⟩ ?_
        clear K hK tb fb t2 f2 k2 TB KW NX1 HK HV e1 e2 hal
        (try simp only [Act.put, List.setIfInBounds_toArray, List.set_cons_zero, List.set_cons_succ])
        refine SeqW.nil ?_
        go_wp2
        go_roundw
        case rel => exact ⟨i + 1, by omega, by go_num, T2, K2⟩
        case measure => simp [intOf]; omega
      focus
        rw [if_neg hal] at NX1
        refine (slPut_no tb HK.out HV.out (by simpa using hal)).mono ?_
        rintro e w2 ⟨⟨_, rfl, _⟩, rfl⟩
        rw [← NX1.out] at TB
        refine hK.out _ _ ⟨e1, e2⟩ ?_
        clear K hK tb fb NX1 HK HV e1 e2 hal
        (try simp only [Act.put, List.setIfInBounds_toArray, List.set_cons_zero, List.set_cons_succ])
        refine SeqW.nil ?_
        go_wp2
        go_roundw
        case rel => exact ⟨i + 1, by omega, by go_num, TB, KW⟩
        case measure => simp [intOf]; omega
  obtain rfl : n = i := by omega
  clear hlt hi
  obtain ⟨F, tb, fb⟩ := TB.out
  have TB := Lib.hid (show TabAt seed wr t (opsT l) F by rw [List.take_of_length_le (by rw [hn.out]; exact Nat.le_refl _)] at tb; exact tb)
  have FB := Lib.hid fb
  clear tb fb)
  go_wp2_with fail
  refine (slCells_calls TB.out).mono ?_
  rintro e wc ⟨cv, rfl, own, kcc⟩
  replace KW := Lib.hid (KW.out.tr kcc)
  have KY := Lib.hid TB.out.keyd
  replace TB := Lib.hid (TB.out.still kcc)
  have RD := Lib.hid (own.sv)
  obtain ⟨ca, cc, hcv, _, _, _⟩ := own.sv
  have TL : (opsT l).length ≤ 120 := by have := opsT_len l; rw [hn.out] at this; omega
  have P2 := Lib.hid (pow2_small _ TL)
  have hlen : ((celE seed (opsT l)).map cellT).length = cellsN (opsT l).length := by rw [List.length_map, celE_len]
  rw [hlen] at hcv
  subst hcv
  clear own kcc hlen
  go_wp2_with fail
  refine (slLooks_calls TB.out (H2.out.still' KW.out)).mono ?_
  rintro e wl ⟨rfl, kl⟩
  replace KW := Lib.hid (KW.out.tr kl)
  replace TB := Lib.hid (TB.out.still kl)
  replace RD := Lib.hid (RD.out.kept cellEl_k kl fun _ _ _ h => h)
  replace H2 := Lib.hid (H2.out.still' KW.out)
  clear kl
  obtain ⟨m, hm1, hm2, hm3, hm4⟩ := looksE_spec (seed := seed) key (show (opsT l).length ≤ 100000 by omega)
  obtain ⟨L, hL⟩ : ∃ L, m + 1 = L := ⟨_, rfl⟩
  rw [hm1, hL]
  have WAY := Lib.hid (fun j (hj : j < m) => looksE_way (hm4 j hj))
  have LAST := Lib.hid (looksE_last KY.out (by omega) hm2 hm3 hm4)
  have FC := Lib.hid ((cntE_all fullE seed (opsT l)).trans (celE_full_count (seed := seed) (l := opsT l) (by omega)))
  have HC := Lib.hid ((cntE_all (hasE key) seed (opsT l)).trans (celE_has_count KY.out (by omega) key))
  have CA := Lib.hid (fun (w' : World) (k : Kept Noneof wl w') i (hi : i < cellsN (opsT l).length) => by
    obtain ⟨ca', cc', hcv, _, _, rd⟩ := RD.out
    simp only [Value.slice.injEq] at hcv
    obtain ⟨rfl, -, rfl⟩ := hcv
    exact cells_at (rd.kept cellEl_k k fun _ _ _ h => h) hi)
  have HP := Lib.hid (hmE_lt seed key (show 0 < cellsN (opsT l).length by have := P2.out.1; omega))
  have CS := Lib.hid (fun p i (hi : i < cellsN (opsT l).length) => cntE_succ (p := p) (seed := seed) hi)
  have LN := Lib.hid (slLen_calls TB.out)
  have GT := Lib.hid (fun (w' : World) (k : Kept Noneof wl w') => slGet_calls (TB.out.still k) (H2.out.still' k))
  have HM := Lib.hid (show coin seed 1 key % ((cellsN (opsT l).length : Nat) : Int) = (hmE seed (cellsN (opsT l).length) key : Nat) by
    unfold hmE
    exact (Int.toNat_of_nonneg (Int.emod_nonneg _ (by have := P2.out.1; omega))).symm)
  have LN' := Lib.hid (fun (w' : World) (k : Kept Noneof wl w') => slLen_calls (TB.out.still k))
  clear hm1 hm3 hm4 KY RD TB FB LN
  generalize opsT l = T at *
  obtain ⟨C8, C256, CB, C4, C3⟩ := P2.out
  clear P2
  obtain ⟨C, hC⟩ : ∃ C, cellsN T.length = C := ⟨_, rfl⟩
  simp only [hC] at *
  replace hC := Lib.hid hC
  obtain ⟨N, hN⟩ : ∃ N, T.length = N := ⟨_, rfl⟩
  simp only [hN] at *
  replace hN := Lib.hid hN
  have s1 : IntKind.i64.wrap ((C : Int) - 1) = (C : Int) - 1 := IntWalk.i64_in _ ⟨by omega, by omega⟩
  have q1 : decide ((C : Int) < 8) = false := decide_eq_false (by omega)
  have q2 : decide ((L : Int) < 1) = false := decide_eq_false (by omega)
  have q3 : decide ((C : Int) < (L : Int)) = false := decide_eq_false (by omega)
  have q4 : (L = 0) = False := eq_false (by omega)
  have q5 : (1 : Int) ≤ (L : Int) := by omega
  have q6 : (L : Int) ≤ (C : Int) := by omega
  have q7 : ¬ C < L := by omega
  have HL := Lib.hid (show m + 1 = L ∧ L ≤ C by omega)
  clear hL hm2
  go_upto_region 17 with (fail)
  clear s1 q1 q2 q3 q4 q5 q6 q7 CB
  go_loopw [11, 12, 13] (fun fv hv iv wr => ∃ i : Nat, i ≤ C ∧ fv = .int .i64 (cntE fullE seed T i : Nat) ∧ hv = .int .i64 (cntE (hasE key) seed T i : Nat) ∧ iv = .int .i64 i ∧ Hid (Kept Noneof wl wr)) (fun _ _ iv _ => C - (intOf iv).toNat)
  case atStart => exact ⟨0, Nat.zero_le _, by rw [cntE_zero]; rfl, by rw [cntE_zero]; rfl, rfl, Lib.hid (Kept.refl _ _)⟩
  obtain ⟨i, hi, rfl, rfl, rfl, KL⟩ := hrel
  by_cases hlt : i < C
  focus
   as_aux_lemma =>
    have LF := cntE_le fullE seed T i
    have LH := cntE_le (hasE key) seed T i
    have hlt' : (i : Int) < (C : Int) := by omega
    have NF := Lib.hid (CS.out fullE i hlt)
    have NH := Lib.hid (CS.out (hasE key) i hlt)
    obtain ⟨b, o, u, v, rfl, _, e0, e1, e2, hk, hv⟩ := CA.out wr KL.out i hlt
    cases hcx : cellAt seed T i with
    | none =>
      rw [hcx] at e0
      have nf := Lib.hid (show cntE fullE seed T (i + 1) = cntE fullE seed T i by rw [NF.out, hcx]; rfl)
      have nh := Lib.hid (show cntE (hasE key) seed T (i + 1) = cntE (hasE key) seed T i by rw [NH.out, hcx]; rfl)
      simp only [cellT] at e0
      clear hk hv e1 e2 hcx NF NH
      generalize cntE fullE seed T i = f at *
      generalize cntE (hasE key) seed T i = g at *
      go_wp2
      go_roundw
      case rel => exact ⟨i + 1, by omega, by rw [nf.out], by rw [nh.out], by go_num, KL⟩
      case measure => simp [intOf]; omega
    | some p =>
      rw [hcx] at e0 hk
      have nf := Lib.hid (show cntE fullE seed T (i + 1) = cntE fullE seed T i + 1 by rw [NF.out, hcx]; rfl)
      have nh := Lib.hid (show cntE (hasE key) seed T (i + 1) = cntE (hasE key) seed T i + if p.1 = key then 1 else 0 by rw [NH.out, hcx]; simp [hasE])
      simp only [cellT] at e0 hk
      obtain ⟨pa, pn, pc, rfl⟩ := hk.sl
      have HK := Lib.hid hk
      clear hk hv e2 hcx NF NH
      generalize cntE fullE seed T i = f at *
      generalize cntE (hasE key) seed T i = g at *
      go_wp2_with fail
      refine (r1Same_calls HK.out (H2.out.still' KL.out)).mono ?_
      rintro e w2 ⟨rfl, d2⟩
      replace KL := Lib.hid (KL.out.drewn d2)
      clear HK d2 e0 e1
      by_cases he : p.1 = key
      · rw [decide_eq_true he]
        have nh2 := Lib.hid (show cntE (hasE key) seed T (i + 1) = g + 1 by rw [nh.out, if_pos he])
        clear nh he
        go_wp2
        go_roundw
        case rel => exact ⟨i + 1, by omega, by rw [nf.out]; go_num, by rw [nh2.out]; go_num, by go_num, KL⟩
        case measure => simp [intOf]; omega
      · rw [decide_eq_false he]
        have nh2 := Lib.hid (show cntE (hasE key) seed T (i + 1) = g by rw [nh.out, if_neg he, Nat.add_zero])
        clear nh he
        go_wp2
        go_roundw
        case rel => exact ⟨i + 1, by omega, by rw [nf.out]; go_num, by rw [nh2.out], by go_num, KL⟩
        case measure => simp [intOf]; omega
  obtain rfl : C = i := by omega
  rw [FC.out, HC.out]
  obtain ⟨th, hth⟩ : ∃ b, (tget T key).isSome = b := ⟨_, rfl⟩
  rw [hth] at LAST ⊢
  replace hth := Lib.hid hth
  obtain ⟨g, hg⟩ : ∃ g : Nat, (if th = true then 1 else 0) = g := ⟨_, rfl⟩
  rw [hg]
  have g1 : g ≤ 1 := by rw [← hg]; split <;> omega
  replace hg := Lib.hid hg
  clear hlt hi CS
  have g4 : decide (3 * (C : Int) < 4 * (N : Int)) = false := decide_eq_false (by omega)
  have g3 : (8 : Int) < (C : Int) → decide (4 * (N : Int) ≤ 3 * ((C : Int) / 2)) = false := fun h => decide_eq_false (by omega)
  have gg : decide ((1 : Int) < (g : Int)) = false := decide_eq_false (by omega)
  have H3 := Lib.hid (show ((tget T key).isSome = th) from hth.out)
  go_wp2_with fail
  refine (LN'.out wr KL.out).mono ?_
  rintro e w3 ⟨rfl, rfl⟩
  have hw : decide ((8 : Int) < (C : Int)) = false ∨ (decide ((8 : Int) < (C : Int)) = true ∧ decide (4 * (N : Int) ≤ 3 * ((C : Int) / 2)) = false) := by
    by_cases h8 : (8 : Int) < (C : Int)
    · exact .inr ⟨decide_eq_true h8, g3 h8⟩
    · exact .inl (decide_eq_false h8)
  clear g3
  rcases hw with h8' | ⟨h8', h3'⟩
  all_goals
    try have h3'' : ¬ 4 * (N : Int) ≤ 3 * ((C : Int) / 2) := by simpa using h3'
    go_upto_region 25 with (fail)
    clear g4 gg h8' LN'
    try clear h3' h3''
    go_wp2_with fail
    refine (slCoin_calls (H2.out.still' KL.out)).mono ?_
    rintro e w4 ⟨rfl, d4⟩
    have K4 := Lib.hid (KL.out.drewn d4)
    obtain ⟨r1, r2⟩ := coin_range seed 1 key
    have hh := HP.out
    have he := HM.out
    clear HP HM
    generalize hmE seed C key = home at *
    generalize coin seed 1 key = x1 at *
    have w1 : IntKind.u64.wrap (C : Int) = (C : Int) := IntWalk.u64_in _ ⟨by omega, by omega⟩
    have hz : ((C : Int) == 0) = false := by simp; omega
    have R : x1.tmod C = (home : Int) := by rw [Int.tmod_eq_emod_of_nonneg r1]; exact he
    clear he d4 r1 r2
    go_upto_region 27 with (fail)
    try rw [R]
    clear R w1
    go_loopw [15] (fun iv wr => ∃ i : Nat, 1 ≤ i ∧ i ≤ L ∧ iv = .int .i64 i ∧ Hid (Kept Noneof wl wr)) (fun iv _ => L - (intOf iv).toNat)
    case atStart => exact ⟨1, Nat.le_refl _, by have := HL.out; omega, rfl, K4⟩
    obtain ⟨i, hi1, hi2, rfl, K5⟩ := hrel
    by_cases hlt : i < L
    focus
     as_aux_lemma =>
      have hlt' : (i : Int) < (L : Int) := by omega
      obtain ⟨j, rfl⟩ : ∃ j, i = j + 1 := ⟨i - 1, by omega⟩
      obtain ⟨q, hq, hne⟩ := WAY.out j (by have := HL.out; omega)
      have hat := stepC_lt (cells := C) (c := home) (k := j) (by omega)
      have NX := Lib.hid (show stepC C home j = (home + j) % C from rfl)
      have R2 : ((home : Int) + (j : Int)).tmod (C : Int) = ((stepC C home j : Nat) : Int) := by
        rw [Int.tmod_eq_emod_of_nonneg (by omega), NX.out]
        push_cast
        rfl
      have hj2 : j < 256 := by have := HL.out; omega
      obtain ⟨b, o, u, v, rfl, _, e0, e1, e2, hk, hv⟩ := CA.out wr K5.out (stepC C home j) hat
      rw [hq] at e0 hk hv
      simp only [cellT] at e0 hk hv
      obtain ⟨pa, pn, pc, rfl⟩ := hk.sl
      obtain ⟨va, vn, vc, rfl⟩ := hv.sl
      have HK := Lib.hid hk
      have NE := Lib.hid hne
      clear hk hv hq hne NX R2
      simp only [stepC] at e0 e1 e2 hat
      have hb2 : ((home : Int) + ((j : Int) + 1) - 1) % (C : Int) < (C : Int) := Int.emod_lt_of_pos _ (by omega)
      have hb3 : 0 ≤ ((home : Int) + ((j : Int) + 1) - 1) % (C : Int) := Int.emod_nonneg _ (by omega)
      go_upto_region 30 with (fail)
      clear hb2 hb3 e0 e1 e2 hat
      have kA := (Kept.refl Noneof wr).alloc (.cells #[.bool true, .slice pa pn pc, .slice va vn vc] 78)
      have qA := heap_alloc_new wr (.cells #[.bool true, .slice pa pn pc, .slice va vn vc] 78)
      generalize wr.alloc (.cells #[.bool true, .slice pa pn pc, .slice va vn vc] 78) = wA at *
      replace K5 := Lib.hid (K5.out.tr kA)
      replace HK := Lib.hid (HK.out.still' kA)
      generalize wr.heap.size = bA at *
      have a0 : wA.cell? ⟨bA, 0, none⟩ = some (.bool true) := by simp [World.cell?, qA]
      have a1 : wA.cell? ⟨bA, 1, none⟩ = some (.slice pa pn pc) := by simp [World.cell?, qA]
      clear kA qA
      go_wp2_with fail
      refine (r1Same_calls HK.out (H2.out.still' K5.out)).mono ?_
      rintro e w6 ⟨rfl, d6⟩
      replace K5 := Lib.hid (K5.out.drewn d6)
      rw [decide_eq_false NE.out]
      clear d6 a0 a1 HK
      go_wp2
      go_roundw
      case rel => exact ⟨j + 1 + 1, by omega, by omega, by go_num, K5⟩
      case measure => simp only [intOf, Int.toNat_natCast]; omega
    as_aux_lemma =>
      obtain rfl : L = i := by omega
      obtain ⟨rfl, hmC⟩ := HL.out
      have hat := stepC_lt (cells := C) (c := home) (k := m) (by omega)
      obtain ⟨b, o, u, v, rfl, _, e0, e1, e2, hk, hv⟩ := CA.out wr K5.out (stepC C home m) hat
      have hls := LAST.out
      obtain ⟨pa, pn, pc, rfl⟩ := hk.sl
      obtain ⟨va, vn, vc, rfl⟩ := hv.sl
      have hg := hg.out
      have hb2 : ((home : Int) + ((m : Int) + 1) - 1) % (C : Int) < (C : Int) := Int.emod_lt_of_pos _ (by omega)
      have hb3 : 0 ≤ ((home : Int) + ((m : Int) + 1) - 1) % (C : Int) := Int.emod_nonneg _ (by omega)
      clear hv LAST WAY hlt hi1 hi2
      cases hcx : cellAt seed T (stepC C home m) with
      | none =>
        rw [hcx] at e0 hls hk
        have HK := Lib.hid hk
        simp only [cellT] at e0
        have hth : th = false := by rw [← hls]; rfl
        subst hth
        obtain rfl : g = 0 := by simpa using hg.symm
        clear hk hls hcx hg
        simp only [stepC] at e0 e1 e2 hat
        (
      go_upto_region 33 with (fail)
      clear e0 e1 e2 hat
      have kA := (Kept.refl Noneof wr).alloc (.cells #[.bool false, .slice pa pn pc, .slice va vn vc] 78)
      have qA := heap_alloc_new wr (.cells #[.bool false, .slice pa pn pc, .slice va vn vc] 78)
      generalize wr.alloc (.cells #[.bool false, .slice pa pn pc, .slice va vn vc] 78) = wA at *
      replace K5 := Lib.hid (K5.out.tr kA)
      replace HK := Lib.hid (HK.out.still' kA)
      generalize wr.heap.size = bA at *
      clear kA
      go_wp2_with fail
      refine (GT.out wA K5.out).mono ?_
      rintro e wB ⟨hres, kB⟩
      replace K5 := Lib.hid (K5.out.tr kB)
      replace HK := Lib.hid (HK.out.still' kB)
      replace qA := kB.obj (fun h => h) qA
      have a0 : wB.cell? ⟨bA, 0, none⟩ = some (.bool false) := by simp [World.cell?, qA]
      have a1 : wB.cell? ⟨bA, 1, none⟩ = some (.slice pa pn pc) := by simp [World.cell?, qA]
      clear kB qA)
        have hres : e = .returned (.tuple #[.slice none 0 0, .int .i64 3]) := by
          rcases hres with ⟨x, v', hx, _⟩ | ⟨_, h⟩
          · have := H3.out
            rw [hx] at this
            cases this
          · exact h
        subst hres
        clear HK
        go_wp2_with fail
        have KQ := Lib.hid (KW.out.tr K5.out)
        (refine (l1awake_calls _).mono ?_; rintro e w1 ⟨rfl, k1⟩; have K := Lib.hid (KQ.out.tr k1); clear k1; go_wp2; go_ret; exact ⟨rfl, K.out⟩)
      | some q =>
        rw [hcx] at e0 hls hk
        have HK := Lib.hid (show BV _ wr (.slice pa pn pc) q.1 from hk)
        simp only [cellT] at e0
        clear hk hcx
        simp only [stepC] at e0 e1 e2 hat
        cases th with
        | false =>
          have hne : decide (q.1 = key) = false := hls
          obtain rfl : g = 0 := by simpa using hg.symm
          clear hls hg
          (
      go_upto_region 33 with (fail)
      clear e0 e1 e2 hat
      have kA := (Kept.refl Noneof wr).alloc (.cells #[.bool true, .slice pa pn pc, .slice va vn vc] 78)
      have qA := heap_alloc_new wr (.cells #[.bool true, .slice pa pn pc, .slice va vn vc] 78)
      generalize wr.alloc (.cells #[.bool true, .slice pa pn pc, .slice va vn vc] 78) = wA at *
      replace K5 := Lib.hid (K5.out.tr kA)
      replace HK := Lib.hid (HK.out.still' kA)
      generalize wr.heap.size = bA at *
      clear kA
      go_wp2_with fail
      refine (GT.out wA K5.out).mono ?_
      rintro e wB ⟨hres, kB⟩
      replace K5 := Lib.hid (K5.out.tr kB)
      replace HK := Lib.hid (HK.out.still' kB)
      replace qA := kB.obj (fun h => h) qA
      have a0 : wB.cell? ⟨bA, 0, none⟩ = some (.bool true) := by simp [World.cell?, qA]
      have a1 : wB.cell? ⟨bA, 1, none⟩ = some (.slice pa pn pc) := by simp [World.cell?, qA]
      clear kB qA)
          have hres : e = .returned (.tuple #[.slice none 0 0, .int .i64 3]) := by
            rcases hres with ⟨x, v', hx, _⟩ | ⟨_, h⟩
            · have := H3.out
              rw [hx] at this
              cases this
            · exact h
          subst hres
          go_wp2_with fail
          refine (r1Same_calls HK.out (H2.out.still' K5.out)).mono ?_
          rintro e w6 ⟨rfl, d6⟩
          replace K5 := Lib.hid (K5.out.drewn d6)
          rw [hne]
          clear d6 a0 a1 HK hne
          go_wp2_with fail
          have KQ := Lib.hid (KW.out.tr K5.out)
          (refine (l1awake_calls _).mono ?_; rintro e w1 ⟨rfl, k1⟩; have K := Lib.hid (KQ.out.tr k1); clear k1; go_wp2; go_ret; exact ⟨rfl, K.out⟩)
        | true =>
          have hne : decide (q.1 = key) = true := hls
          obtain rfl : g = 1 := by simpa using hg.symm
          clear hls hg
          (
      go_upto_region 33 with (fail)
      clear e0 e1 e2 hat
      have kA := (Kept.refl Noneof wr).alloc (.cells #[.bool true, .slice pa pn pc, .slice va vn vc] 78)
      have qA := heap_alloc_new wr (.cells #[.bool true, .slice pa pn pc, .slice va vn vc] 78)
      generalize wr.alloc (.cells #[.bool true, .slice pa pn pc, .slice va vn vc] 78) = wA at *
      replace K5 := Lib.hid (K5.out.tr kA)
      replace HK := Lib.hid (HK.out.still' kA)
      generalize wr.heap.size = bA at *
      clear kA
      go_wp2_with fail
      refine (GT.out wA K5.out).mono ?_
      rintro e wB ⟨hres, kB⟩
      replace K5 := Lib.hid (K5.out.tr kB)
      replace HK := Lib.hid (HK.out.still' kB)
      replace qA := kB.obj (fun h => h) qA
      have a0 : wB.cell? ⟨bA, 0, none⟩ = some (.bool true) := by simp [World.cell?, qA]
      have a1 : wB.cell? ⟨bA, 1, none⟩ = some (.slice pa pn pc) := by simp [World.cell?, qA]
      clear kB qA)
          have hres : ∃ v', e = .returned (.tuple #[v', .int .i64 0]) := by
            rcases hres with ⟨x, v', hx, h, _⟩ | ⟨hx, h⟩
            · exact ⟨v', h⟩
            · have := H3.out
              rw [hx] at this
              cases this
          obtain ⟨v', rfl⟩ := hres
          go_wp2_with fail
          refine (r1Same_calls HK.out (H2.out.still' K5.out)).mono ?_
          rintro e w6 ⟨rfl, d6⟩
          replace K5 := Lib.hid (K5.out.drewn d6)
          rw [hne]
          clear d6 a0 a1 HK hne
          go_wp2_with fail
          have KQ := Lib.hid (KW.out.tr K5.out)
          (refine (l1awake_calls _).mono ?_; rintro e w1 ⟨rfl, k1⟩; have K := Lib.hid (KQ.out.tr k1); clear k1; go_wp2; go_ret; exact ⟨rfl, K.out⟩)
end Go.Proofs.Ytaopjdjbpamhhaa
/- Proved: the law SlotsSeeks returns true for all its arguments, and each argument reads afterwards as it read before. No condition beyond the statement's own. -/
namespace Go.Proofs.Ytaopjdjbpamhhaa.slotsSeeks
open Go.ChangeShapes Go.WideShapes Go.ChangeAt Go.RowKit
set_option linter.unusedVariables false
theorem opensByte : Opens Try.prog 5 byteEl := opens_byte Try.underlying5
theorem opensOp : Opens Try.prog 33 opEl := opens_op (ti := 3) (t := 31) (e := 5) (Try.underlying33) rfl rfl rfl rfl rfl rfl (by kernel_rfl) (by kernel_rfl) (by kernel_rfl) Try.underlying3 Try.underlying31 Try.underlying5 (by kernel_rfl) (of_decide_eq_true (by kernel_rfl))
set_option maxRecDepth 100000 in
theorem lifted (os : Os) (started : os.Started) (H : Type) (enc : TypeId × Value → H) :
    ReturnsInHanded {} Try.checked os 12 .any (Rows.slotsSeeksSpec.pre6 enc Try.prog Try.f12 Rows.slotsSeeksRow.domain false) (Rows.slotsSeeksSpec.post enc Try.prog Try.f12 false true false false) := by
  refine returnsInHanded_of_change_sized (C := Try.checked) Facts.own started (by kernel_rfl) Try.func12
    (ChangeSpec.witness6 (enc := enc) (C := Try.checked) false ⟨#[], #[.int .u64 0, .slice none 0 0, .slice none 0 0], []⟩ 8 (by kernel_rfl) (by kernel_rfl) (by kernel_rfl) (by kernel_rfl)) ?_
  intro W base args ds gs before hval0 hW hcnd hsz0 _
  have hsz : (DataW.weightsEach Try.prog (Try.f12.params.toList ++ Rows.slotsSeeksSpec.plain.varTypes Try.prog) (ds ++ gs)).all (· ≤ reachBytes) = true := hsz0
  have hval : ∀ (j : Nat) t v, Try.f12.params[j]? = some t → args[j]? = some v → Value.okWide Try.prog W .any base t v := hval0
  have hW' := hW
  obtain ⟨p, q, hA0, hV, rfl, hfz, hnd⟩ := hW
  have hA : DataW.TrodAll enc Try.prog W 0 (fun _ => true) true Try.f12.params.toList args.toList ds p := hA0
  rw [Try.params12] at hA hval hsz
  obtain ⟨v0, vs0, d0, ds0, p0, q0, hargs, rfl, rfl, h0, r0⟩ := trodAll_cons hA
  obtain ⟨v1, vs1, d1, ds1, p1, q1, rfl, rfl, rfl, h1, r1⟩ := trodAll_cons r0
  obtain ⟨v2, vs2, d2, ds2, p2, q2, rfl, rfl, rfl, h2, r2⟩ := trodAll_cons r1
  obtain ⟨rfl, rfl, rfl⟩ := trodAll_nil r2
  obtain rfl : args = #[v0, v1, v2] := by cases args; simp_all
  obtain ⟨rfl, rfl⟩ := trodVars_none hV
  obtain ⟨a0, rfl, rfl, rfl, w0⟩ := open_int Try.underlying22 (hval 0 22 v0 rfl rfl) h0
  obtain ⟨a1, len1, cap1, rfl⟩ := okWide_slice Try.underlying23 (hval 1 23 v1 rfl rfl)
  obtain ⟨a2, len2, cap2, rfl⟩ := okWide_slice Try.underlying31 (hval 2 31 v2 rfl rfl)
  have k1 := h1
  have lt1 : ∀ x ∈ p1, x.block < W.heap.size := by obtain ⟨m, hm⟩ := k1; exact DataW.trod_lt m _ _ _ hm
  have k2 := h2
  have lt2 : ∀ x ∈ p2, x.block < W.heap.size := by obtain ⟨m, hm⟩ := k2; exact DataW.trod_lt m _ _ _ hm
  obtain ⟨l1, s1⟩ := open_arg (E := opEl) (j := 1) opEl_k opensOp Try.underlying23 (by kernel_rfl) (of_decide_eq_true (by kernel_rfl)) h1 rfl hsz rfl rfl
  obtain ⟨l2, s2⟩ := open_arg (E := byteEl) (j := 2) byteEl_k opensByte Try.underlying31 (by kernel_rfl) (of_decide_eq_true (by kernel_rfl)) h2 rfl hsz rfl rfl
  clear hA0 hval0 hsz0
  refine (slotsSeeks_walk s1 s2).mono fun e W' ⟨he, kw⟩ => ?_
  have bel : Below W.heap.size W W' := kw.below (Nat.le_refl _) fun _ h => h.elim
  subst he
  exact ⟨_, rfl, _, _, _, [], _, [], hW', trodAll_mk1 (shut_bool Try.underlying4 _), (trodAll_cons_mk (shut_int Try.underlying22 w0) (trodAll_cons_mk (Below.trod Facts.laid (by kernel_rfl) (of_decide_eq_true (by kernel_rfl)) k1 bel lt1) (trodAll_cons_mk (Below.trod Facts.laid (by kernel_rfl) (of_decide_eq_true (by kernel_rfl)) k2 bel lt2) trodAll_mk0))), rfl, bel.frame _, fun h => by cases h⟩
set_option maxHeartbeats 4000000 in
theorem closed : joinedFacts Try.prog 12 Try.f12 Rows.slotsSeeksSpec Rows.slotsSeeksRow = true := by
  refine Facts.joined 12 Try.f12 Rows.slotsSeeksSpec Rows.slotsSeeksRow ?_ ?_ ?_ ?_ ?_ ?_ ?_ ?_ ?_ ?_ ?_ ?_ ?_ ?_ ?_ ?_ ?_ ?_ ?_ ?_ ?_ ?_ ?_ ?_ ?_ ?_ ?_ <;> exact (by as_aux_lemma => kernel_rfl)
set_option maxHeartbeats 4000000 in
theorem over : Rows.slotsSeeksRow.holds Try.pinned (OpenSpec.ofChange Rows.slotsSeeksSpec) :=
  OpenClaim.holds_of_wide 12 Try.f12 rfl rfl rfl rfl rfl rfl rfl ⟨rfl, rfl, rfl, rfl, rfl⟩ rfl rfl rfl rfl rfl (by as_aux_lemma => kernel_rfl) Try.func12 closed
    (of_decide_eq_true (by as_aux_lemma => kernel_rfl)) (by unfold Func.isWrapper; first | (rw [if_pos (by decide +kernel)]; kernel_rfl) | (rw [if_neg (by decide +kernel)]; exact ⟨rfl, rfl⟩))
    (fun os started H enc _ => lifted os started H enc)
theorem proved : Rows.SlotsSeeksSaid := over
end Go.Proofs.Ytaopjdjbpamhhaa.slotsSeeks
namespace Go.Proofs.Ytaopjdjbpamhhaa
theorem slotsSeeks_holds : Rows.SlotsSeeksSaid := slotsSeeks.proved
#print axioms slotsSeeks_holds
end Go.Proofs.Ytaopjdjbpamhhaa
