/- Proved: the law SwapVault returns true for all its arguments, and each argument reads afterwards as it read before. No condition beyond the statement's own. -/
import Derived.Test.YtaopjdjbpamhhaaSSVR
import Derived.Deep.DeepCutAuto
import Derived.Test.YtaopjdjbpamhhaaRows
import Derived.Test.YtaopjdjbpamhhaaFacts
import Derived.Test.YtaopjdjbpamhhaaSSVA
import Derived.ProofKit
import Derived.OpenShut
import Derived.ShutString
import Derived.ChangeOld
import Derived.ChangeMaps5
import Derived.SizedLaws
import Derived.Carry
/- Proved: the law function SwapVault returns true for all its arguments. Conditions: deeds in memory. -/
namespace Go.Proofs.Ytaopjdjbpamhhaa
open Go Go.RowKit
set_option linter.unusedVariables false
set_option linter.unusedSimpArgs false
/-- A vault and the reference's list of its pads. -/
structure VR (seed : Int) (B : Nat) (w : World) (vv : Nat) (T : List (Bts × Bts)) (F : Nat → Prop) (lv : Value) (L : List (Bts × Bts)) (DL : Nat → Prop) : Prop where
  v : VltAt seed w vv T F
  s : SV pairEl DL w lv L
  da : ∀ b, F b → B ≤ b ∧ b < w.heap.size
  dl : ∀ b, DL b → B ≤ b ∧ b < w.heap.size ∧ ¬ F b
  same : SameT T L
  bs : B ≤ w.heap.size
theorem VR.still {seed : Int} {B : Nat} {w w' : World} {vv : Nat} {T L : List (Bts × Bts)} {F DL : Nat → Prop} {lv : Value} (h : VR seed B w vv T F lv L DL) (k : Kept Noneof w w') : VR seed B w' vv T F lv L DL :=
  ⟨h.v.still k, h.s.still' k, fun b hb => ⟨(h.da b hb).1, Nat.lt_of_lt_of_le (h.da b hb).2 k.size⟩, fun b hb => ⟨(h.dl b hb).1, Nat.lt_of_lt_of_le (h.dl b hb).2.1 k.size, (h.dl b hb).2.2⟩, h.same, Nat.le_trans h.bs k.size⟩
/-- Blocks change that are neither the vault's nor the list's. -/
theorem VR.kept {seed : Int} {B : Nat} {w w' : World} {vv : Nat} {T L : List (Bts × Bts)} {F DL X : Nat → Prop} {lv : Value} (h : VR seed B w vv T F lv L DL) (k : Kept X w w') (hX : ∀ b, X b → ¬ F b ∧ ¬ DL b) : VR seed B w' vv T F lv L DL :=
  ⟨h.v.kept k fun b hb hx => (hX b hx).1 hb, h.s.kept pairEl_k k fun b hb _ hx => (hX b hx).2 hb, fun b hb => ⟨(h.da b hb).1, Nat.lt_of_lt_of_le (h.da b hb).2 k.size⟩, fun b hb => ⟨(h.dl b hb).1, Nat.lt_of_lt_of_le (h.dl b hb).2.1 k.size, (h.dl b hb).2.2⟩, h.same, Nat.le_trans h.bs k.size⟩
theorem VR.ok {seed : Int} {B : Nat} {w : World} {vv : Nat} {T L : List (Bts × Bts)} {F DL : Nat → Prop} {lv : Value} (h : VR seed B w vv T F lv L DL) : ∀ p ∈ L, okP p := fun p hp => by
  obtain ⟨t, F0, _, ⟨_, _, _, _, ti⟩, _⟩ := h.v
  exact ti.ok p ((h.same.mem p).2 hp)
theorem VR.len {seed : Int} {B : Nat} {w : World} {vv : Nat} {T L : List (Bts × Bts)} {F DL : Nat → Prop} {lv : Value} (h : VR seed B w vv T F lv L DL) : L.length = T.length := h.same.perm.length_eq.symm

set_option maxRecDepth 100000 in
set_option maxHeartbeats 8000000 in
theorem swapVault_walk {seed : Int} {D : Nat → Prop} {w : World} {v : Value} {l : List DeedK} (h : SV deedEl D w v l) :
    Calls Try.prog 21 #[.int .u64 seed, v] w fun e w' => e = .returned (.bool true) ∧ Kept Noneof w w' := by
  have H := Lib.hid (h.bd deedEl_k)
  obtain ⟨a, c, rfl, ⟨hc, _⟩, hm, _⟩ := h
  obtain ⟨n, hn⟩ : ∃ n, l.length = n := ⟨_, rfl⟩
  rw [hn] at hc hm ⊢
  replace hn := Lib.hid hn
  go_enter Try.func21, Try.ntmps21
  by_cases q : n ≤ 60
  rotate_left
  · have q' : decide ((60 : Int) < (n : Int)) = true := decide_eq_true (by omega)
    clear q
    go_wp2
    go_ret
    exact ⟨rfl, Kept.refl _ _⟩
  have q' : decide ((60 : Int) < (n : Int)) = false := decide_eq_false (by omega)
  go_wp2_with fail
  clear q'
  refine (swNew_calls (seed := seed)).mono ?_
  rintro e w1 ⟨vv, rfl, t1, k1, _⟩
  have VS := Lib.hid (show ∃ T F L DL, VR seed w.heap.size w1 vv T F (.slice none 0 0) L DL ∧ T.length ≤ 0 from ⟨[], _, [], Noneof, ⟨t1, ⟨none, 0, rfl, ⟨by simp, fun _ => rfl⟩, by simp, Rd.nil _ _ _ _⟩, fun b h => h, fun b h => h.elim, SameT.nil, k1.size⟩, by simp⟩)
  have KW := Lib.hid k1
  clear t1 k1
  go_upto_region 6 with (fail)
  go_loopw [6, 32] (fun lv iv wr => ∃ i : Nat, i ≤ n ∧ iv = .int .i64 i ∧ Hid (∃ T F L DL, VR seed w.heap.size wr vv T F lv L DL ∧ T.length ≤ i) ∧ Hid (Kept Noneof w wr)) (fun _ iv _ => n - (intOf iv).toNat)
  case atStart => exact ⟨0, Nat.zero_le _, rfl, VS, KW⟩
  clear VS KW
  obtain ⟨i, hi, rfl, VS, KW⟩ := hrel
  obtain ⟨T, F, L, DL, vr, hTl⟩ := VS.out
  have vs := vr.s
  obtain ⟨la, lc, hlv, _⟩ := vs
  subst hlv
  obtain ⟨ln, hln⟩ : ∃ n, L.length = n := ⟨_, rfl⟩
  rw [hln] at vr ⊢
  replace hln := Lib.hid hln
  have VV := Lib.hid vr
  have TL := Lib.hid hTl
  clear VS vr hTl
  by_cases hlt : i < n
  rotate_left
  · obtain rfl : n = i := by omega
    as_aux_lemma =>
      clear hlt
      go_wp2_with fail
      refine (vImage_calls VV.out.v).mono ?_
      rintro e w2 ⟨v2, rfl, o2, k2⟩
      have O2 := Lib.hid o2.sv
      obtain ⟨x1, x2, x3, rfl⟩ := o2.slice'
      have VV2 := Lib.hid (VV.out.still k2)
      have K2 := Lib.hid (KW.out.tr k2)
      clear o2 k2
      go_wp2_with fail
      refine (r7Image_calls VV2.out.s VV2.out.same.keyd (by rw [VV2.out.len]; have := TL.out; omega) VV2.out.ok).mono ?_
      rintro e w3 ⟨v3, rfl, o3, k3⟩
      rw [← imgT_perm (seed := seed) VV2.out.same.kt VV2.out.same.perm] at o3
      have O3 := Lib.hid o3.sv
      obtain ⟨y1, y2, y3, rfl⟩ := o3.slice'
      replace O2 := Lib.hid (O2.out.still' k3)
      have K3 := Lib.hid (K2.out.tr k3)
      clear o3 k3
      go_wp2_with fail
      refine (r2Compare_calls O2.out O3.out).mono ?_
      rintro e w4 ⟨rfl, d4⟩
      rw [cmpB_self]
      have K4 := Lib.hid (K3.out.drewn d4)
      clear d4
      go_wp2
      go_ret
      exact ⟨rfl, K4.out⟩
  have hlt' : (i : Int) < (n : Int) := by omega
  have hil : i < l.length := by rw [hn.out]; exact hlt
  have hsv := H.out.still' KW.out
  rw [hn.out] at hsv
  obtain ⟨_, _, hsl, _, _, rd⟩ := hsv
  simp only [Value.slice.injEq] at hsl
  obtain ⟨rfl, -, rfl⟩ := hsl
  obtain ⟨b, o, u, x, rfl, db, e0, e1, e2, e3, hsz, hk, hv⟩ := Rd.deed rd hil
  generalize l[i] = dd at *
  obtain ⟨kd, nm, data, pad⟩ := dd
  simp only at e0 e1 e2 e3 hsz hk hv
  have hk' := hk
  have hv' := hv
  obtain ⟨ka, kc, rfl, _⟩ := hk'
  obtain ⟨va, vc, rfl, _⟩ := hv'
  have HSZ := Lib.hid hsz
  have HK := Lib.hid hk
  have HV := Lib.hid hv
  clear rd hil hk hv db hsz
  go_upto_region 8 with (fail)
  clear e0 e1 e2 e3
  have kA := (Kept.refl Noneof wr).alloc (.cells #[.int .i64 kd, .string nm, .slice ka data.length kc, .slice va pad.length vc] 126)
  have qA := heap_alloc_new wr (.cells #[.int .i64 kd, .string nm, .slice ka data.length kc, .slice va pad.length vc] 126)
  generalize wr.alloc (.cells #[.int .i64 kd, .string nm, .slice ka data.length kc, .slice va pad.length vc] 126) = wA at *
  have VR0 := VV
  replace VV := Lib.hid (VV.out.still kA)
  replace HK := Lib.hid (HK.out.still' kA)
  replace HV := Lib.hid (HV.out.still' kA)
  have KA := Lib.hid (KW.out.tr kA)
  have NBA := Lib.hid (show ¬ F wr.heap.size ∧ ¬ DL wr.heap.size ∧ wr.heap.size < wA.heap.size from ⟨fun h => by have := (VR0.out.da _ h).2; omega, fun h => by have := (VR0.out.dl _ h).2.1; omega, block_lt qA⟩)
  clear KW kA VR0
  generalize wr.heap.size = bA at *
  have CL := Lib.hid (fun (w' : World) (h : w'.heap[bA]? = some (.cells #[.int .i64 kd, .string nm, .slice ka data.length kc, .slice va pad.length vc] 126)) => show w'.cell? ⟨bA, 0, none⟩ = some (.int .i64 kd) ∧ w'.cell? ⟨bA, 1, none⟩ = some (.string nm) ∧ w'.cell? ⟨bA, 2, none⟩ = some (.slice ka data.length kc) ∧ w'.cell? ⟨bA, 3, none⟩ = some (.slice va pad.length vc) by simp [World.cell?, h])
  obtain ⟨c0, c1, c2, c3⟩ := CL.out wA qA
  have QA := Lib.hid qA
  clear qA
  by_cases q1 : data.length ≤ 2000
  rotate_left
  · have q1' : decide ((2000 : Int) < (data.length : Int)) = true := decide_eq_true (by omega)
    clear q1
    go_wp2
    go_ret
    exact ⟨rfl, KA.out⟩
  have q1' : decide ((2000 : Int) < (data.length : Int)) = false := decide_eq_false (by omega)
  by_cases q2 : pad.length ≤ 2000
  rotate_left
  · have q2' : decide ((2000 : Int) < (pad.length : Int)) = true := decide_eq_true (by omega)
    clear q1 q2
    go_wp2
    go_ret
    exact ⟨rfl, KA.out⟩
  have q2' : decide ((2000 : Int) < (pad.length : Int)) = false := decide_eq_false (by omega)
  by_cases q3 : nm.size ≤ 2000
  rotate_left
  · have q3' : decide ((2000 : Int) < (nm.size : Int)) = true := decide_eq_true (by omega)
    clear q1 q2 q3
    go_wp2
    go_ret
    exact ⟨rfl, KA.out⟩
  have q3' : decide ((2000 : Int) < (nm.size : Int)) = false := decide_eq_false (by omega)
  have Q1 := Lib.hid q1
  have Q2 := Lib.hid q2
  clear q1 q2 q3
  go_wp2_with fail
  clear q1' q2' q3' c0 c1 c2 c3
  refine (l7void_calls HK.out HV.out).mono ?_
  rintro e w2 ⟨rfl, k2⟩
  replace VV := Lib.hid (VV.out.still k2)
  replace HK := Lib.hid (HK.out.still' k2)
  replace HV := Lib.hid (HV.out.still' k2)
  replace KA := Lib.hid (KA.out.tr k2)
  replace QA := Lib.hid (k2.obj (fun h => h) QA.out)
  clear k2
  obtain ⟨c0, c1, c2, c3⟩ := CL.out w2 QA.out
  have LR := Lib.hid (show L.length < 100000 by rw [VV.out.len]; have := TL.out; omega)
  have LT := Lib.hid (show T.length < 100000 by have := TL.out; omega)
  by_cases k0 : kd = 0
  focus
   as_aux_lemma =>
    subst k0
    go_upto_region 18 with (fail)
    clear c0
    refine wp_region_kept 8 [(0, .act IsSlice fun u w1 => Own 5 byteEl Noneof w2.heap.size w1 u [] ∧ ∀ p n c, u = .slice (some p) n c → c = n), (3, .act IsSlice fun u w1 => Own 5 byteEl Noneof w2.heap.size w1 u data), (4, .act IsSlice fun u w1 => Own 5 byteEl Noneof w2.heap.size w1 u [] ∧ ∀ p n c, u = .slice (some p) n c → c = n), (7, .act IsSlice fun u w1 => Own 5 byteEl Noneof w2.heap.size w1 u pad)] Noneof (by kernel_rfl) (by kernel_rfl) (by kernel_rfl) ?_; simp only [List.take_succ_cons, List.take_zero, List.drop_succ_cons, List.drop_zero]
    have hS : ∀ w', Kept Noneof w2 w' → w'.cell? ⟨bA, 2, none⟩ = some (.slice ka data.length kc) ∧ w'.cell? ⟨bA, 3, none⟩ = some (.slice va pad.length vc) := fun w' k => ⟨k.cell (p := ⟨bA, 2, none⟩) (fun h => h) c2, k.cell (p := ⟨bA, 3, none⟩) (fun h => h) c3⟩
    refine SeqL.act rfl rfl (by rfl) (by rfl) isSlice (fun wx hx hh K hK => ?_) (fun u1 hu1 => ?_)
    · go_simp
      exact hK.out _ _ ⟨_, _, _, rfl⟩ ((Kept.refl _ _).alloc _) ⟨(Own.lit0 _ _ _ wx).base hx.size, fun p n c h => by cases h; rfl⟩
    obtain ⟨z1, z2, z3, rfl⟩ := hu1
    (try simp only [Act.put, List.setIfInBounds_toArray, List.set_cons_zero, List.set_cons_succ])
    iterate 2 (refine SeqL.val (v := ?_) hS rfl (by rfl) (fun wx hSw => ?_) ?_; rotate_left; (focus ((try dsimp only at hSw); go_simp; (try with_reducible rfl))); (try simp only [Act.put, List.setIfInBounds_toArray, List.set_cons_zero, List.set_cons_succ]))
    refine SeqL.act rfl rfl (by rfl) (by rfl) isSlice (fun wx hx hh K hK => ?_) (fun u1 hu1 => ?_)
    · obtain ⟨wy, _, ⟨o2, f2⟩, hxy⟩ := hh 0 (by decide) (by kernel_rfl) _ _ _ rfl rfl
      refine wp_app_full_bytes (.tmp 69) (.tmp 71) _ rfl tBytes _ [] rfl (o2.kept hxy fun _ h => h.elim) f2 _ data rfl (HK.out.still' hx) (by have := Q1.out; simp; omega) hx.size ?_
      rintro v' w' o4 k4 _
      exact hK.out _ _ o4.slice' k4 o4
    obtain ⟨y1, y2, y3, rfl⟩ := hu1
    (try simp only [Act.put, List.setIfInBounds_toArray, List.set_cons_zero, List.set_cons_succ])
    refine SeqL.act rfl rfl (by rfl) (by rfl) isSlice (fun wx hx hh K hK => ?_) (fun u1 hu1 => ?_)
    · go_simp
      exact hK.out _ _ ⟨_, _, _, rfl⟩ ((Kept.refl _ _).alloc _) ⟨(Own.lit0 _ _ _ wx).base hx.size, fun p n c h => by cases h; rfl⟩
    obtain ⟨z4, z5, z6, rfl⟩ := hu1
    (try simp only [Act.put, List.setIfInBounds_toArray, List.set_cons_zero, List.set_cons_succ])
    iterate 2 (refine SeqL.val (v := ?_) hS rfl (by rfl) (fun wx hSw => ?_) ?_; rotate_left; (focus ((try dsimp only at hSw); go_simp; (try with_reducible rfl))); (try simp only [Act.put, List.setIfInBounds_toArray, List.set_cons_zero, List.set_cons_succ]))
    refine SeqL.act rfl rfl (by rfl) (by rfl) isSlice (fun wx hx hh K hK => ?_) (fun u1 hu1 => ?_)
    · obtain ⟨wy, _, ⟨o2, f2⟩, hxy⟩ := hh 4 (by decide) (by kernel_rfl) _ _ _ rfl rfl
      refine wp_app_full_bytes (.tmp 73) (.tmp 75) _ rfl tBytes _ [] rfl (o2.kept hxy fun _ h => h.elim) f2 _ pad rfl (HV.out.still' hx) (by have := Q2.out; simp; omega) hx.size ?_
      rintro v' w' o4 k4 _
      exact hK.out _ _ o4.slice' k4 o4
    obtain ⟨y4, y5, y6, rfl⟩ := hu1
    (try simp only [Act.put, List.setIfInBounds_toArray, List.set_cons_zero, List.set_cons_succ])
    refine SeqL.nil fun wz hz hh => ?_
    obtain ⟨wa, _, oa, ka'⟩ := hh 3 (by decide) _ _ _ rfl rfl
    obtain ⟨wb, _, ob, kb'⟩ := hh 7 (by decide) _ _ _ rfl rfl
    have DA := Lib.hid (show Own 5 byteEl Noneof w2.heap.size wz (.slice y1 y2 y3) data from oa.kept ka' fun _ h => h.elim)
    have PA := Lib.hid (show Own 5 byteEl Noneof w2.heap.size wz (.slice y4 y5 y6) pad from ob.kept kb' fun _ h => h.elim)
    have DLT := Lib.hid DA.out.lt
    have PLT := Lib.hid PA.out.lt
    have FD := Lib.hid (show ∀ b, F b ∨ DL b → b < w2.heap.size from fun b h => h.elim (fun h => (VV.out.da b h).2) fun h => (VV.out.dl b h).2.1)
    have VZ := Lib.hid (VV.out.still hz)
    have KZ := Lib.hid (KA.out.tr hz)
    have QZ := Lib.hid (hz.obj (fun h => h) QA.out)
    replace HK := Lib.hid (HK.out.still' hz)
    replace HV := Lib.hid (HV.out.still' hz)
    have S2 := Lib.hid hz.size
    have NB2 := Lib.hid KA.out.size
    clear hh oa ka' ob kb' hz hS c1 c2 c3 VV QA KA
    obtain ⟨c0, c1, c2, c3⟩ := CL.out wz QZ.out
    go_wp2_with fail
    clear c0 c1 c2 c3
    refine (vPut_any VZ.out.v DA.out.sv PA.out.sv (fun b h => (VZ.out.da b h).2) (fun b h hf => by have := FD.out b (.inl hf); rcases h with h | h; exact h.elim; omega) (fun b h hf => by have := FD.out b (.inl hf); rcases h with h | h; exact h.elim; omega) LT.out HSZ.out).mono ?_
    rintro e w5 ⟨v5, F', rfl, b5, t5, hf5, k5⟩
    have RP := Lib.hid (VZ.out.same.putR (sB nm) data pad)
    obtain ⟨r, hr⟩ : ∃ r, putR T (sB nm) data pad = r := ⟨_, rfl⟩
    rw [hr] at b5 RP ⊢
    have nf : ∀ b, w2.heap.size ≤ b → b < wz.heap.size → ¬ F b := fun b h1 h2 h => by have := FD.out b (.inl h); omega
    replace DA := Lib.hid (DA.out.kept k5 fun b h hl => ⟨fun h => h.elim, fun e => by have := (DA.out.lt b e).1; have := FD.out b (.inl h); omega⟩)
    replace PA := Lib.hid (PA.out.kept k5 fun b h hl => ⟨fun h => h.elim, fun e => by have := (PA.out.lt b e).1; have := FD.out b (.inl h); omega⟩)
    replace HK := Lib.hid (HK.out.kept byteEl_k k5 fun b h _ hf => by have := (VZ.out.da b hf).1; have := h.2; omega)
    replace HV := Lib.hid (HV.out.kept byteEl_k k5 fun b h _ hf => by have := (VZ.out.da b hf).1; have := h.2; omega)
    have QW := Lib.hid (k5.obj NBA.out.1 QZ.out)
    have SL := Lib.hid (VZ.out.s.kept pairEl_k k5 fun b h _ hf => (VZ.out.dl b h).2.2 hf)
    have K5 := Lib.hid (KZ.out.trans k5 fun b h => .inr (VZ.out.da b h).1)
    have T5 := Lib.hid t5
    have HF5 := Lib.hid hf5
    have S5 := Lib.hid k5.size
    have B5 := Lib.hid (b5.mono fun b h hl => ⟨(⟨h, hl⟩ : (wz.heap.size ≤ b ∧ ¬ F' b) ∧ b < w5.heap.size), rfl⟩)
    have SN := Lib.hid (show (sealN r nm).size ≤ 140737488355328 by
      unfold sealN
      split
      · exact HSZ.out
      · exact Nat.zero_le _)
    obtain ⟨u1, u3, rfl, _⟩ := b5.1
    clear k5 t5 hf5 b5 nf KZ QZ hr
    generalize hsn : sealN r nm = sn at *
    replace hsn := Lib.hid hsn
    generalize hsb : sealB r data pad = sb at *
    replace hsb := Lib.hid hsb
    go_upto_region 20 with (fail)
    have k6 := (Kept.refl Noneof w5).alloc (.cells #[.string sn, .slice u1 sb.length u3] 105)
    have g6 := Lib.hid (heap_alloc_new w5 (.cells #[.string sn, .slice u1 sb.length u3] 105))
    have s6 := Lib.hid (show (w5.alloc (.cells #[.string sn, .slice u1 sb.length u3] 105)).heap.size = w5.heap.size + 1 by simp)
    generalize w5.alloc (.cells #[.string sn, .slice u1 sb.length u3] 105) = w6 at *
    replace DA := Lib.hid (DA.out.kept k6 fun _ h => h.elim)
    replace PA := Lib.hid (PA.out.kept k6 fun _ h => h.elim)
    replace HK := Lib.hid (HK.out.still' k6)
    replace HV := Lib.hid (HV.out.still' k6)
    replace QW := Lib.hid (k6.obj (fun h => h) QW.out)
    replace SL := Lib.hid (SL.out.still' k6)
    replace K5 := Lib.hid (K5.out.tr k6)
    replace T5 := Lib.hid (T5.out.still k6)
    replace B5 := Lib.hid (B5.out.mono fun b h hl => ⟨h, k6.block b hl fun h => h⟩)
    clear k6
    obtain ⟨c0, c1, c2, c3⟩ := CL.out w6 QW.out
    go_wp2_with fail
    refine (r7Put_calls SL.out HK.out HV.out LR.out HSZ.out).mono ?_
    rintro e w7 ⟨x7, y7, rfl, b7, s7, k7⟩
    rw [RP.out, hsb.out] at b7
    rw [RP.out, hsn.out]
    have B7 := Lib.hid b7
    have S7 := Lib.hid (s7.bd pairEl_k)
    obtain ⟨m1, m3, rfl, _⟩ := b7
    obtain ⟨p1, p3, hp7, _⟩ := s7
    subst hp7
    obtain ⟨pn, hpn⟩ : ∃ k, (rputL L (sB nm) data pad).length = k := ⟨_, rfl⟩
    rw [hpn] at S7 ⊢
    have T7 := Lib.hid (T5.out.still k7)
    have K7 := Lib.hid (K5.out.tr k7)
    have S6 := Lib.hid k7.size
    replace DA := Lib.hid (DA.out.kept k7 fun _ h => h.elim)
    replace PA := Lib.hid (PA.out.kept k7 fun _ h => h.elim)
    replace HK := Lib.hid (HK.out.still' k7)
    replace HV := Lib.hid (HV.out.still' k7)
    replace QW := Lib.hid (k7.obj (fun h => h) QW.out)
    replace g6 := Lib.hid (k7.obj (fun h => h) g6.out)
    replace B5 := Lib.hid (B5.out.mono fun b h hl => ⟨h, k7.block b hl fun h => h⟩)
    clear k7 K5 T5 SL hpn c0 c1 c2 c3
    go_upto_region 21 with (fail)
    have k8 := (Kept.refl Noneof w7).alloc (.cells #[.string sn, .slice m1 sb.length m3] 105)
    have g8 := heap_alloc_new w7 (.cells #[.string sn, .slice m1 sb.length m3] 105)
    have s8 : (w7.alloc (.cells #[.string sn, .slice m1 sb.length m3] 105)).heap.size = w7.heap.size + 1 := by simp
    generalize w7.alloc (.cells #[.string sn, .slice m1 sb.length m3] 105) = w8 at *
    have VN := Lib.hid (show VR seed w.heap.size w8 vv (vputT T (sB nm) data pad) F' (.slice p1 pn p3) (rputL L (sB nm) data pad) (fun b => (DL b ∨ w6.heap.size ≤ b) ∧ b < w7.heap.size) from
      ⟨T7.out.still k8, S7.out.still' k8, fun b hb => ⟨(HF5.out b hb).1.elim (fun h => (VZ.out.da b h).1) fun h => Nat.le_trans VZ.out.bs h, by have := (HF5.out b hb).2; have := s6.out; have := S6.out; omega⟩, fun b hb => by
        have h6 := s6.out
        have h66 := S6.out
        have h5 := S5.out
        have h2 := S2.out
        refine ⟨hb.1.elim (fun h => (VZ.out.dl b h).1) fun h => by have := VZ.out.bs; omega, by have := hb.2; omega, fun hf => ?_⟩
        rcases hb.1 with h | h
        · rcases (HF5.out b hf).1 with h' | h'
          · exact (VZ.out.dl b h).2.2 h'
          · have := FD.out b (.inr h); omega
        · have := (HF5.out b hf).2; omega, VZ.out.same.vput _ _ _, by have := VZ.out.bs; have := S5.out; have := S6.out; have := s6.out; omega⟩)
    replace K7 := Lib.hid (K7.out.tr k8)
    replace DA := Lib.hid (DA.out.kept k8 fun _ h => h.elim)
    replace PA := Lib.hid (PA.out.kept k8 fun _ h => h.elim)
    replace HK := Lib.hid (HK.out.still' k8)
    replace HV := Lib.hid (HV.out.still' k8)
    replace QW := Lib.hid (k8.obj (fun h => h) QW.out)
    replace g6 := Lib.hid (k8.obj (fun h => h) g6.out)
    replace B5 := Lib.hid (B5.out.mono fun b h hl => ⟨h, k8.block b hl fun h => h⟩)
    replace B7 := Lib.hid (B7.out.still' k8)
    clear k8 s8 T7 S7
    have GC := Lib.hid (fun (w' : World) (k : Kept Noneof w8 w') => show (w'.cell? ⟨w5.heap.size, 0, none⟩ = some (.string sn) ∧ w'.cell? ⟨w5.heap.size, 1, none⟩ = some (.slice u1 sb.length u3)) ∧ (w'.cell? ⟨w7.heap.size, 0, none⟩ = some (.string sn) ∧ w'.cell? ⟨w7.heap.size, 1, none⟩ = some (.slice m1 sb.length m3)) from by
      have h6 := k.obj (fun h => h) g6.out
      have h8 := k.obj (fun h => h) g8
      exact ⟨⟨by simp [World.cell?, h6], by simp [World.cell?, h6]⟩, ⟨by simp [World.cell?, h8], by simp [World.cell?, h8]⟩⟩)
    obtain ⟨⟨f0, f1⟩, ⟨f2, f3⟩⟩ := GC.out w8 (Kept.refl _ _)
    clear g8
    go_wp2_with fail
    refine (r2Compare_calls B5.out.1 B7.out).mono ?_
    rintro e w9 ⟨rfl, d⟩
    rw [cmpB_self]
    have k9 := (Kept.refl Noneof w8).drewn d
    obtain ⟨⟨f0, f1⟩, ⟨f2, f3⟩⟩ := GC.out w9 k9
    obtain ⟨c0, c1, c2, c3⟩ := CL.out w9 (k9.obj (fun h => h) QW.out)
    have K9 := Lib.hid k9
    clear k9 d
    go_wp2_with fail
    refine (r2Compare_calls (DA.out.kept K9.out fun _ h => h.elim).sv (HK.out.still' K9.out)).mono ?_
    rintro e wa ⟨rfl, d⟩
    rw [cmpB_self]
    replace K9 := Lib.hid (K9.out.drewn d)
    obtain ⟨c0, c1, c2, c3⟩ := CL.out wa (K9.out.obj (fun h => h) QW.out)
    clear d f0 f1 f2 f3
    go_wp2_with fail
    refine (r2Compare_calls (PA.out.kept K9.out fun _ h => h.elim).sv (HV.out.still' K9.out)).mono ?_
    rintro e wb ⟨rfl, d⟩
    rw [cmpB_self]
    replace K9 := Lib.hid (K9.out.drewn d)
    clear d c0 c1 c2 c3
    replace DA := Lib.hid (DA.out.kept K9.out fun _ h => h.elim)
    replace PA := Lib.hid (PA.out.kept K9.out fun _ h => h.elim)
    replace B5 := Lib.hid (B5.out.mono fun b h hl => ⟨h, K9.out.block b hl fun h => h⟩)
    replace VN := Lib.hid (VN.out.still K9.out)
    replace K7 := Lib.hid (K7.out.tr K9.out)
    have g9 := Lib.hid (show wb.cell? ⟨w5.heap.size, 1, none⟩ = some (.slice u1 sb.length u3) from (GC.out wb K9.out).1.2)
    clear GC K9 QW HK HV B7
    go_wp2_with fail
    refine (l7spoil_calls (DA.out.bw (D := fun b => (Value.slice y1 y2 y3).ownBlock = some b) fun b h => h)).mono ?_
    rintro e wc ⟨rfl, kc, tc⟩
    have H5 := S5.out
    have H6 := s6.out
    have H66 := S6.out
    have H2' := S2.out
    have VN2 := Lib.hid (VN.out.kept kc fun b hb => ⟨fun hf => by
      have h1 := DLT.out b hb
      rcases (HF5.out b hf).1 with h' | h'
      · have := FD.out b (.inl h'); omega
      · omega, fun hd => by
      have h1 := DLT.out b hb
      rcases hd.1 with h' | h'
      · have := FD.out b (.inr h'); omega
      · omega⟩)
    have K8 := Lib.hid (K7.out.trans kc fun b hb => .inr (by have := (DLT.out b hb).1; have := NB2.out; omega))
    obtain ⟨pad', hpad⟩ := tc.bw (PA.out.bw (D := fun b => (Value.slice y4 y5 y6).ownBlock = some b) fun b h => h)
    obtain ⟨sb', hsb'⟩ := tc.bw B5.out
    have PA2 := Lib.hid hpad
    have B52 := Lib.hid hsb'
    have g10 := Lib.hid (show wc.cell? ⟨w5.heap.size, 1, none⟩ = some (.slice u1 sb.length u3) from kc.cell (p := ⟨w5.heap.size, 1, none⟩) (fun e => by have := (DLT.out w5.heap.size e).2; omega) g9.out)
    clear kc tc hpad hsb' VN K7 PA DA B5 g9
    go_wp2_with fail
    refine (l7spoil_calls PA2.out).mono ?_
    rintro e wd ⟨rfl, kc, tc⟩
    have VN3 := Lib.hid (VN2.out.kept kc fun b hb => ⟨fun hf => by
      have h1 := PLT.out b hb
      rcases (HF5.out b hf).1 with h' | h'
      · have := FD.out b (.inl h'); omega
      · omega, fun hd => by
      have h1 := PLT.out b hb
      rcases hd.1 with h' | h'
      · have := FD.out b (.inr h'); omega
      · omega⟩)
    have K9 := Lib.hid (K8.out.trans kc fun b hb => .inr (by have := (PLT.out b hb).1; have := NB2.out; omega))
    obtain ⟨sb2, hsb2⟩ := tc.bw B52.out
    have B53 := Lib.hid hsb2
    have g11 : wd.cell? ⟨w5.heap.size, 1, none⟩ = some (.slice u1 sb.length u3) := kc.cell (p := ⟨w5.heap.size, 1, none⟩) (fun e => by have := (PLT.out w5.heap.size e).2; omega) g10.out
    clear kc tc hsb2 VN2 K8 PA2 B52 g10
    go_wp2_with fail
    refine (l7spoil_calls B53.out).mono ?_
    rintro e we ⟨rfl, kc, _⟩
    have VN4 := Lib.hid (show ∃ T F L DL, VR seed w.heap.size we vv T F (.slice p1 pn p3) L DL ∧ T.length ≤ i + 1 from ⟨_, _, _, _, VN3.out.kept kc fun b hb => ⟨fun hf => hb.1.2 hf, fun hd => by
      rcases hd.1 with h' | h'
      · have := FD.out b (.inr h'); have := hb.1.1; omega
      · have := hb.2; omega⟩, by have := vputT_len T (sB nm) data pad; have := TL.out; omega⟩)
    have KX := Lib.hid (K9.out.trans kc fun b hb => .inr (by have := hb.1.1; have := NB2.out; omega))
    clear kc VN3 K9 B53 g11 FD HF5 DLT PLT CL
    go_wp2
    go_roundw
    case rel => exact ⟨i + 1, by omega, by go_num, VN4, KX⟩
    case measure => simp [intOf]; omega
  have k0' : (kd == 0) = false := by simpa using k0
  by_cases k1 : kd = 1
  focus
   as_aux_lemma =>
    subst k1
    go_upto_region 28 with (fail)
    clear c0
    have FD := Lib.hid (show ∀ b, F b ∨ DL b → b < w2.heap.size from fun b h => h.elim (fun h => (VV.out.da b h).2) fun h => (VV.out.dl b h).2.1)
    have NB2 := Lib.hid KA.out.size
    have kA := Lib.hid ((Kept.refl Noneof w2).alloc (.cells #[] 5))
    have OA := Lib.hid (show Own 5 byteEl Noneof w2.heap.size (w2.alloc (.cells #[] 5)) (.slice (some ⟨w2.heap.size, 0, none⟩) 0 0) [] from Own.lit0 _ _ _ _)
    have c2' : ∀ ob, (w2.alloc ob).cell? ⟨bA, 2, none⟩ = some (.slice ka data.length kc) := fun ob => ((Kept.refl Noneof w2).alloc ob).cell (p := ⟨bA, 2, none⟩) (fun h => h) c2
    go_wp2_with (at_builtin; refine wl_app_bytes rfl (.tmp 140) (.tmp 142) _ rfl tBytes _ [] rfl OA.out _ data rfl (HK.out.still' kA.out) ?c4 ?c6 ?_; (case c4 => have := Q1.out; simp; omega); (case c6 => exact kA.out.size))
    intro v5 w5 ho5 k5 b5
    have K25 := Lib.hid (show Kept Noneof w2 w5 from kA.out.trans k5 fun b h => .inr (OA.out.lt b h).1)
    have DA := Lib.hid (show Own 5 byteEl Noneof w2.heap.size w5 v5 data from ho5)
    obtain ⟨y1, y2, y3, rfl⟩ := ho5.slice'
    replace VV := Lib.hid (VV.out.still K25.out)
    replace HK := Lib.hid (HK.out.still' K25.out)
    have K5 := Lib.hid (KA.out.tr K25.out)
    have QW := Lib.hid (K25.out.obj (fun h => h) QA.out)
    have S5 := Lib.hid K25.out.size
    clear ho5 k5 b5 kA OA K25 c1 c2 c3 c2' KA HV QA
    obtain ⟨c0, c1, c2, c3⟩ := CL.out w5 QW.out
    obtain ⟨⟨er, rb⟩, hop⟩ : ∃ r, openK (tget T (sB nm)) data = r := ⟨_, rfl⟩
    have OE := Lib.hid (show openK (getK L (sB nm)) data = (er, rb) by rw [← VV.out.same.eq]; exact hop)
    go_wp2_with fail
    refine (vOpen_calls VV.out.v DA.out.sv HSZ.out).mono ?_
    rintro e w6 ⟨v6, rfl, o6, k6⟩
    rw [hop] at o6 ⊢
    have O6 := Lib.hid o6
    obtain ⟨z1, z2, z3, rfl⟩ := o6.slice'
    replace VV := Lib.hid (VV.out.still k6)
    replace HK := Lib.hid (HK.out.still' k6)
    replace DA := Lib.hid (DA.out.kept k6 fun _ h => h.elim)
    replace K5 := Lib.hid (K5.out.tr k6)
    replace QW := Lib.hid (k6.obj (fun h => h) QW.out)
    have DLT := Lib.hid DA.out.lt
    clear o6 k6 hop c0 c1 c2 c3
    obtain ⟨c0, c1, c2, c3⟩ := CL.out w6 QW.out
    go_wp2_with fail
    refine (r7Open_calls VV.out.s HK.out HSZ.out).mono ?_
    rintro e w7 ⟨v7, rfl, o7, k7⟩
    rw [OE.out] at o7 ⊢
    have O7 := Lib.hid o7.sv
    obtain ⟨x1, x2, x3, rfl⟩ := o7.slice'
    have O6T := Lib.hid O6.out.lt
    replace VV := Lib.hid (VV.out.still k7)
    replace DA := Lib.hid (DA.out.kept k7 fun _ h => h.elim)
    replace O6 := Lib.hid (O6.out.kept k7 fun _ h => h.elim)
    replace K5 := Lib.hid (K5.out.tr k7)
    clear o7 k7 c0 c1 c2 c3 OE HK QW CL
    go_wp2_with fail
    refine (r2Compare_calls O6.out.sv O7.out).mono ?_
    rintro e w8 ⟨rfl, d⟩
    rw [cmpB_self]
    have k8 := (Kept.refl Noneof w7).drewn d
    replace VV := Lib.hid (VV.out.still k8)
    replace DA := Lib.hid (DA.out.kept k8 fun _ h => h.elim)
    replace O6 := Lib.hid (O6.out.kept k8 fun _ h => h.elim)
    replace K5 := Lib.hid (K5.out.tr k8)
    clear k8 d O7
    go_wp2_with fail
    refine (l7spoil_calls (DA.out.bw (D := fun b => (Value.slice y1 y2 y3).ownBlock = some b) fun b h => h)).mono ?_
    rintro e w9 ⟨rfl, kc, tc⟩
    have H5 := S5.out
    have H2 := NB2.out
    have VN2 := Lib.hid (VV.out.kept kc fun b hb => ⟨fun hf => by have := (DLT.out b hb).1; have := FD.out b (.inl hf); omega, fun hf => by have := (DLT.out b hb).1; have := FD.out b (.inr hf); omega⟩)
    have K9 := Lib.hid (K5.out.trans kc fun b hb => .inr (by have := (DLT.out b hb).1; omega))
    obtain ⟨rb', hrb⟩ := tc.bw (O6.out.bw (D := fun b => (Value.slice z1 z2 z3).ownBlock = some b) fun b h => h)
    have R2 := Lib.hid hrb
    clear kc tc hrb VV K5 DA O6
    go_wp2_with fail
    refine (l7spoil_calls R2.out).mono ?_
    rintro e wa ⟨rfl, kc, _⟩
    have VN4 := Lib.hid (show ∃ T F L DL, VR seed w.heap.size wa vv T F (.slice la ln lc) L DL ∧ T.length ≤ i + 1 from ⟨_, _, _, _, VN2.out.kept kc fun b hb => ⟨fun hf => by have := (O6T.out b hb).1; have := FD.out b (.inl hf); omega, fun hf => by have := (O6T.out b hb).1; have := FD.out b (.inr hf); omega⟩, by have := TL.out; omega⟩)
    have KX := Lib.hid (K9.out.trans kc fun b hb => .inr (by have := (O6T.out b hb).1; omega))
    clear kc VN2 K9 R2 FD O6T DLT
    go_wp2
    go_roundw
    case rel => exact ⟨i + 1, by omega, by go_num, VN4, KX⟩
    case measure => simp [intOf]; omega
  have k1' : (kd == 1) = false := by simpa using k1
  by_cases k2 : kd = 2
  focus
   as_aux_lemma =>
    subst k2
    go_upto_region 36 with (fail)
    clear c0
    have FD := Lib.hid (show ∀ b, F b ∨ DL b → b < w2.heap.size from fun b h => h.elim (fun h => (VV.out.da b h).2) fun h => (VV.out.dl b h).2.1)
    have FR := Lib.hid (VV.out.same.forgetR (sB nm))
    go_wp2_with fail
    refine (vForget_calls VV.out.v (fun b h => (VV.out.da b h).2) HSZ.out).mono ?_
    rintro e w3 ⟨rfl, t3, k3⟩
    have T3 := Lib.hid t3
    have SL := Lib.hid (VV.out.s.kept pairEl_k k3 fun b h _ hf => (VV.out.dl b h).2.2 hf)
    have K3 := Lib.hid (KA.out.trans k3 fun b h => .inr (VV.out.da b h).1)
    have QW := Lib.hid (k3.obj NBA.out.1 QA.out)
    have S3 := Lib.hid k3.size
    clear t3 k3 c1 c2 c3 KA QA HK HV
    generalize dropE T (sB nm) = fe at *
    obtain ⟨c0, c1, c2, c3⟩ := CL.out w3 QW.out
    go_wp2_with fail
    refine (r7Forget_calls SL.out (by have := LR.out; omega) HSZ.out).mono ?_
    rintro e w4 ⟨x4, rfl, s4, k4⟩
    rw [FR.out]
    have S4 := Lib.hid (s4.bd pairEl_k)
    obtain ⟨p1, p3, hp, _⟩ := s4
    subst hp
    obtain ⟨pn, hpn⟩ : ∃ k, (if hasK L (sB nm) = true then dropK L (sB nm) else L).length = k := ⟨_, rfl⟩
    rw [hpn] at S4 ⊢
    have VN4 := Lib.hid (show ∃ T F L DL, VR seed w.heap.size w4 vv T F (.slice p1 pn p3) L DL ∧ T.length ≤ i + 1 from ⟨_, F, _, _, ⟨T3.out.still k4, S4.out, fun b hb => ⟨(VV.out.da b hb).1, by have := (VV.out.da b hb).2; have := S3.out; have := k4.size; omega⟩, fun b hb => ⟨hb.1.elim (fun h => (VV.out.dl b h).1) fun h => by have := VV.out.bs; have := S3.out; omega, hb.2, fun hf => hb.1.elim (fun h => (VV.out.dl b h).2.2 hf) fun h => by have := FD.out b (.inl hf); have := S3.out; omega⟩, VV.out.same.forget _, by have := VV.out.bs; have := S3.out; have := k4.size; omega⟩, by have := tdel_len T (sB nm); have := TL.out; omega⟩)
    have KX := Lib.hid (K3.out.tr k4)
    clear k4 S4 T3 SL K3 FD FR CL QW hpn c0 c1 c2 c3 VV
    go_wp2
    go_roundw
    case rel => exact ⟨i + 1, by omega, by go_num, VN4, KX⟩
    case measure => simp [intOf]; omega
  have k2' : (kd == 2) = false := by simpa using k2
  as_aux_lemma =>
    clear k0 k1 k2
    go_upto_region 13 with (fail)
    clear c0 c1 c2 c3 HK HV
    have FD := Lib.hid (show ∀ b, F b ∨ DL b → b < w2.heap.size from fun b h => h.elim (fun h => (VV.out.da b h).2) fun h => (VV.out.dl b h).2.1)
    have NB2 := Lib.hid KA.out.size
    go_wp2_with fail
    refine (vImage_calls VV.out.v).mono ?_
    rintro e w3 ⟨v3, rfl, o3, k3⟩
    have O3 := Lib.hid o3
    have OT := Lib.hid o3.lt
    obtain ⟨x1, x2, x3, rfl⟩ := o3.slice'
    replace VV := Lib.hid (VV.out.still k3)
    have K3 := Lib.hid (KA.out.tr k3)
    clear o3 k3 KA QA CL
    go_wp2_with fail
    refine (r7Image_calls VV.out.s VV.out.same.keyd (by have := LR.out; omega) VV.out.ok).mono ?_
    rintro e w4 ⟨v4, rfl, o4, k4⟩
    rw [← imgT_perm (seed := seed) VV.out.same.kt VV.out.same.perm] at o4
    have O4 := Lib.hid o4.sv
    obtain ⟨y1, y2, y3, rfl⟩ := o4.slice'
    replace O3 := Lib.hid (O3.out.kept k4 fun _ h => h.elim)
    replace VV := Lib.hid (VV.out.still k4)
    replace K3 := Lib.hid (K3.out.tr k4)
    clear o4 k4
    go_wp2_with fail
    refine (r2Compare_calls O3.out.sv O4.out).mono ?_
    rintro e w5 ⟨rfl, d⟩
    rw [cmpB_self]
    have k5 := (Kept.refl Noneof w4).drewn d
    replace O3 := Lib.hid (O3.out.kept k5 fun _ h => h.elim)
    replace VV := Lib.hid (VV.out.still k5)
    replace K3 := Lib.hid (K3.out.tr k5)
    clear d k5 O4
    go_wp2_with fail
    refine (l7spoil_calls (O3.out.bw (D := fun b => (Value.slice x1 x2 x3).ownBlock = some b) fun b h => h)).mono ?_
    rintro e wa ⟨rfl, kc, _⟩
    have H2 := NB2.out
    have VN4 := Lib.hid (show ∃ T F L DL, VR seed w.heap.size wa vv T F (.slice la ln lc) L DL ∧ T.length ≤ i + 1 from ⟨_, _, _, _, VV.out.kept kc fun b hb => ⟨fun hf => by have := (OT.out b hb).1; have := FD.out b (.inl hf); omega, fun hf => by have := (OT.out b hb).1; have := FD.out b (.inr hf); omega⟩, by have := TL.out; omega⟩)
    have KX := Lib.hid (K3.out.trans kc fun b hb => .inr (by have := (OT.out b hb).1; omega))
    clear kc VV K3 O3 FD OT
    go_wp2
    go_roundw
    case rel => exact ⟨i + 1, by omega, by go_num, VN4, KX⟩
    case measure => simp [intOf]; omega
end Go.Proofs.Ytaopjdjbpamhhaa
/- Proved: the law SwapVault returns true for all its arguments, and each argument reads afterwards as it read before. No condition beyond the statement's own. -/
namespace Go.Proofs.Ytaopjdjbpamhhaa.swapVault
open Go.ChangeShapes Go.WideShapes Go.ChangeAt Go.RowKit
set_option linter.unusedVariables false
theorem opensDeed : Opens Try.prog 126 deedEl := opens_deed (ti := 3) (tt := 9) (t := 31) (e := 5) (Try.underlying126) rfl rfl rfl rfl rfl rfl rfl rfl (by kernel_rfl) (by kernel_rfl) (by kernel_rfl) (by kernel_rfl) Try.underlying3 Try.underlying9 Try.underlying31 Try.underlying5 (by kernel_rfl) (of_decide_eq_true (by kernel_rfl))
set_option maxRecDepth 100000 in
theorem lifted (os : Os) (started : os.Started) (H : Type) (enc : TypeId × Value → H) :
    ReturnsInHanded {} Try.checked os 21 .any (Rows.swapVaultSpec.pre6 enc Try.prog Try.f21 Rows.swapVaultRow.domain false) (Rows.swapVaultSpec.post enc Try.prog Try.f21 false true false false) := by
  refine returnsInHanded_of_change_sized (C := Try.checked) Facts.own started (by kernel_rfl) Try.func21
    (ChangeSpec.witness6 (enc := enc) (C := Try.checked) false ⟨#[], #[.int .u64 0, .slice none 0 0], []⟩ 8 (by kernel_rfl) (by kernel_rfl) (by kernel_rfl) (by kernel_rfl)) ?_
  intro W base args ds gs before hval0 hW hcnd hsz0 _
  have hsz : (DataW.weightsEach Try.prog (Try.f21.params.toList ++ Rows.swapVaultSpec.plain.varTypes Try.prog) (ds ++ gs)).all (· ≤ reachBytes) = true := hsz0
  have hval : ∀ (j : Nat) t v, Try.f21.params[j]? = some t → args[j]? = some v → Value.okWide Try.prog W .any base t v := hval0
  have hW' := hW
  obtain ⟨p, q, hA0, hV, rfl, hfz, hnd⟩ := hW
  have hA : DataW.TrodAll enc Try.prog W 0 (fun _ => true) true Try.f21.params.toList args.toList ds p := hA0
  rw [Try.params21] at hA hval hsz
  obtain ⟨v0, vs0, d0, ds0, p0, q0, hargs, rfl, rfl, h0, r0⟩ := trodAll_cons hA
  obtain ⟨v1, vs1, d1, ds1, p1, q1, rfl, rfl, rfl, h1, r1⟩ := trodAll_cons r0
  obtain ⟨rfl, rfl, rfl⟩ := trodAll_nil r1
  obtain rfl : args = #[v0, v1] := by cases args; simp_all
  obtain ⟨rfl, rfl⟩ := trodVars_none hV
  obtain ⟨a0, rfl, rfl, rfl, w0⟩ := open_int Try.underlying22 (hval 0 22 v0 rfl rfl) h0
  obtain ⟨a1, len1, cap1, rfl⟩ := okWide_slice Try.underlying100 (hval 1 100 v1 rfl rfl)
  have k1 := h1
  have lt1 : ∀ x ∈ p1, x.block < W.heap.size := by obtain ⟨m, hm⟩ := k1; exact DataW.trod_lt m _ _ _ hm
  obtain ⟨l1, s1⟩ := open_arg (E := deedEl) (j := 1) deedEl_k opensDeed Try.underlying100 (by kernel_rfl) (of_decide_eq_true (by kernel_rfl)) h1 rfl hsz rfl rfl
  clear hA0 hval0 hsz0
  refine (swapVault_walk s1).mono fun e W' ⟨he, kw⟩ => ?_
  have bel : Below W.heap.size W W' := kw.below (Nat.le_refl _) fun _ h => h.elim
  subst he
  exact ⟨_, rfl, _, _, _, [], _, [], hW', trodAll_mk1 (shut_bool Try.underlying4 _), (trodAll_cons_mk (shut_int Try.underlying22 w0) (trodAll_cons_mk (Below.trod Facts.laid (by kernel_rfl) (of_decide_eq_true (by kernel_rfl)) k1 bel lt1) trodAll_mk0)), rfl, bel.frame _, fun h => by cases h⟩
set_option maxHeartbeats 4000000 in
theorem closed : joinedFacts Try.prog 21 Try.f21 Rows.swapVaultSpec Rows.swapVaultRow = true := by
  refine Facts.joined 21 Try.f21 Rows.swapVaultSpec Rows.swapVaultRow ?_ ?_ ?_ ?_ ?_ ?_ ?_ ?_ ?_ ?_ ?_ ?_ ?_ ?_ ?_ ?_ ?_ ?_ ?_ ?_ ?_ ?_ ?_ ?_ ?_ ?_ ?_ <;> exact (by as_aux_lemma => kernel_rfl)
set_option maxHeartbeats 4000000 in
theorem over : Rows.swapVaultRow.holds Try.pinned (OpenSpec.ofChange Rows.swapVaultSpec) :=
  OpenClaim.holds_of_wide 21 Try.f21 rfl rfl rfl rfl rfl rfl rfl ⟨rfl, rfl, rfl, rfl, rfl⟩ rfl rfl rfl rfl rfl (by as_aux_lemma => kernel_rfl) Try.func21 closed
    (of_decide_eq_true (by as_aux_lemma => kernel_rfl)) (by unfold Func.isWrapper; first | (rw [if_pos (by decide +kernel)]; kernel_rfl) | (rw [if_neg (by decide +kernel)]; exact ⟨rfl, rfl⟩))
    (fun os started H enc _ => lifted os started H enc)
theorem proved : Rows.SwapVaultSaid := over
end Go.Proofs.Ytaopjdjbpamhhaa.swapVault
namespace Go.Proofs.Ytaopjdjbpamhhaa
theorem swapVault_holds : Rows.SwapVaultSaid := swapVault.proved
#print axioms swapVault_holds
end Go.Proofs.Ytaopjdjbpamhhaa
