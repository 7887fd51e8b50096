/- Proved: the law SwapForgets returns true for all its arguments, and each argument reads afterwards as it read before. No condition beyond the statement's own. -/
import Derived.Test.YtaopjdjbpamhhaaPkP
import Derived.Deep.DeepCutAuto
import Derived.Test.YtaopjdjbpamhhaaRows
import Derived.Test.YtaopjdjbpamhhaaFacts
import Derived.Test.YtaopjdjbpamhhaaPkA
import Derived.ProofKit
import Derived.OpenShut
import Derived.ShutString
import Derived.ChangeOld
import Derived.ChangeMaps5
import Derived.SizedLaws
import Derived.Carry
/- Proved: the law function SwapForgets returns true for all its arguments. Conditions: bytes and deeds in memory. -/
namespace Go.Proofs.Ytaopjdjbpamhhaa
open Go Go.RowKit
set_option linter.unusedVariables false
set_option linter.unusedSimpArgs false

set_option maxRecDepth 100000 in
set_option maxHeartbeats 8000000 in
theorem swapForgets_walk {seed : Int} {D1 D2 D3 D4 : Nat → Prop} {w : World} {s : ByteArray} {v1 v2 v3 v4 : Value} {data pad : Bts} {la lb : List DeedK} (hs : s.size ≤ 140737488355328) (h1 : BV D1 w v1 data) (h2 : BV D2 w v2 pad) (h3 : SV deedEl D3 w v3 la) (h4 : SV deedEl D4 w v4 lb) :
    Calls Try.prog 16 #[.int .u64 seed, .string s, v1, v2, v3, v4] w fun e w' => e = .returned (.bool true) ∧ Kept Noneof w w' := by
  have HS := Lib.hid hs
  have H1 := Lib.hid (h1.bd byteEl_k)
  have H2 := Lib.hid (h2.bd byteEl_k)
  have H3 := Lib.hid (h3.bd deedEl_k)
  have H4 := Lib.hid (h4.bd deedEl_k)
  obtain ⟨a1, c1, rfl, _, m1, _⟩ := h1
  obtain ⟨a2, c2, rfl, _, m2, _⟩ := h2
  obtain ⟨a3, c3, rfl, _, m3, _⟩ := h3
  obtain ⟨a4, c4, rfl, _, m4, _⟩ := h4
  clear hs
  go_enter Try.func16, Try.ntmps16
  by_cases q1 : la.length + lb.length ≤ 60
  rotate_left
  · have q1' : decide ((60 : Int) < (la.length : Int) + (lb.length : Int)) = true := decide_eq_true (by omega)
    clear q1
    go_wp2
    go_ret
    exact ⟨rfl, Kept.refl _ _⟩
  have q1' : decide ((60 : Int) < (la.length : Int) + (lb.length : Int)) = false := decide_eq_false (by omega)
  by_cases q2 : data.length ≤ 2000
  rotate_left
  · have q2' : decide ((2000 : Int) < (data.length : Int)) = true := decide_eq_true (by omega)
    clear q1 q2
    go_wp2
    go_ret
    exact ⟨rfl, Kept.refl _ _⟩
  have q2' : decide ((2000 : Int) < (data.length : Int)) = false := decide_eq_false (by omega)
  by_cases q3 : pad.length ≤ 2000
  rotate_left
  · have q3' : decide ((2000 : Int) < (pad.length : Int)) = true := decide_eq_true (by omega)
    clear q1 q2 q3
    go_wp2
    go_ret
    exact ⟨rfl, Kept.refl _ _⟩
  have q3' : decide ((2000 : Int) < (pad.length : Int)) = false := decide_eq_false (by omega)
  by_cases q4 : s.size ≤ 2000
  rotate_left
  · have q4' : decide ((2000 : Int) < (s.size : Int)) = true := decide_eq_true (by omega)
    clear q1 q2 q3 q4
    go_wp2
    go_ret
    exact ⟨rfl, Kept.refl _ _⟩
  have q4' : decide ((2000 : Int) < (s.size : Int)) = false := decide_eq_false (by omega)
  have Q1 := Lib.hid q1
  clear q1 q2 q3 q4
  go_wp2_with fail
  clear q1' q2' q3' q4'
  refine (swNew_calls (seed := seed)).mono ?_
  rintro e w1 ⟨v, rfl, t1, k1, _⟩
  go_wp2_with fail
  refine (swNew_calls (seed := seed)).mono ?_
  rintro e w2 ⟨u, rfl, t2, k2, _⟩
  have VT := Lib.hid (show ∃ F1 F2, VTwo seed w.heap.size Noneof w2 v u [] [] F1 F2 from ⟨_, _, ⟨t1.still k2, t2, fun b hb => ⟨hb.1, Nat.lt_of_lt_of_le hb.2 k2.size⟩, fun b hb => ⟨Nat.le_trans k1.size hb.1, hb.2⟩, fun b hb hh => by have := hb.2; have := hh.1; omega, fun b hb => hb.elim, Nat.le_trans k1.size k2.size⟩⟩)
  have KW := Lib.hid (k1.tr k2)
  clear t1 t2 k1 k2
  obtain ⟨F1, F2, vt⟩ := VT.out
  clear VT
  have LT := Lib.hid (fun (D : Nat → Prop) b (h : D b ∧ b < w.heap.size) => h.2)
  go_wp2_with fail
  refine (vt.done (H3.out.still' KW.out) (fun b h => h.2) (by simp only [List.length_nil]; have := Q1.out; omega)).mono ?_
  rintro e w3 ⟨rfl, hv3, k3⟩
  have K3 := Lib.hid (KW.out.trans k3 fun b h => .inr h.1)
  obtain ⟨ba, hba⟩ : ∃ b, la.all (okD s) = b := ⟨_, rfl⟩
  rw [hba] at hv3 ⊢
  cases ba
  · clear hv3 k3 vt
    go_wp2
    go_ret
    exact ⟨rfl, K3.out⟩
  obtain ⟨F1, vt⟩ := hv3 rfl
  clear k3 KW
  go_wp2_with fail
  refine (vt.swap.done (H3.out.still' K3.out) (fun b h => h.2) (by simp only [List.length_nil]; have := Q1.out; omega)).mono ?_
  rintro e w4 ⟨rfl, hv4, k4⟩
  have K4 := Lib.hid (K3.out.trans k4 fun b h => .inr h.1)
  rw [hba] at hv4 ⊢
  obtain ⟨F2, vt⟩ := hv4 rfl
  have VT := Lib.hid vt.swap
  have hT : tget (deedsT [] la) (sB s) = none := by
    rw [deedsT_get fun d hd => okD_ne (List.all_eq_true.1 hba d hd)]
    rfl
  have HT := Lib.hid hT
  have LA := Lib.hid (show (deedsT [] la).length ≤ 60 by have := deedsT_len la []; simp only [List.length_nil] at this; have := Q1.out; omega)
  have LB := Lib.hid (show lb.length ≤ 60 by have := Q1.out; omega)
  clear hv4 k4 vt hba K3 hT H3 Q1
  generalize deedsT [] la = T at *
  go_wp2_with fail
  refine (VT.out.put (H1.out.still' K4.out) (H2.out.still' K4.out) (fun b h => .inl h.2) (fun b h => .inl h.2) (by have := LA.out; omega) HS.out).mono ?_
  rintro e w5 ⟨v5, F1', rfl, b5, vt5, k5⟩
  have GP := Lib.hid (putR_free (data := data) (pad := pad) HT.out)
  obtain ⟨p, hp⟩ : ∃ p, putR T (sB s) data pad = p := ⟨_, rfl⟩
  rw [hp] at b5 GP ⊢
  have RP := Lib.hid (show rputR [] (sB s) data pad = p by rw [rputR_nil]; exact GP.out.symm)
  have PZ := Lib.hid (show p = 0 → goodD (sB s) data pad = true from fun h => by
    have := GP.out
    rw [h] at this
    by_cases hg : goodD (sB s) data pad = true
    · exact hg
    · rw [if_neg hg] at this; omega)
  have SNZ := Lib.hid (show p = 0 → sealN p s = s ∧ sealB p data pad = xorB data pad from fun h => by rw [h]; exact ⟨rfl, rfl⟩)
  have SSZ := Lib.hid (show (sealN p s).size ≤ 140737488355328 by
    unfold sealN
    split
    · exact HS.out
    · exact Nat.zero_le _)
  generalize sealN p s = sn at *
  generalize sealB p data pad = sb at *
  have SB := Lib.hid b5
  obtain ⟨y1, y3, rfl, _⟩ := b5
  have K5 := Lib.hid (K4.out.trans k5 fun b h => .inr h.1)
  have VT5 := Lib.hid vt5
  have S4 := Lib.hid k5.size
  clear k5 vt5 hp GP VT
  go_upto_region 7 with (fail)
  have kA := (Kept.refl Noneof w5).alloc (.cells #[.string sn, .slice y1 sb.length y3] 105)
  have qA := Lib.hid (heap_alloc_new w5 (.cells #[.string sn, .slice y1 sb.length y3] 105))
  have sA : (w5.alloc (.cells #[.string sn, .slice y1 sb.length y3] 105)).heap.size = w5.heap.size + 1 := by simp
  generalize w5.alloc (.cells #[.string sn, .slice y1 sb.length y3] 105) = w6 at *
  have VT6 := Lib.hid ((VT5.out.still kA).more (fun b => b = w5.heap.size ∨ (w4.heap.size ≤ b ∧ b < w5.heap.size ∧ ¬ F1' b ∧ ¬ F2 b)) fun b hb => by
    rcases hb with rfl | hb
    · exact ⟨by omega, fun h => by have := (VT5.out.da _ h).2; omega, fun h => by have := (VT5.out.db _ h).2; omega⟩
    · exact ⟨by omega, hb.2.2⟩)
  replace SB := Lib.hid ((SB.out.still' kA).wide (D' := fun b => Noneof b ∨ (b = w5.heap.size ∨ (w4.heap.size ≤ b ∧ b < w5.heap.size ∧ ¬ F1' b ∧ ¬ F2 b))) byteEl_k fun b h _ => .inr (.inr h))
  have XC := Lib.hid (show (fun b => Noneof b ∨ (b = w5.heap.size ∨ (w4.heap.size ≤ b ∧ b < w5.heap.size ∧ ¬ F1' b ∧ ¬ F2 b))) w5.heap.size from .inr (.inl rfl))
  have K6 := Lib.hid (K5.out.tr kA)
  clear kA sA VT5 S4 K5 K4
  generalize (fun b => Noneof b ∨ (b = w5.heap.size ∨ (w4.heap.size ≤ b ∧ b < w5.heap.size ∧ ¬ F1' b ∧ ¬ F2 b))) = X at *
  generalize w5.heap.size = cB at *
  have LV := Lib.hid (show (vputT T (sB s) data pad).length ≤ 61 by have := vputT_len T (sB s) data pad; have := LA.out; omega)
  go_wp2_with fail
  refine (VT6.out.done (H4.out.still' K6.out) (fun b h => h.2) (by have := LV.out; have := LB.out; omega)).mono ?_
  rintro e w7 ⟨rfl, hv7, k7⟩
  have K7 := Lib.hid (K6.out.trans k7 fun b h => .inr h.1)
  obtain ⟨bb, hbb⟩ : ∃ b, lb.all (okD s) = b := ⟨_, rfl⟩
  rw [hbb] at hv7 ⊢
  cases bb
  · clear hv7 k7 VT6
    go_wp2
    go_ret
    exact ⟨rfl, K7.out⟩
  obtain ⟨F3, vt7⟩ := hv7 rfl
  replace SB := Lib.hid (SB.out.kept byteEl_k k7 fun b h _ hh => hh.2 h)
  replace qA := Lib.hid (k7.obj (fun hh => hh.2 XC.out) qA.out)
  have VT7 := Lib.hid vt7
  clear hv7 k7 VT6 K6 vt7
  go_wp2_with fail
  refine (VT7.out.swap.done (H4.out.still' K7.out) (fun b h => h.2) (by have := LA.out; have := LB.out; omega)).mono ?_
  rintro e w8 ⟨rfl, hv8, k8⟩
  have K8 := Lib.hid (K7.out.trans k8 fun b h => .inr h.1)
  have ALL := Lib.hid (show ∀ d ∈ lb, sB d.2.1 ≠ sB s from fun d hd => okD_ne (List.all_eq_true.1 hbb d hd))
  rw [hbb] at hv8 ⊢
  obtain ⟨F4, vt8⟩ := hv8 rfl
  replace SB := Lib.hid (SB.out.kept byteEl_k k8 fun b h _ hh => hh.2 h)
  replace qA := Lib.hid (k8.obj (fun hh => hh.2 XC.out) qA.out)
  have VT8 := Lib.hid vt8.swap
  clear hv8 k8 VT7 K7 vt8 hbb H4
  have DEL := Lib.hid (show tdel (deedsT (vputT T (sB s) data pad) lb) (sB s) = deedsT T lb by rw [deedsT_del ALL.out, vputT_del HT.out])
  have GET2 := Lib.hid (show tget (deedsT T lb) (sB s) = none by rw [deedsT_get ALL.out]; exact HT.out)
  have OPN := Lib.hid (show p = 0 → openK (tget (deedsT (vputT T (sB s) data pad) lb) (sB s)) (xorB data pad) = (0, data) from fun h => open_good (PZ.out h) HT.out (deedsT_get ALL.out))
  have DRP := Lib.hid (show p = 0 → dropE (deedsT (vputT T (sB s) data pad) lb) (sB s) = 0 from fun h => by
    have e : tget (vputT T (sB s) data pad) (sB s) = some (1 :: pad) := by
      unfold vputT
      rw [if_pos ⟨PZ.out h, HT.out⟩]
      exact tget_tput_eq
    unfold dropE
    rw [deedsT_get ALL.out, e]
    rfl)
  clear ALL HT LV LA LB
  generalize deedsT (vputT T (sB s) data pad) lb = U1 at *
  generalize deedsT T lb = U2 at *
  go_wp2_with fail
  refine (r7Put_calls (D := Noneof) (l := []) ⟨none, 0, rfl, ⟨by simp, fun _ => rfl⟩, by simp, Rd.nil _ _ _ _⟩ (H1.out.still' K8.out) (H2.out.still' K8.out) (by simp) HS.out).mono ?_
  rintro e w9 ⟨x9, y9, rfl, b9, s9, k9⟩
  rw [RP.out] at b9 ⊢
  obtain ⟨xa, xn, xc, rfl⟩ := b9.sl
  obtain ⟨ya, yc, rfl, _⟩ := s9
  have K9 := Lib.hid (K8.out.tr k9)
  replace VT8 := Lib.hid (VT8.out.still k9)
  replace SB := Lib.hid (SB.out.still' k9)
  replace qA := Lib.hid (k9.obj (fun h => h) qA.out)
  clear b9 k9 K8
  generalize (rputL [] (sB s) data pad).length = yn at *
  generalize sealN p s = sn2 at *
  go_upto_region 10 with (fail)
  have kB := (Kept.refl Noneof w9).alloc (.cells #[.string sn2, .slice xa xn xc] 105)
  generalize w9.alloc (.cells #[.string sn2, .slice xa xn xc] 105) = wa at *
  have KA := Lib.hid (K9.out.tr kB)
  replace VT8 := Lib.hid (VT8.out.still kB)
  replace SB := Lib.hid (SB.out.still' kB)
  replace qA := Lib.hid (kB.obj (fun h => h) qA.out)
  clear kB K9
  have l0 := (Kept.refl Noneof wa).obj (fun h => h) qA.out
  have c0 : wa.cell? ⟨cB, 0, none⟩ = some (.string sn) := by simp [World.cell?, qA.out]
  have c1 : wa.cell? ⟨cB, 1, none⟩ = some (.slice y1 sb.length y3) := by simp [World.cell?, qA.out]
  clear l0
  go_wp2_with fail
  refine (vOpen_calls VT8.out.a SB.out SSZ.out).mono ?_
  rintro e wb ⟨vb, rfl, ob, kb⟩
  obtain ⟨⟨er, rb⟩, hop⟩ : ∃ r, openK (tget U1 (sB sn)) sb = r := ⟨_, rfl⟩
  rw [hop] at ob ⊢
  have KB := Lib.hid (KA.out.tr kb)
  replace VT8 := Lib.hid (VT8.out.still kb)
  replace SB := Lib.hid (SB.out.still' kb)
  replace qA := Lib.hid (kb.obj (fun h => h) qA.out)
  have OB := Lib.hid ob
  obtain ⟨o1, o2, o3, rfl⟩ := ob.slice'
  have OE := Lib.hid hop
  have sl := Lib.hid (show sb.length = sb.length from rfl)
  clear ob kb c0 c1 hop sl KA
  by_cases hp0 : p = 0
  focus
    have DR := Lib.hid (DRP.out hp0)
    have hop := OPN.out hp0
    obtain ⟨rfl, hsb⟩ := SNZ.out hp0
    clear DRP OPN SNZ PZ
    subst hp0
    rw [← hsb, OE.out] at hop
    obtain ⟨rfl, rfl⟩ := Prod.mk.inj hop
    clear hop hsb OE
    go_wp2_with fail
    refine (r2Compare_calls OB.out.sv (H1.out.still' KB.out)).mono ?_
    rintro e wc ⟨rfl, d⟩
    rw [cmpB_self]
    have kc := (Kept.refl Noneof wb).drewn d
    replace KB := Lib.hid (KB.out.tr kc)
    replace VT8 := Lib.hid (VT8.out.still kc)
    replace SB := Lib.hid (SB.out.still' kc)
    replace qA := Lib.hid (kc.obj (fun h => h) qA.out)
    clear kc d OB
    (
    go_wp2_with fail
    refine (VT8.out.forget HS.out).mono ?_
    rintro e wd ⟨rfl, vt9, kd⟩
    rw [DEL.out] at vt9
    have KD := Lib.hid (KB.out.trans kd fun b h => .inr h.1)
    replace SB := Lib.hid (SB.out.kept byteEl_k kd fun b h _ hh => hh.2 h)
    replace qA := Lib.hid (kd.obj (fun hh => hh.2 XC.out) qA.out)
    have VT9 := Lib.hid vt9
    have c0 : wd.cell? ⟨cB, 0, none⟩ = some (.string sn) := by simp [World.cell?, qA.out]
    have c1 : wd.cell? ⟨cB, 1, none⟩ = some (.slice y1 sb.length y3) := by simp [World.cell?, qA.out]
    clear kd vt9 VT8 KB)
    rw [DR.out]
    (
    go_wp2_with fail
    refine (vOpen_calls VT9.out.a SB.out SSZ.out).mono ?_
    rintro e we ⟨ve, rfl, oe, ke⟩
    obtain ⟨z1, z2, z3, rfl⟩ := oe.slice'
    have KE := Lib.hid (KD.out.tr ke)
    replace VT9 := Lib.hid (VT9.out.still ke)
    clear oe ke c0 c1 KD)
    have e3 : openK (tget U2 (sB sn)) sb = (3, []) := by rw [GET2.out]; rfl
    rw [e3]
    go_upto_region 17 with (fail)
  rotate_left
  focus
    have hp' : (p == 0) = false := by simpa using hp0
    clear OE OB hp0 DRP OPN SNZ PZ
    (
    go_wp2_with fail
    refine (VT8.out.forget HS.out).mono ?_
    rintro e wd ⟨rfl, vt9, kd⟩
    rw [DEL.out] at vt9
    have KD := Lib.hid (KB.out.trans kd fun b h => .inr h.1)
    replace SB := Lib.hid (SB.out.kept byteEl_k kd fun b h _ hh => hh.2 h)
    replace qA := Lib.hid (kd.obj (fun hh => hh.2 XC.out) qA.out)
    have VT9 := Lib.hid vt9
    have c0 : wd.cell? ⟨cB, 0, none⟩ = some (.string sn) := by simp [World.cell?, qA.out]
    have c1 : wd.cell? ⟨cB, 1, none⟩ = some (.slice y1 sb.length y3) := by simp [World.cell?, qA.out]
    clear kd vt9 VT8 KB)
    generalize dropE U1 (sB s) = fr at *
    (
    go_wp2_with fail
    refine (vOpen_calls VT9.out.a SB.out SSZ.out).mono ?_
    rintro e we ⟨ve, rfl, oe, ke⟩
    obtain ⟨z1, z2, z3, rfl⟩ := oe.slice'
    have KE := Lib.hid (KD.out.tr ke)
    replace VT9 := Lib.hid (VT9.out.still ke)
    clear oe ke c0 c1 KD)
    generalize (openK (tget U2 (sB sn)) sb).1 = er2 at *
    go_upto_region 17 with (fail)
  rotate_left
  all_goals
    go_wp2_with fail
    refine (vImage_calls VT9.out.a).mono ?_
    rintro e wf ⟨vf, rfl, oF, kf⟩
    obtain ⟨i1, i3, hvi⟩ := oF.slice
    subst hvi
    have hpos : 4 ≤ (imgT seed U2).length := imgT_pos seed U2
    have KF := Lib.hid (KE.out.tr kf)
    replace VT9 := Lib.hid (VT9.out.still kf)
    obtain ⟨il, hil⟩ : ∃ n, (imgT seed U2).length = n := ⟨_, rfl⟩
    rw [hil] at hpos ⊢
    have hpos' : decide ((0 : Int) < (il : Int)) = true := decide_eq_true (by omega)
    clear oF kf KE hil SB qA
    go_wp2_with fail
    refine (vImage_calls VT9.out.a).mono ?_
    rintro e wg ⟨vg, rfl, og, kg⟩
    have OG := Lib.hid og.sv
    obtain ⟨g1, g2, g3, rfl⟩ := og.slice'
    have KG := Lib.hid (KF.out.tr kg)
    replace VT9 := Lib.hid (VT9.out.still kg)
    clear og kg KF
    go_wp2_with fail
    refine (vImage_calls VT9.out.b).mono ?_
    rintro e wh ⟨vh, rfl, oh, kh⟩
    have OH := Lib.hid oh.sv
    replace OG := Lib.hid (OG.out.still' kh)
    obtain ⟨h1, h2, h3, rfl⟩ := oh.slice'
    have KH := Lib.hid (KG.out.tr kh)
    clear oh kh KG VT9
    go_wp2_with fail
    refine (r2Compare_calls OG.out OH.out).mono ?_
    rintro e wi ⟨rfl, d⟩
    rw [cmpB_self]
    have KI := Lib.hid (KH.out.drewn d)
    clear d OG OH KH
    go_wp2
    go_ret
    exact ⟨rfl, KI.out⟩
end Go.Proofs.Ytaopjdjbpamhhaa
/- Proved: the law SwapForgets returns true for all its arguments, and each argument reads afterwards as it read before. No condition beyond the statement's own. -/
namespace Go.Proofs.Ytaopjdjbpamhhaa.swapForgets
open Go.ChangeShapes Go.WideShapes Go.ChangeAt Go.RowKit
open Go.ChangeMaps (open_string shut_string)
set_option linter.unusedVariables false
theorem opensByte : Opens Try.prog 5 byteEl := opens_byte Try.underlying5
theorem opensDeed : Opens Try.prog 126 deedEl := opens_deed (ti := 3) (tt := 9) (t := 31) (e := 5) (Try.underlying126) rfl rfl rfl rfl rfl rfl rfl rfl (by kernel_rfl) (by kernel_rfl) (by kernel_rfl) (by kernel_rfl) Try.underlying3 Try.underlying9 Try.underlying31 Try.underlying5 (by kernel_rfl) (of_decide_eq_true (by kernel_rfl))
set_option maxRecDepth 100000 in
theorem lifted (os : Os) (started : os.Started) (H : Type) (enc : TypeId × Value → H) :
    ReturnsInHanded {} Try.checked os 16 .any (Rows.swapForgetsSpec.pre6 enc Try.prog Try.f16 Rows.swapForgetsRow.domain false) (Rows.swapForgetsSpec.post enc Try.prog Try.f16 false true false false) := by
  refine returnsInHanded_of_change_sized (C := Try.checked) Facts.own started (by kernel_rfl) Try.func16
    (ChangeSpec.witness6 (enc := enc) (C := Try.checked) false ⟨#[], #[.int .u64 0, .string ⟨#[]⟩, .slice none 0 0, .slice none 0 0, .slice none 0 0, .slice none 0 0], []⟩ 8 (by kernel_rfl) (by kernel_rfl) (by kernel_rfl) (by kernel_rfl)) ?_
  intro W base args ds gs before hval0 hW hcnd hsz0 _
  have hsz : (DataW.weightsEach Try.prog (Try.f16.params.toList ++ Rows.swapForgetsSpec.plain.varTypes Try.prog) (ds ++ gs)).all (· ≤ reachBytes) = true := hsz0
  have hval : ∀ (j : Nat) t v, Try.f16.params[j]? = some t → args[j]? = some v → Value.okWide Try.prog W .any base t v := hval0
  have hW' := hW
  obtain ⟨p, q, hA0, hV, rfl, hfz, hnd⟩ := hW
  have hA : DataW.TrodAll enc Try.prog W 0 (fun _ => true) true Try.f16.params.toList args.toList ds p := hA0
  rw [Try.params16] at hA hval hsz
  obtain ⟨v0, vs0, d0, ds0, p0, q0, hargs, rfl, rfl, h0, r0⟩ := trodAll_cons hA
  obtain ⟨v1, vs1, d1, ds1, p1, q1, rfl, rfl, rfl, h1, r1⟩ := trodAll_cons r0
  obtain ⟨v2, vs2, d2, ds2, p2, q2, rfl, rfl, rfl, h2, r2⟩ := trodAll_cons r1
  obtain ⟨v3, vs3, d3, ds3, p3, q3, rfl, rfl, rfl, h3, r3⟩ := trodAll_cons r2
  obtain ⟨v4, vs4, d4, ds4, p4, q4, rfl, rfl, rfl, h4, r4⟩ := trodAll_cons r3
  obtain ⟨v5, vs5, d5, ds5, p5, q5, rfl, rfl, rfl, h5, r5⟩ := trodAll_cons r4
  obtain ⟨rfl, rfl, rfl⟩ := trodAll_nil r5
  obtain rfl : args = #[v0, v1, v2, v3, v4, v5] := by cases args; simp_all
  obtain ⟨rfl, rfl⟩ := trodVars_none hV
  obtain ⟨a0, rfl, rfl, rfl, w0⟩ := open_int Try.underlying22 (hval 0 22 v0 rfl rfl) h0
  obtain ⟨a1, rfl, rfl, rfl, w1⟩ := open_string Try.underlying9 (hval 1 9 v1 rfl rfl) h1
  obtain ⟨a2, len2, cap2, rfl⟩ := okWide_slice Try.underlying31 (hval 2 31 v2 rfl rfl)
  obtain ⟨a3, len3, cap3, rfl⟩ := okWide_slice Try.underlying31 (hval 3 31 v3 rfl rfl)
  obtain ⟨a4, len4, cap4, rfl⟩ := okWide_slice Try.underlying100 (hval 4 100 v4 rfl rfl)
  obtain ⟨a5, len5, cap5, rfl⟩ := okWide_slice Try.underlying100 (hval 5 100 v5 rfl rfl)
  have k2 := h2
  have lt2 : ∀ x ∈ p2, x.block < W.heap.size := by obtain ⟨m, hm⟩ := k2; exact DataW.trod_lt m _ _ _ hm
  have k3 := h3
  have lt3 : ∀ x ∈ p3, x.block < W.heap.size := by obtain ⟨m, hm⟩ := k3; exact DataW.trod_lt m _ _ _ hm
  have k4 := h4
  have lt4 : ∀ x ∈ p4, x.block < W.heap.size := by obtain ⟨m, hm⟩ := k4; exact DataW.trod_lt m _ _ _ hm
  have k5 := h5
  have lt5 : ∀ x ∈ p5, x.block < W.heap.size := by obtain ⟨m, hm⟩ := k5; exact DataW.trod_lt m _ _ _ hm
  obtain ⟨l2, s2⟩ := open_arg (E := byteEl) (j := 2) byteEl_k opensByte Try.underlying31 (by kernel_rfl) (of_decide_eq_true (by kernel_rfl)) h2 rfl hsz rfl rfl
  obtain ⟨l3, s3⟩ := open_arg (E := byteEl) (j := 3) byteEl_k opensByte Try.underlying31 (by kernel_rfl) (of_decide_eq_true (by kernel_rfl)) h3 rfl hsz rfl rfl
  obtain ⟨l4, s4⟩ := open_arg (E := deedEl) (j := 4) deedEl_k opensDeed Try.underlying100 (by kernel_rfl) (of_decide_eq_true (by kernel_rfl)) h4 rfl hsz rfl rfl
  obtain ⟨l5, s5⟩ := open_arg (E := deedEl) (j := 5) deedEl_k opensDeed Try.underlying100 (by kernel_rfl) (of_decide_eq_true (by kernel_rfl)) h5 rfl hsz rfl rfl
  have z1 : a1.size ≤ 140737488355328 := by
    have h := sized_string (j := 1) hsz rfl rfl
    have e : a1.data.toList.length = a1.size := by rw [Array.length_toList]; rfl
    have r : reachBytes = 140737488351232 := by decide
    omega
  clear hA0 hval0 hsz0
  refine (swapForgets_walk z1 s2 s3 s4 s5).mono fun e W' ⟨he, kw⟩ => ?_
  have bel : Below W.heap.size W W' := kw.below (Nat.le_refl _) fun _ h => h.elim
  subst he
  exact ⟨_, rfl, _, _, _, [], _, [], hW', trodAll_mk1 (shut_bool Try.underlying4 _), (trodAll_cons_mk (shut_int Try.underlying22 w0) (trodAll_cons_mk (shut_string Try.underlying9 w1) (trodAll_cons_mk (Below.trod Facts.laid (by kernel_rfl) (of_decide_eq_true (by kernel_rfl)) k2 bel lt2) (trodAll_cons_mk (Below.trod Facts.laid (by kernel_rfl) (of_decide_eq_true (by kernel_rfl)) k3 bel lt3) (trodAll_cons_mk (Below.trod Facts.laid (by kernel_rfl) (of_decide_eq_true (by kernel_rfl)) k4 bel lt4) (trodAll_cons_mk (Below.trod Facts.laid (by kernel_rfl) (of_decide_eq_true (by kernel_rfl)) k5 bel lt5) trodAll_mk0)))))), rfl, bel.frame _, fun h => by cases h⟩
set_option maxHeartbeats 4000000 in
theorem closed : joinedFacts Try.prog 16 Try.f16 Rows.swapForgetsSpec Rows.swapForgetsRow = true := by
  refine Facts.joined 16 Try.f16 Rows.swapForgetsSpec Rows.swapForgetsRow ?_ ?_ ?_ ?_ ?_ ?_ ?_ ?_ ?_ ?_ ?_ ?_ ?_ ?_ ?_ ?_ ?_ ?_ ?_ ?_ ?_ ?_ ?_ ?_ ?_ ?_ ?_ <;> exact (by as_aux_lemma => kernel_rfl)
set_option maxHeartbeats 4000000 in
theorem over : Rows.swapForgetsRow.holds Try.pinned (OpenSpec.ofChange Rows.swapForgetsSpec) :=
  OpenClaim.holds_of_wide 16 Try.f16 rfl rfl rfl rfl rfl rfl rfl ⟨rfl, rfl, rfl, rfl, rfl⟩ rfl rfl rfl rfl rfl (by as_aux_lemma => kernel_rfl) Try.func16 closed
    (of_decide_eq_true (by as_aux_lemma => kernel_rfl)) (by unfold Func.isWrapper; first | (rw [if_pos (by decide +kernel)]; kernel_rfl) | (rw [if_neg (by decide +kernel)]; exact ⟨rfl, rfl⟩))
    (fun os started H enc _ => lifted os started H enc)
theorem proved : Rows.SwapForgetsSaid := over
end Go.Proofs.Ytaopjdjbpamhhaa.swapForgets
namespace Go.Proofs.Ytaopjdjbpamhhaa
theorem swapForgets_holds : Rows.SwapForgetsSaid := swapForgets.proved
#print axioms swapForgets_holds
end Go.Proofs.Ytaopjdjbpamhhaa
