/- Proved: the law SwapMirrors returns true for every seed and all pairs, and each argument reads afterwards as it read before. No condition beyond the statement's own. -/
import Derived.Test.YtaopjdjbpamhhaaPkE
import Derived.Test.YtaopjdjbpamhhaaRows
import Derived.Test.YtaopjdjbpamhhaaFacts
import Derived.Test.YtaopjdjbpamhhaaPkA
import Derived.ProofKit
import Derived.OpenShut
import Derived.ShutString
import Derived.ChangeOld
import Derived.SizedLaws
import Derived.Carry
/- Proved: contract of the law SwapMirrors' own code. Conditions: pairs in memory. -/
namespace Go.Proofs.Ytaopjdjbpamhhaa
open Go Go.RowKit
set_option linter.unusedVariables false
set_option linter.unusedSimpArgs false

theorem mirT_size (seed : Int) {u t : Tr} (hu : u.good seed) (ht : t.good seed) : (mirT seed u t).size ≤ u.size + t.size := by
  rw [← refT_mirT hu ht]
  exact refT_size seed t u [] [] false
theorem mirT_ok (seed : Int) {u t : Tr} (hu : u.good seed) (ht : t.good seed) (uo : u.ok) (tok : t.ok) : (mirT seed u t).ok := by
  rw [← refT_mirT hu ht]
  exact refT_ok seed tok uo

set_option maxRecDepth 100000 in
set_option maxHeartbeats 4000000 in
theorem swapMirrors_walk {seed : Int} {D1 D2 : Nat → Prop} {w : World} {v1 v2 : Value} {l1 l2 : List (Bts × Bts)} (h1 : SV pairEl D1 w v1 l1) (h2 : SV pairEl D2 w v2 l2) :
    Calls Try.prog 18 #[.int .u64 seed, v1, v2] w fun e w' => e = .returned (.bool true) ∧ Kept Noneof w w' := by
  (
  have H1 := Lib.hid h1
  have H2 := Lib.hid h2
  obtain ⟨a1, c1, rfl, _⟩ := h1
  obtain ⟨a2, c2, rfl, _⟩ := h2
  go_enter Try.func18, Try.ntmps18
  go_wp2_with fail
  refine (l7few_calls H1.out).mono ?_
  rintro e w1 ⟨rfl, k1⟩
  have K1 := Lib.hid k1
  clear k1
  cases hf1 : fewK l1
  · go_wp2
    go_ret
    exact ⟨rfl, K1.out⟩
  have F1 := Lib.hid hf1
  clear hf1
  go_wp2_with fail
  refine (l7few_calls (H2.out.kept pairEl_k K1.out fun _ _ _ h => h)).mono ?_
  rintro e w2 ⟨rfl, k2⟩
  have K2 := Lib.hid (K1.out.tr k2)
  clear k2
  cases hf2 : fewK l2
  · go_wp2
    go_ret
    exact ⟨rfl, K2.out⟩
  have F2 := Lib.hid hf2
  clear hf2
  go_wp2_with fail
  refine (l7filled_calls (seed := seed) (H1.out.kept pairEl_k K2.out fun _ _ _ h => h) F1.out).mono ?_
  rintro e w3 ⟨m1, G1, rfl, hm1, hg1, _, k3⟩
  have K3 := Lib.hid (K2.out.tr k3)
  have M1 := Lib.hid (hm1.wide (F' := fun b => w.heap.size ≤ b ∧ b < w3.heap.size) fun b h hl => ⟨Nat.le_trans K2.out.size (hg1 b h), hl⟩)
  clear hm1 hg1 k3
  go_wp2_with fail
  refine (l7filled_calls (seed := seed) (H2.out.kept pairEl_k K3.out fun _ _ _ h => h) F2.out).mono ?_
  rintro e w4 ⟨m2, G2, rfl, hm2, hg2, hlo, k4⟩
  have K4 := Lib.hid (K3.out.tr k4)
  have M1b := Lib.hid (M1.out.kept k4 fun _ _ h => h)
  have NE := Lib.hid (show m1 ≠ m2 by have := M1.out.lt; omega)
  have M2 := Lib.hid (hm2.wide (F' := fun b => w3.heap.size ≤ b ∧ b < w4.heap.size) fun b h hl => ⟨hg2 b h, hl⟩)
  have W3 := Lib.hid (show w.heap.size ≤ w3.heap.size from K3.out.size)
  clear hm2 hg2 k4 hlo M1
  have z1 := Lib.hid (Nat.le_trans (fillT_size seed l1) (fewK_iff F1.out).1)
  have z2 := Lib.hid (Nat.le_trans (fillT_size seed l2) (fewK_iff F2.out).1)
  have E1 := Lib.hid (fillT_pairs seed l1)
  have E2 := Lib.hid (fillT_pairs seed l2)
  have T1 := Lib.hid (fillT_good seed l1)
  have T2 := Lib.hid (fillT_good seed l2)
  have O1 := Lib.hid (fillT_okP (seed := seed) (fewK_iff F1.out).2)
  have O2 := Lib.hid (fillT_okP (seed := seed) (fewK_iff F2.out).2))
  go_wp2_with fail
  refine (swMirror_calls (t := fillT seed l1) (u := fillT seed l2) M1b.out M2.out NE.out (Tr.good_srt T2.out) O1.out (by have := z1.out; omega) (by have := z2.out; omega) (by have := z1.out; have := z2.out; omega) fun b h => h.2).mono ?_
  rintro e w5 ⟨v5, G3, rfl, s5, m5, hg3, k5⟩
  have K5 := Lib.hid (K4.out.trans k5 fun b h => .inr (by have := W3.out; omega))
  have M1c := Lib.hid (M1b.out.kept k5 fun b h hh => by omega)
  have M2c := Lib.hid (show MapAt seed w5 m2 (mirT seed (fillT seed l2) (fillT seed l1)) G3 from m5)
  have S5 := Lib.hid (s5.any msgEl_k)
  obtain ⟨x1, y1, q1, rfl⟩ := s5.slice'
  clear s5 m5 hg3 k5 M1b M2
  go_wp2_with fail
  refine (l7sorted_calls (H1.out.still pairEl_k K5.out) (fewK_iff F1.out).1).mono ?_
  rintro e w6 ⟨v6, rfl, s6, k6⟩
  have K6 := Lib.hid (K5.out.tr k6)
  have M1d := Lib.hid (M1c.out.kept k6 fun _ _ h => h)
  have M2d := Lib.hid (M2c.out.kept k6 fun _ _ h => h)
  have S5b := Lib.hid (S5.out.still msgEl_k k6)
  rw [← E1.out] at s6
  have S6 := Lib.hid s6
  obtain ⟨x2, y2, q2, rfl⟩ := s6.slice'
  clear s6 k6 M1c M2c S5
  go_wp2_with fail
  refine (l7sorted_calls (H2.out.still pairEl_k K6.out) (fewK_iff F2.out).1).mono ?_
  rintro e w7 ⟨v7, rfl, s7, k7⟩
  have K7 := Lib.hid (K6.out.tr k7)
  have M1e := Lib.hid (M1d.out.kept k7 fun _ _ h => h)
  have M2e := Lib.hid (M2d.out.kept k7 fun _ _ h => h)
  have S5c := Lib.hid (S5b.out.still msgEl_k k7)
  have S6b := Lib.hid (S6.out.still pairEl_k k7)
  rw [← E2.out] at s7
  have S7 := Lib.hid s7
  obtain ⟨x3, y3, q3, rfl⟩ := s7.slice'
  clear s7 k7 M1d M2d S5b S6
  go_wp2_with fail
  refine (r7Mirror_calls T1.out O1.out T2.out O2.out (by have := z1.out; have := z2.out; omega) S6b.out S7.out).mono ?_
  rintro e w8 ⟨vm, vt, rfl, sm, st, k8⟩
  have K8 := Lib.hid (K7.out.tr k8)
  have M1f := Lib.hid (M1e.out.kept k8 fun _ _ h => h)
  have M2f := Lib.hid (M2e.out.kept k8 fun _ _ h => h)
  have S5d := Lib.hid (S5c.out.still msgEl_k k8)
  have SM := Lib.hid sm
  have ST := Lib.hid st
  obtain ⟨x4, y4, q4, rfl⟩ := sm.slice'
  obtain ⟨x5, y5, q5, rfl⟩ := st.slice'
  clear sm st k8 M1e M2e S5c S6b S7
  go_upto_region 6 with (fail)
  have G11 := heap_alloc_new w8 (talkObj (.slice x4 y4 q4) (.slice x5 y5 q5))
  have k9 := (Kept.refl Noneof w8).alloc (talkObj (.slice x4 y4 q4) (.slice x5 y5 q5))
  unfold talkObj at G11 k9
  generalize w8.alloc (.cells #[.slice x4 y4 q4, .slice x5 y5 q5] 90) = w9 at *
  have K9 := Lib.hid (K8.out.tr k9)
  have M1g := Lib.hid (M1f.out.kept k9 fun _ _ h => h)
  have M2g := Lib.hid (M2f.out.kept k9 fun _ _ h => h)
  have S5e := Lib.hid (S5d.out.still msgEl_k k9)
  have SM9 := Lib.hid (SM.out.still msgEl_k k9)
  have ST9 := Lib.hid (ST.out.still pairEl_k k9)
  have G11 := Lib.hid G11
  clear k9 M1f M2f S5d SM ST K8
  have c0 : w9.cell? ⟨w8.heap.size, 0, none⟩ = some (.slice x4 y4 q4) := by simp [World.cell?, G11.out]
  go_wp2_with fail
  refine (r7Same_calls S5e.out SM9.out).mono ?_
  rintro e wa ⟨rfl, ka⟩
  have KA := Lib.hid (K9.out.tr ka)
  have M1h := Lib.hid (M1g.out.kept ka fun _ _ h => h)
  have M2h := Lib.hid (M2g.out.kept ka fun _ _ h => h)
  have STa := Lib.hid (ST9.out.still pairEl_k ka)
  have Ga := Lib.hid (ka.obj (fun h => h) G11.out)
  clear ka c0 M1g M2g ST9 G11 K9
  go_wp2_with fail
  refine (l7sorted_calls (H1.out.still pairEl_k KA.out) (fewK_iff F1.out).1).mono ?_
  rintro e wb ⟨vb, rfl, sb, kb⟩
  have KB := Lib.hid (KA.out.tr kb)
  have M1i := Lib.hid (M1h.out.kept kb fun _ _ h => h)
  have M2i := Lib.hid (M2h.out.kept kb fun _ _ h => h)
  have STb := Lib.hid (STa.out.still pairEl_k kb)
  have Gb := Lib.hid (kb.obj (fun h => h) Ga.out)
  rw [← E1.out] at sb
  have SB := Lib.hid sb
  obtain ⟨x6, y6, q6, rfl⟩ := sb.slice'
  clear sb kb M1h M2h STa Ga KA
  go_wp2_with fail
  refine (l7is_calls M1i.out (by have := z1.out; show (fillT seed l1).size ≤ _; omega) T1.out O1.out (by have := z1.out; omega) SB.out).mono ?_
  rintro e wc ⟨rfl, kc⟩
  have hb : (cmpB (imgT (putAll seed .nil l1)) (imgT (fillT seed l1)) == 0) = true := cmpB_beq _
  rw [hb]
  have KC := Lib.hid (KB.out.tr kc)
  have M2j := Lib.hid (M2i.out.kept kc fun _ _ h => h)
  have STc := Lib.hid (STb.out.still pairEl_k kc)
  have Gc := Lib.hid (kc.obj (fun h => h) Gb.out)
  clear hb kc M1i M2i STb Gb KB SB
  have c1 : wc.cell? ⟨w8.heap.size, 1, none⟩ = some (.slice x5 y5 q5) := by simp [World.cell?, Gc.out]
  have MS := Lib.hid (mirT_size seed T2.out T1.out)
  go_wp2_with fail
  refine (l7is_calls M2j.out (by have := z1.out; have := z2.out; have := MS.out; omega) (mirT_good T2.out) (mirT_ok seed T2.out T1.out O2.out O1.out) (by have := z1.out; have := z2.out; have := MS.out; omega) STc.out).mono ?_
  rintro e wd ⟨rfl, kd⟩
  rw [cmpB_beq]
  have KD := Lib.hid (KC.out.tr kd)
  clear kd c1
  go_wp2
  go_ret
  exact ⟨rfl, KD.out⟩
end Go.Proofs.Ytaopjdjbpamhhaa
/- Proved: the law SwapMirrors returns true for every seed and all pairs, and each argument reads afterwards as it read before. No condition beyond the statement's own. -/
namespace Go.Proofs.Ytaopjdjbpamhhaa.swapMirrors
open Go.ChangeShapes Go.WideShapes Go.ChangeAt Go.RowKit
set_option linter.unusedVariables false
theorem opensPair : Opens Try.prog 70 pairEl := opens_pair (t := 31) (e := 5) (Try.underlying70) rfl rfl rfl rfl (by kernel_rfl) (by kernel_rfl) Try.underlying31 Try.underlying5 (by kernel_rfl) (of_decide_eq_true (by kernel_rfl))
set_option maxRecDepth 100000 in
theorem lifted (os : Os) (started : os.Started) (H : Type) (enc : TypeId × Value → H) :
    ReturnsInHanded {} Try.checked os 18 .any (Rows.swapMirrorsSpec.pre6 enc Try.prog Try.f18 Rows.swapMirrorsRow.domain false) (Rows.swapMirrorsSpec.post enc Try.prog Try.f18 false true false false) := by
  refine returnsInHanded_of_change_sized (C := Try.checked) Facts.own started (by kernel_rfl) Try.func18
    (ChangeSpec.witness6 (enc := enc) (C := Try.checked) false ⟨#[], #[.int .u64 0, .slice none 0 0, .slice none 0 0], []⟩ 8 (by kernel_rfl) (by kernel_rfl) (by kernel_rfl) (by kernel_rfl)) ?_
  intro W base args ds gs before hval0 hW hcnd hsz0 _
  have hsz : (DataW.weightsEach Try.prog (Try.f18.params.toList ++ Rows.swapMirrorsSpec.plain.varTypes Try.prog) (ds ++ gs)).all (· ≤ reachBytes) = true := hsz0
  have hval : ∀ (j : Nat) t v, Try.f18.params[j]? = some t → args[j]? = some v → Value.okWide Try.prog W .any base t v := hval0
  have hW' := hW
  obtain ⟨p, q, hA0, hV, rfl, hfz, hnd⟩ := hW
  have hA : DataW.TrodAll enc Try.prog W 0 (fun _ => true) true Try.f18.params.toList args.toList ds p := hA0
  rw [Try.params18] at hA hval hsz
  obtain ⟨v0, vs0, d0, ds0, p0, q0, hargs, rfl, rfl, h0, r0⟩ := trodAll_cons hA
  obtain ⟨v1, vs1, d1, ds1, p1, q1, rfl, rfl, rfl, h1, r1⟩ := trodAll_cons r0
  obtain ⟨v2, vs2, d2, ds2, p2, q2, rfl, rfl, rfl, h2, r2⟩ := trodAll_cons r1
  obtain ⟨rfl, rfl, rfl⟩ := trodAll_nil r2
  obtain rfl : args = #[v0, v1, v2] := by cases args; simp_all
  obtain ⟨rfl, rfl⟩ := trodVars_none hV
  obtain ⟨a0, rfl, rfl, rfl, w0⟩ := open_int Try.underlying22 (hval 0 22 v0 rfl rfl) h0
  obtain ⟨a1, len1, cap1, rfl⟩ := okWide_slice Try.underlying65 (hval 1 65 v1 rfl rfl)
  obtain ⟨a2, len2, cap2, rfl⟩ := okWide_slice Try.underlying65 (hval 2 65 v2 rfl rfl)
  have k1 := h1
  have lt1 : ∀ x ∈ p1, x.block < W.heap.size := by obtain ⟨m, hm⟩ := k1; exact DataW.trod_lt m _ _ _ hm
  have k2 := h2
  have lt2 : ∀ x ∈ p2, x.block < W.heap.size := by obtain ⟨m, hm⟩ := k2; exact DataW.trod_lt m _ _ _ hm
  obtain ⟨l1, s1⟩ := open_arg (E := pairEl) (j := 1) pairEl_k opensPair Try.underlying65 (by kernel_rfl) (of_decide_eq_true (by kernel_rfl)) h1 rfl hsz rfl rfl
  obtain ⟨l2, s2⟩ := open_arg (E := pairEl) (j := 2) pairEl_k opensPair Try.underlying65 (by kernel_rfl) (of_decide_eq_true (by kernel_rfl)) h2 rfl hsz rfl rfl
  clear hA0 hval0 hsz0 hsz
  refine (swapMirrors_walk (seed := a0) s1 s2).mono fun e W' ⟨he, kw⟩ => ?_
  have bel : Below W.heap.size W W' := kw.below (Nat.le_refl _) fun _ h => h.elim
  subst he
  exact ⟨_, rfl, _, _, _, [], _, [], hW', trodAll_mk1 (shut_bool Try.underlying4 _), (trodAll_cons_mk (shut_int Try.underlying22 w0) (trodAll_cons_mk (Below.trod Facts.laid (by kernel_rfl) (of_decide_eq_true (by kernel_rfl)) k1 bel lt1) (trodAll_cons_mk (Below.trod Facts.laid (by kernel_rfl) (of_decide_eq_true (by kernel_rfl)) k2 bel lt2) trodAll_mk0))), rfl, bel.frame _, fun h => by cases h⟩
set_option maxHeartbeats 4000000 in
theorem closed : joinedFacts Try.prog 18 Try.f18 Rows.swapMirrorsSpec Rows.swapMirrorsRow = true := by
  refine Facts.joined 18 Try.f18 Rows.swapMirrorsSpec Rows.swapMirrorsRow ?_ ?_ ?_ ?_ ?_ ?_ ?_ ?_ ?_ ?_ ?_ ?_ ?_ ?_ ?_ ?_ ?_ ?_ ?_ ?_ ?_ ?_ ?_ ?_ ?_ ?_ ?_ <;> exact (by as_aux_lemma => kernel_rfl)
set_option maxHeartbeats 4000000 in
theorem over : Rows.swapMirrorsRow.holds Try.pinned (OpenSpec.ofChange Rows.swapMirrorsSpec) :=
  OpenClaim.holds_of_wide 18 Try.f18 rfl rfl rfl rfl rfl rfl rfl ⟨rfl, rfl, rfl, rfl, rfl⟩ rfl rfl rfl rfl rfl (by as_aux_lemma => kernel_rfl) Try.func18 closed
    (of_decide_eq_true (by as_aux_lemma => kernel_rfl)) (by unfold Func.isWrapper; first | (rw [if_pos (by decide +kernel)]; kernel_rfl) | (rw [if_neg (by decide +kernel)]; exact ⟨rfl, rfl⟩))
    (fun os started H enc _ => lifted os started H enc)
theorem proved : Rows.SwapMirrorsSaid := over
end Go.Proofs.Ytaopjdjbpamhhaa.swapMirrors
namespace Go.Proofs.Ytaopjdjbpamhhaa
theorem swapMirrors_holds : Rows.SwapMirrorsSaid := swapMirrors.proved
#print axioms swapMirrors_holds
end Go.Proofs.Ytaopjdjbpamhhaa
