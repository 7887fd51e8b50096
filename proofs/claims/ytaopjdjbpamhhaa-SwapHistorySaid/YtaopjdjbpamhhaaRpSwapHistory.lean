/- Proved: the law SwapHistory returns true for all its arguments, and each argument reads afterwards as it read before. No condition beyond the statement's own. -/
import Derived.Test.YtaopjdjbpamhhaaPkE
import Derived.Test.YtaopjdjbpamhhaaPkA
import Derived.Test.YtaopjdjbpamhhaaPkD
import Derived.Test.YtaopjdjbpamhhaaRows
import Derived.Test.YtaopjdjbpamhhaaFacts
import Derived.ProofKit
import Derived.OpenShut
import Derived.ShutString
import Derived.ChangeOld
import Derived.SizedLaws
import Derived.Carry
/- Proved: contract of the law SwapMirrors' own code. Conditions: pairs in memory. -/
namespace Go.Proofs.Ytaopjdjbpamhhaa
open Go Go.RowKit
set_option linter.unusedVariables false
set_option linter.unusedSimpArgs false

theorem mirT_size (seed : Int) {u t : Tr} (hu : u.good seed) (ht : t.good seed) : (mirT seed u t).size ≤ u.size + t.size := by
  rw [← refT_mirT hu ht]
  exact refT_size seed t u [] [] false
theorem mirT_ok (seed : Int) {u t : Tr} (hu : u.good seed) (ht : t.good seed) (uo : u.ok) (tok : t.ok) : (mirT seed u t).ok := by
  rw [← refT_mirT hu ht]
  exact refT_ok seed tok uo

set_option maxRecDepth 100000 in
set_option maxHeartbeats 4000000 in
theorem swapMirrors_walk {seed : Int} {D1 D2 : Nat → Prop} {w : World} {v1 v2 : Value} {l1 l2 : List (Bts × Bts)} (h1 : SV pairEl D1 w v1 l1) (h2 : SV pairEl D2 w v2 l2) :
    Calls Try.prog 18 #[.int .u64 seed, v1, v2] w fun e w' => e = .returned (.bool true) ∧ Kept Noneof w w' := by
  (
  have H1 := Lib.hid h1
  have H2 := Lib.hid h2
  obtain ⟨a1, c1, rfl, _⟩ := h1
  obtain ⟨a2, c2, rfl, _⟩ := h2
  go_enter Try.func18, Try.ntmps18
  go_wp2_with fail
  refine (l7few_calls H1.out).mono ?_
  rintro e w1 ⟨rfl, k1⟩
  have K1 := Lib.hid k1
  clear k1
  cases hf1 : fewK l1
  · go_wp2
    go_ret
    exact ⟨rfl, K1.out⟩
  have F1 := Lib.hid hf1
  clear hf1
  go_wp2_with fail
  refine (l7few_calls (H2.out.kept pairEl_k K1.out fun _ _ _ h => h)).mono ?_
  rintro e w2 ⟨rfl, k2⟩
  have K2 := Lib.hid (K1.out.tr k2)
  clear k2
  cases hf2 : fewK l2
  · go_wp2
    go_ret
    exact ⟨rfl, K2.out⟩
  have F2 := Lib.hid hf2
  clear hf2
  go_wp2_with fail
  refine (l7filled_calls (seed := seed) (H1.out.kept pairEl_k K2.out fun _ _ _ h => h) F1.out).mono ?_
  rintro e w3 ⟨m1, G1, rfl, hm1, hg1, _, k3⟩
  have K3 := Lib.hid (K2.out.tr k3)
  have M1 := Lib.hid (hm1.wide (F' := fun b => w.heap.size ≤ b ∧ b < w3.heap.size) fun b h hl => ⟨Nat.le_trans K2.out.size (hg1 b h), hl⟩)
  clear hm1 hg1 k3
  go_wp2_with fail
  refine (l7filled_calls (seed := seed) (H2.out.kept pairEl_k K3.out fun _ _ _ h => h) F2.out).mono ?_
  rintro e w4 ⟨m2, G2, rfl, hm2, hg2, hlo, k4⟩
  have K4 := Lib.hid (K3.out.tr k4)
  have M1b := Lib.hid (M1.out.kept k4 fun _ _ h => h)
  have NE := Lib.hid (show m1 ≠ m2 by have := M1.out.lt; omega)
  have M2 := Lib.hid (hm2.wide (F' := fun b => w3.heap.size ≤ b ∧ b < w4.heap.size) fun b h hl => ⟨hg2 b h, hl⟩)
  have W3 := Lib.hid (show w.heap.size ≤ w3.heap.size from K3.out.size)
  clear hm2 hg2 k4 hlo M1
  have z1 := Lib.hid (Nat.le_trans (fillT_size seed l1) (fewK_iff F1.out).1)
  have z2 := Lib.hid (Nat.le_trans (fillT_size seed l2) (fewK_iff F2.out).1)
  have E1 := Lib.hid (fillT_pairs seed l1)
  have E2 := Lib.hid (fillT_pairs seed l2)
  have T1 := Lib.hid (fillT_good seed l1)
  have T2 := Lib.hid (fillT_good seed l2)
  have O1 := Lib.hid (fillT_okP (seed := seed) (fewK_iff F1.out).2)
  have O2 := Lib.hid (fillT_okP (seed := seed) (fewK_iff F2.out).2))
  go_wp2_with fail
  refine (swMirror_calls (t := fillT seed l1) (u := fillT seed l2) M1b.out M2.out NE.out (Tr.good_srt T2.out) O1.out (by have := z1.out; omega) (by have := z2.out; omega) (by have := z1.out; have := z2.out; omega) fun b h => h.2).mono ?_
  rintro e w5 ⟨v5, G3, rfl, s5, m5, hg3, k5⟩
  have K5 := Lib.hid (K4.out.trans k5 fun b h => .inr (by have := W3.out; omega))
  have M1c := Lib.hid (M1b.out.kept k5 fun b h hh => by omega)
  have M2c := Lib.hid (show MapAt seed w5 m2 (mirT seed (fillT seed l2) (fillT seed l1)) G3 from m5)
  have S5 := Lib.hid (s5.any msgEl_k)
  obtain ⟨x1, y1, q1, rfl⟩ := s5.slice'
  clear s5 m5 hg3 k5 M1b M2
  go_wp2_with fail
  refine (l7sorted_calls (H1.out.still pairEl_k K5.out) (fewK_iff F1.out).1).mono ?_
  rintro e w6 ⟨v6, rfl, s6, k6⟩
  have K6 := Lib.hid (K5.out.tr k6)
  have M1d := Lib.hid (M1c.out.kept k6 fun _ _ h => h)
  have M2d := Lib.hid (M2c.out.kept k6 fun _ _ h => h)
  have S5b := Lib.hid (S5.out.still msgEl_k k6)
  rw [← E1.out] at s6
  have S6 := Lib.hid s6
  obtain ⟨x2, y2, q2, rfl⟩ := s6.slice'
  clear s6 k6 M1c M2c S5
  go_wp2_with fail
  refine (l7sorted_calls (H2.out.still pairEl_k K6.out) (fewK_iff F2.out).1).mono ?_
  rintro e w7 ⟨v7, rfl, s7, k7⟩
  have K7 := Lib.hid (K6.out.tr k7)
  have M1e := Lib.hid (M1d.out.kept k7 fun _ _ h => h)
  have M2e := Lib.hid (M2d.out.kept k7 fun _ _ h => h)
  have S5c := Lib.hid (S5b.out.still msgEl_k k7)
  have S6b := Lib.hid (S6.out.still pairEl_k k7)
  rw [← E2.out] at s7
  have S7 := Lib.hid s7
  obtain ⟨x3, y3, q3, rfl⟩ := s7.slice'
  clear s7 k7 M1d M2d S5b S6
  go_wp2_with fail
  refine (r7Mirror_calls T1.out O1.out T2.out O2.out (by have := z1.out; have := z2.out; omega) S6b.out S7.out).mono ?_
  rintro e w8 ⟨vm, vt, rfl, sm, st, k8⟩
  have K8 := Lib.hid (K7.out.tr k8)
  have M1f := Lib.hid (M1e.out.kept k8 fun _ _ h => h)
  have M2f := Lib.hid (M2e.out.kept k8 fun _ _ h => h)
  have S5d := Lib.hid (S5c.out.still msgEl_k k8)
  have SM := Lib.hid sm
  have ST := Lib.hid st
  obtain ⟨x4, y4, q4, rfl⟩ := sm.slice'
  obtain ⟨x5, y5, q5, rfl⟩ := st.slice'
  clear sm st k8 M1e M2e S5c S6b S7
  go_upto_region 6 with (fail)
  have G11 := heap_alloc_new w8 (talkObj (.slice x4 y4 q4) (.slice x5 y5 q5))
  have k9 := (Kept.refl Noneof w8).alloc (talkObj (.slice x4 y4 q4) (.slice x5 y5 q5))
  unfold talkObj at G11 k9
  generalize w8.alloc (.cells #[.slice x4 y4 q4, .slice x5 y5 q5] 90) = w9 at *
  have K9 := Lib.hid (K8.out.tr k9)
  have M1g := Lib.hid (M1f.out.kept k9 fun _ _ h => h)
  have M2g := Lib.hid (M2f.out.kept k9 fun _ _ h => h)
  have S5e := Lib.hid (S5d.out.still msgEl_k k9)
  have SM9 := Lib.hid (SM.out.still msgEl_k k9)
  have ST9 := Lib.hid (ST.out.still pairEl_k k9)
  have G11 := Lib.hid G11
  clear k9 M1f M2f S5d SM ST K8
  have c0 : w9.cell? ⟨w8.heap.size, 0, none⟩ = some (.slice x4 y4 q4) := by simp [World.cell?, G11.out]
  go_wp2_with fail
  refine (r7Same_calls S5e.out SM9.out).mono ?_
  rintro e wa ⟨rfl, ka⟩
  have KA := Lib.hid (K9.out.tr ka)
  have M1h := Lib.hid (M1g.out.kept ka fun _ _ h => h)
  have M2h := Lib.hid (M2g.out.kept ka fun _ _ h => h)
  have STa := Lib.hid (ST9.out.still pairEl_k ka)
  have Ga := Lib.hid (ka.obj (fun h => h) G11.out)
  clear ka c0 M1g M2g ST9 G11 K9
  go_wp2_with fail
  refine (l7sorted_calls (H1.out.still pairEl_k KA.out) (fewK_iff F1.out).1).mono ?_
  rintro e wb ⟨vb, rfl, sb, kb⟩
  have KB := Lib.hid (KA.out.tr kb)
  have M1i := Lib.hid (M1h.out.kept kb fun _ _ h => h)
  have M2i := Lib.hid (M2h.out.kept kb fun _ _ h => h)
  have STb := Lib.hid (STa.out.still pairEl_k kb)
  have Gb := Lib.hid (kb.obj (fun h => h) Ga.out)
  rw [← E1.out] at sb
  have SB := Lib.hid sb
  obtain ⟨x6, y6, q6, rfl⟩ := sb.slice'
  clear sb kb M1h M2h STa Ga KA
  go_wp2_with fail
  refine (l7is_calls M1i.out (by have := z1.out; show (fillT seed l1).size ≤ _; omega) T1.out O1.out (by have := z1.out; omega) SB.out).mono ?_
  rintro e wc ⟨rfl, kc⟩
  have hb : (cmpB (imgT (putAll seed .nil l1)) (imgT (fillT seed l1)) == 0) = true := cmpB_beq _
  rw [hb]
  have KC := Lib.hid (KB.out.tr kc)
  have M2j := Lib.hid (M2i.out.kept kc fun _ _ h => h)
  have STc := Lib.hid (STb.out.still pairEl_k kc)
  have Gc := Lib.hid (kc.obj (fun h => h) Gb.out)
  clear hb kc M1i M2i STb Gb KB SB
  have c1 : wc.cell? ⟨w8.heap.size, 1, none⟩ = some (.slice x5 y5 q5) := by simp [World.cell?, Gc.out]
  have MS := Lib.hid (mirT_size seed T2.out T1.out)
  go_wp2_with fail
  refine (l7is_calls M2j.out (by have := z1.out; have := z2.out; have := MS.out; omega) (mirT_good T2.out) (mirT_ok seed T2.out T1.out O2.out O1.out) (by have := z1.out; have := z2.out; have := MS.out; omega) STc.out).mono ?_
  rintro e wd ⟨rfl, kd⟩
  rw [cmpB_beq]
  have KD := Lib.hid (KC.out.tr kd)
  clear kd c1
  go_wp2
  go_ret
  exact ⟨rfl, KD.out⟩
end Go.Proofs.Ytaopjdjbpamhhaa
/- Proved: contract of layer 7's law function met. Conditions: pairs and messages in memory. -/
namespace Go.Proofs.Ytaopjdjbpamhhaa
open Go Go.RowKit
set_option linter.unusedVariables false
set_option linter.unusedSimpArgs false

set_option maxRecDepth 100000 in
set_option maxHeartbeats 4000000 in
theorem l7met_calls {D1 D2 D3 : Nat → Prop} {v1 v2 v3 : Value} {F U : List (Bts × Bts)} {T : List Msg} {w : World} (hF : Srt F) (hU : Srt U) (h1 : SV pairEl D1 w v1 F) (h2 : SV pairEl D2 w v2 U) (h3 : SV msgEl D3 w v3 T) :
    Calls Try.prog 60 #[v1, v2, v3] w fun e w' => e = .returned (.bool (T.any (metB F U))) ∧ Kept Noneof w w' := by
  have H1 := Lib.hid h1
  have H2 := Lib.hid h2
  have H3 := Lib.hid h3
  obtain ⟨a1, n1, c1, rfl⟩ := h1.slice'
  obtain ⟨a2, n2, c2, rfl⟩ := h2.slice'
  obtain ⟨a3, c3, rfl, _⟩ := h3
  clear h1 h2
  go_enter Try.func60, Try.ntmps60
  go_wp2
  go_loopw [11] (fun i wr => ∃ n : Nat, n ≤ T.length ∧ i = .int .i64 n ∧ Hid (∀ m ∈ T.take n, metB F U m = false) ∧ Hid (Kept Noneof w wr)) (fun i _ => T.length - (intOf i).toNat)
  case atStart => exact ⟨0, Nat.zero_le _, rfl, Lib.hid (by simp), Lib.hid (Kept.refl _ _)⟩
  case round =>
    obtain ⟨n, hn, rfl, ha, kw⟩ := hrel
    by_cases hl : n < T.length
    · obtain ⟨a3', c3', e3, _, _, rd⟩ := H3.out.still msgEl_k kw.out
      simp only [Value.slice.injEq, true_and] at e3
      obtain ⟨rfl, rfl⟩ := e3
      obtain ⟨b1, o1, l1, k1, p1, rfl, _, x0, x1, x2, x3, x4, x5, x6, hl1, hk1, hp1⟩ := Rd.msg rd hl
      have L1 := Lib.hid hl1
      have P1 := Lib.hid hk1
      obtain ⟨z1, z2, z3, rfl⟩ := hl1.slice'
      obtain ⟨z7, z8, z9, rfl⟩ := hk1.slice'
      obtain ⟨s4, s5, s6, rfl⟩ := hp1.slice'
      have HT := Lib.hid (show ∀ b, metB F U T[n] = b → b = false → ∀ m ∈ T.take (n + 1), metB F U m = false from fun b hb e m hm => by
        rw [List.take_succ_eq_append_getElem hl] at hm
        rcases List.mem_append.1 hm with hm | hm
        · exact ha.out m hm
        · obtain rfl : m = T[n] := by simpa using hm
          rw [hb, e])
      have HA := Lib.hid (show metB F U T[n] = true → T.any (metB F U) = true from fun h => List.any_eq_true.2 ⟨T[n], List.getElem_mem hl, h⟩)
      have HM := Lib.hid (show metB F U T[n] = (T[n].same && !sameP (F.filter (inS T[n].low true T[n].high T[n].bd)) (U.filter (inS T[n].low true T[n].high T[n].bd))) from rfl)
      clear hl1 hk1 hp1 rd ha
      generalize hm : T[n] = m at *
      clear hm
      go_upto_region 4 with (fail)
      have G8 := heap_alloc_new wr (msgObj (.slice z1 z2 z3) (.slice z7 z8 z9) m.bd m.size m.dg m.same (.slice s4 s5 s6))
      have k8 := (Kept.refl Noneof wr).alloc (msgObj (.slice z1 z2 z3) (.slice z7 z8 z9) m.bd m.size m.dg m.same (.slice s4 s5 s6))
      unfold msgObj at G8 k8
      generalize wr.alloc (.cells #[.slice z1 z2 z3, .slice z7 z8 z9, .bool m.bd, .int .i64 m.size, .int .u64 m.dg, .bool m.same, .slice s4 s5 s6] 97) = w8 at *
      obtain ⟨p0, p1, p2, _, _, p5, _, _⟩ := msgObj_cells (show w8.heap[wr.heap.size]? = some (msgObj (.slice z1 z2 z3) (.slice z7 z8 z9) m.bd m.size m.dg m.same (.slice s4 s5 s6)) from G8)
      have L8 := Lib.hid (L1.out.still byteEl_k k8)
      have P8 := Lib.hid (P1.out.still byteEl_k k8)
      have K8 := Lib.hid (kw.out.tr k8)
      clear x0 x1 x2 x3 x4 x5 x6 G8 k8 L1 P1 kw
      go_cut [36] (fun q36 wx => q36 = .bool (metB F U m) ∧ Hid (Kept Noneof w wx))
      case first =>
        cases hs : m.same
        · rw [hs] at p5
          have MF := Lib.hid (show metB F U m = false by rw [HM.out, hs]; rfl)
          clear hs
          go_quiet (fail)
          go_wp2_with fail
          go_meet
          exact ⟨by rw [MF.out], Lib.hid (K8.out.drewN _)⟩
        · rw [hs] at p5
          have HM2 := Lib.hid (show metB F U m = !sameP (F.filter (inS m.low true m.high m.bd)) (U.filter (inS m.low true m.high m.bd)) by rw [HM.out, hs]; rfl)
          clear hs
          refine wp_region_chain 22 [10, 18, 19] (fun w' => w'.cell? ⟨wr.heap.size, 0, none⟩ = some (.slice z1 z2 z3) ∧ w'.cell? ⟨wr.heap.size, 1, none⟩ = some (.slice z7 z8 z9) ∧ w'.cell? ⟨wr.heap.size, 2, none⟩ = some (.bool m.bd) ∧ w'.cell? ⟨wr.heap.size, 5, none⟩ = some (.bool true)) (by kernel_rfl) (by kernel_rfl) ?_ ?_
          · exact ⟨p0, p1, p2, p5⟩
          simp only [List.take_succ_cons, List.take_zero, List.drop_succ_cons, List.drop_zero]
          iterate 10 (refine SeqY.val (v := ?_) (by rfl) (by rfl) (fun wx hSw => ?_) ?_; rotate_left; (focus ((try dsimp only at hSw); go_simp; (try with_reducible rfl))); (try simp only [Act.put, List.setIfInBounds_toArray, List.set_cons_zero, List.set_cons_succ]))
          refine SeqY.act (by rfl) rfl (by rfl) (by rfl) (fun K hK => ?_)
          go_simp
          refine (r2Span_calls (w := w8.drew) ((H1.out.still pairEl_k K8.out).at rfl) (L8.out.at rfl) (P8.out.at rfl)).mono ?_
          rintro e w9 ⟨v9, rfl, s9, d9⟩
          rw [spanL_filter hF] at s9
          have k9 : Kept Noneof w8 w9 := ((Kept.refl Noneof w8).drew).drewn d9
          refine hK.out _ _ ⟨k9.cell (fun h => h) p0, k9.cell (fun h => h) p1, k9.cell (fun h => h) p2, k9.cell (fun h => h) p5⟩ ?_
          have p0 := k9.cell (fun h => h) p0
          have p1 := k9.cell (fun h => h) p1
          have p2 := k9.cell (fun h => h) p2
          have p5 := k9.cell (fun h => h) p5
          have S9 := Lib.hid (s9.at d9.heap)
          have K9 := Lib.hid (K8.out.tr k9)
          have L9 := Lib.hid (L8.out.still byteEl_k k9)
          have P9 := Lib.hid (P8.out.still byteEl_k k9)
          obtain ⟨y1, y2, y3, rfl⟩ := s9.slice'
          clear K hK s9 d9 k9
          (try simp only [Act.put, List.setIfInBounds_toArray, List.set_cons_zero, List.set_cons_succ])
          iterate 7 (refine SeqY.val (v := ?_) (by rfl) (by rfl) (fun wx hSw => ?_) ?_; rotate_left; (focus ((try dsimp only at hSw); go_simp; (try with_reducible rfl))); (try simp only [Act.put, List.setIfInBounds_toArray, List.set_cons_zero, List.set_cons_succ]))
          refine SeqY.act (by rfl) rfl (by rfl) (by rfl) (fun K hK => ?_)
          go_simp
          refine (r2Span_calls (w := w9) (H2.out.still pairEl_k K9.out) L9.out P9.out).mono ?_
          rintro e wa ⟨va, rfl, sa, da⟩
          rw [spanL_filter hU] at sa
          have ka : Kept Noneof w9 wa := (Kept.refl Noneof w9).drewn da
          refine hK.out _ _ ⟨ka.cell (fun h => h) p0, ka.cell (fun h => h) p1, ka.cell (fun h => h) p2, ka.cell (fun h => h) p5⟩ ?_
          have p0 := ka.cell (fun h => h) p0
          have p1 := ka.cell (fun h => h) p1
          have p2 := ka.cell (fun h => h) p2
          have p5 := ka.cell (fun h => h) p5
          have SA := Lib.hid (sa.at da.heap)
          have S9a := Lib.hid (S9.out.still pairEl_k ka)
          have KA := Lib.hid (K9.out.tr ka)
          obtain ⟨y4, y5, y6, rfl⟩ := sa.slice'
          clear K hK sa da ka
          (try simp only [Act.put, List.setIfInBounds_toArray, List.set_cons_zero, List.set_cons_succ])
          refine SeqY.act (by rfl) rfl (by rfl) (by rfl) (fun K hK => ?_)
          go_simp
          refine (r2SamePairs_calls S9a.out SA.out).mono ?_
          rintro e wb ⟨rfl, db⟩
          have kb : Kept Noneof wa wb := (Kept.refl Noneof wa).drewn db
          refine hK.out _ _ ⟨kb.cell (fun h => h) p0, kb.cell (fun h => h) p1, kb.cell (fun h => h) p2, kb.cell (fun h => h) p5⟩ ?_
          have KB := Lib.hid (KA.out.tr kb)
          clear K hK db kb p0 p1 p2 p5
          generalize sameP (F.filter (inS m.low true m.high m.bd)) (U.filter (inS m.low true m.high m.bd)) = sp at *
          (try simp only [Act.put, List.setIfInBounds_toArray, List.set_cons_zero, List.set_cons_succ])
          iterate 2 (refine SeqY.val (v := ?_) (by rfl) (by rfl) (fun wx hSw => ?_) ?_; rotate_left; (focus ((try dsimp only at hSw); go_simp; (try with_reducible rfl))); (try simp only [Act.put, List.setIfInBounds_toArray, List.set_cons_zero, List.set_cons_succ]))
          refine SeqY.nil ?_
          go_wp2_with fail
          go_meet
          exact ⟨by rw [HM2.out], KB⟩
      case rest =>
        obtain ⟨rfl, KB⟩ := hcut
        clear p0 p1 p2 p5
        cases hmb : metB F U m
        · have MF := Lib.hid (HT.out _ rfl hmb)
          clear hmb
          go_wp2
          go_roundw
          case rel => exact ⟨n + 1, by omega, by go_num, MF, KB⟩
          case measure => simp [intOf]; omega
        · have AT := Lib.hid (HA.out hmb)
          clear hmb
          go_wp2
          go_ret
          exact ⟨ret_bool AT.out.symm, KB.out⟩
    · obtain rfl : n = T.length := by omega
      have AF := Lib.hid (show T.any (metB F U) = false by
        rw [List.any_eq_false]
        intro m hm
        rw [ha.out m (by rw [List.take_length]; exact hm)]
        simp)
      go_wp2
      go_ret
      exact ⟨ret_bool AF.out.symm, kw.out⟩
end Go.Proofs.Ytaopjdjbpamhhaa
/- Proved: two maps in memory that share nothing, with Put and Drop on either one; plain: a map that came to be with further pairs that are gone again is the map. Conditions: maps in memory. -/
namespace Go.Proofs.Ytaopjdjbpamhhaa
open Go Go.RowKit
set_option linter.unusedVariables false
set_option linter.unusedSimpArgs false

/-! ### Plain -/
/-- A map without the keys of some pairs, but for those of F. -/
def dropSel (seed : Int) (F : List (Bts × Bts)) (u : Tr) (l : List (Bts × Bts)) : Tr := l.foldl (fun t p => if hasK F p.1 = true then t else t.dropIf seed p.1) u
/-- The map with further pairs, that came to be with pairs F from the last one on, without the further ones. -/
def histT (seed : Int) (F more : List (Bts × Bts)) : Tr := dropSel seed F (putAll seed (fillT seed more) F.reverse) more
theorem dropSel_succ (seed : Int) (F : List (Bts × Bts)) (u : Tr) (l : List (Bts × Bts)) (n : Nat) (h : n < l.length) : dropSel seed F u (l.take (n + 1)) = if hasK F l[n].1 = true then dropSel seed F u (l.take n) else (dropSel seed F u (l.take n)).dropIf seed l[n].1 := by
  unfold dropSel
  rw [List.take_add_one, List.getElem?_eq_getElem h, List.foldl_append]
  rfl
theorem lastK_some : ∀ {l : List (Bts × Bts)} {x v : Bts}, (x, v) ∈ l → (lastK l x).isSome = true
  | p :: l, x, v, h => by
    rw [lastK]
    rcases List.mem_cons.1 h with rfl | h
    · simp only [if_true]
      cases lastK l x <;> rfl
    · have := lastK_some h
      cases hl : lastK l x with
      | none => rw [hl] at this; cases this
      | some _ => rfl
theorem srt_ne {p : Bts × Bts} {l : List (Bts × Bts)} (h : Srt (p :: l)) : ∀ q ∈ l, ¬ q.1 = p.1 := fun q hq e => by
  have := (List.pairwise_cons.1 h).1 q hq
  rw [e, cmpB_self] at this
  omega
theorem lastK_rev : ∀ {l : List (Bts × Bts)} {x : Bts}, Srt l → lastK l.reverse x = lastK l x
  | [], _, _ => rfl
  | p :: l, x, h => by
    rw [List.reverse_cons, lastK_append, lastK_rev (List.pairwise_cons.1 h).2, lastK]
    by_cases e : p.1 = x
    · have hn : lastK l x = none := lastK_none fun q hq => by rw [← e]; exact srt_ne h q hq
      simp [lastK, e, hn]
    · simp [lastK, e]
theorem hasK_lastK {l : List (Bts × Bts)} {x : Bts} (h : Srt l) : (hasK l x = true → (lastK l x).isSome = true) ∧ (hasK l x = false → lastK l x = none) := by
  rw [hasK_getK]
  constructor
  · intro hs
    cases hg : getK l x with
    | none => rw [hg] at hs; cases hs
    | some v => exact lastK_some (getK_mem hg)
  · intro hs
    refine lastK_none fun q hq e => ?_
    rw [← e, mem_getK h hq] at hs
    cases hs
section
variable {seed : Int}
theorem dropSel_good {F : List (Bts × Bts)} : ∀ {l : List (Bts × Bts)} {u : Tr}, u.good seed → (dropSel seed F u l).good seed
  | [], _, h => h
  | p :: l, u, h => by
    show (dropSel seed F (if hasK F p.1 = true then u else u.dropIf seed p.1) l).good seed
    refine dropSel_good ?_
    split
    · exact h
    · exact Tr.dropIf_good h
theorem gk_dropSel {F : List (Bts × Bts)} : ∀ {l : List (Bts × Bts)} {u : Tr} {x : Bts}, u.good seed → getK (dropSel seed F u l).pairs x = if (∃ p ∈ l, p.1 = x) ∧ hasK F x = false then none else getK u.pairs x
  | [], u, x, h => by simp [dropSel]
  | p :: l, u, x, h => by
    have hE : ¬ p.1 = x → ((∃ q, q ∈ p :: l ∧ q.1 = x) ↔ ∃ q, q ∈ l ∧ q.1 = x) := fun e => ⟨fun ⟨q, h1, h2⟩ => by
      rcases List.mem_cons.1 h1 with rfl | h1
      · exact absurd h2 e
      · exact ⟨q, h1, h2⟩, fun ⟨q, h1, h2⟩ => ⟨q, List.mem_cons_of_mem _ h1, h2⟩⟩
    show getK (dropSel seed F (if hasK F p.1 = true then u else u.dropIf seed p.1) l).pairs x = _
    cases hp : hasK F p.1 with
    | true =>
      rw [if_pos rfl, gk_dropSel h]
      by_cases e : p.1 = x
      · rw [e] at hp
        rw [if_neg (by rw [hp]; simp), if_neg (by rw [hp]; simp)]
      · simp only [hE e]
    | false =>
      rw [if_neg (by simp), gk_dropSel (Tr.dropIf_good h), gk_dropIf h]
      by_cases e : p.1 = x
      · rw [e] at hp
        simp [e, hp]
      · rw [if_neg e]
        simp only [hE e]
theorem hist_eq {F more : List (Bts × Bts)} (hF : Srt F) : histT seed F more = fillT seed F := by
  have g1 : (putAll seed (fillT seed more) F.reverse).good seed := putAll_good (fillT_good seed more)
  refine Tr.ext (seed := seed) (dropSel_good g1) (fillT_good seed F) fun x => ?_
  have nil : getK Tr.nil.pairs x = none := rfl
  unfold histT
  rw [gk_dropSel g1, gk_putAll (fillT_good seed more), gk_putAll (seed := seed) (u := .nil) trivial, gk_putAll (seed := seed) (u := .nil) trivial, nil, lastK_rev hF, Option.or_none, Option.or_none]
  have hh := hasK_lastK (x := x) hF
  cases hk : hasK F x with
  | true =>
    rw [if_neg (by simp)]
    have := hh.1 hk
    cases hl : lastK F x with
    | none => rw [hl] at this; cases this
    | some _ => rfl
  | false =>
    rw [hh.2 hk]
    by_cases e : ∃ p ∈ more, p.1 = x
    · rw [if_pos ⟨e, rfl⟩]
    · rw [if_neg fun h => e h.1, lastK_none fun p hp hx => e ⟨p, hp, hx⟩]
      rfl
end
theorem Tr.dropIf_size (seed : Int) (u : Tr) (k : Bts) : (u.dropIf seed k).size ≤ u.size := by
  unfold Tr.dropIf
  split
  · exact Tr.drop_size seed k u
  · exact Nat.le_refl _
theorem okP_allowed' {p : Bts × Bts} (h : allowedK p.1 p.2 = true) : okP p := by
  simp only [allowedK, Bool.and_eq_true, decide_eq_true_eq] at h
  exact ⟨h.1.1, h.1.2, h.2⟩

theorem fewK_sorted {l : List (Bts × Bts)} (h : fewK l = true) : fewK (sortedL l) = true := by
  have h1 := fillT_size 0 l
  have h2 := fewK_iff h
  have h3 := (Tr.ok_iff _).1 (fillT_okP (seed := 0) h2.2)
  rw [fillT_pairs] at h3
  rw [← Tr.pairs_len, fillT_pairs] at h1
  unfold fewK
  simp only [Bool.and_eq_true, decide_eq_true_eq, List.all_eq_true]
  exact ⟨by omega, fun p hp => okP_allowed (h3 p hp)⟩
theorem sortedL_srt (l : List (Bts × Bts)) : Srt (sortedL l) := by
  rw [← fillT_pairs 0]
  exact Tr.good_srt (fillT_good 0 l)

/-! ### Two maps that share nothing -/
structure Two (seed : Int) (Q : Nat → Prop) (w : World) (mc md : Nat) (tc td : Tr) : Prop where
  up : ∀ b, w.heap.size ≤ b → Q b
  ex : ∃ Fc Fd : Nat → Prop, MapAt seed w mc tc Fc ∧ MapAt seed w md td Fd ∧ (∀ b, Fc b → ¬ Fd b) ∧ (∀ b, Fc b → Q b ∧ b < w.heap.size) ∧ (∀ b, Fd b → Q b ∧ b < w.heap.size)
section
variable {seed : Int} {Q : Nat → Prop} {w w' : World} {mc md : Nat} {tc td : Tr}
theorem Two.swap (h : Two seed Q w mc md tc td) : Two seed Q w md mc td tc := by
  obtain ⟨hu, Fc, Fd, h1, h2, h3, h4, h5⟩ := h
  exact ⟨hu, Fd, Fc, h2, h1, fun b hb hc => h3 b hc hb, h5, h4⟩
theorem Two.still (h : Two seed Q w mc md tc td) (k : Kept Noneof w w') : Two seed Q w' mc md tc td := by
  obtain ⟨hu, Fc, Fd, h1, h2, h3, h4, h5⟩ := h
  have := k.size
  exact ⟨fun b hb => hu b (by omega), Fc, Fd, h1.kept k fun _ _ h => h, h2.kept k fun _ _ h => h, h3, fun b hb => ⟨(h4 b hb).1, by have := (h4 b hb).2; omega⟩, fun b hb => ⟨(h5 b hb).1, by have := (h5 b hb).2; omega⟩⟩
/-- What has come new stays as it is. -/
theorem Two.narrow (h : Two seed Q w mc md tc td) (k : Kept Noneof w w') : Two seed (fun b => Q b ∧ ¬ (w.heap.size ≤ b ∧ b < w'.heap.size)) w' mc md tc td := by
  obtain ⟨hu, Fc, Fd, h1, h2, h3, h4, h5⟩ := h
  have := k.size
  exact ⟨fun b hb => ⟨hu b (by omega), by omega⟩, Fc, Fd, h1.kept k fun _ _ h => h, h2.kept k fun _ _ h => h, h3, fun b hb => ⟨⟨(h4 b hb).1, by have := (h4 b hb).2; omega⟩, by have := (h4 b hb).2; omega⟩, fun b hb => ⟨⟨(h5 b hb).1, by have := (h5 b hb).2; omega⟩, by have := (h5 b hb).2; omega⟩⟩
theorem Two.widen {R : Nat → Prop} (h : Two seed Q w mc md tc td) (hR : ∀ b, Q b → R b) : Two seed R w mc md tc td := by
  obtain ⟨hu, Fc, Fd, h1, h2, h3, h4, h5⟩ := h
  exact ⟨fun b hb => hR b (hu b hb), Fc, Fd, h1, h2, h3, fun b hb => ⟨hR b (h4 b hb).1, (h4 b hb).2⟩, fun b hb => ⟨hR b (h5 b hb).1, (h5 b hb).2⟩⟩
theorem two_put {D1 D2 : Nat → Prop} {kv vv : Value} {k v : Bts} (h : Two seed Q w mc md tc td) (h1 : BV D1 w kv k) (h2 : BV D2 w vv v) (hb : allowedK k v = true) (hs : tc.size < 100000) :
    Calls Try.prog 73 #[.pointer (some ⟨mc, 0, none⟩), kv, vv] w fun e w' => e = .returned (.int .i64 0) ∧ Two seed Q w' mc md (tc.put seed k v) td ∧ Kept Q w w' := by
  obtain ⟨hu, Fc, Fd, a1, a2, a3, a4, a5⟩ := h
  refine (orMapPut_ok a1 h1 h2 hb hs).mono ?_
  rintro e w' ⟨rfl, F', hm, kk, hF⟩
  have := kk.size
  refine ⟨rfl, ⟨fun b hb => hu b (by omega), fun b => F' b ∧ b < w'.heap.size, Fd, hm.wide fun b h hl => ⟨h, hl⟩, a2.kept kk fun b hb hc => a3 b hc hb, fun b hb hd => ?_, fun b hb => ⟨?_, hb.2⟩, fun b hb => ⟨(a5 b hb).1, by have := (a5 b hb).2; omega⟩⟩, kk.mono fun b hb => (a4 b hb).1⟩
  · rcases hF b hb.1 with h | h
    · exact a3 b h hd
    · have := (a5 b hd).2; omega
  · rcases hF b hb.1 with h | h
    · exact (a4 b h).1
    · exact hu b h
theorem two_drop {D1 : Nat → Prop} {kv : Value} {k : Bts} (h : Two seed Q w mc md tc td) (h1 : BV D1 w kv k) (hD : ∀ b, D1 b → ¬ Q b) :
    Calls Try.prog 75 #[.pointer (some ⟨mc, 0, none⟩), kv] w fun e w' => (∃ r, e = .returned (.int .i64 r)) ∧ Two seed Q w' mc md (tc.dropIf seed k) td ∧ Kept Q w w' := by
  have h' := h
  obtain ⟨hu, Fc, Fd, a1, a2, a3, a4, a5⟩ := h
  cases hg : (tc.get k).isSome
  · refine (orMapDrop_none a1 h1 (by simpa using hg)).mono ?_
    rintro e w' ⟨rfl, rfl⟩
    refine ⟨⟨_, rfl⟩, ?_, Kept.refl _ _⟩
    unfold Tr.dropIf
    rw [hg]
    exact h'
  · refine (orMapDrop_ok a1 h1 (fun b hb _ hf => hD b hb (a4 b hf).1) hg).mono ?_
    rintro e w' ⟨rfl, hm, kk⟩
    have := kk.size
    refine ⟨⟨_, rfl⟩, ?_, kk.mono fun b hb => (a4 b hb).1⟩
    unfold Tr.dropIf
    rw [hg]
    exact ⟨fun b hb => hu b (by omega), Fc, Fd, hm, a2.kept kk fun b hb hc => a3 b hc hb, a3, fun b hb => ⟨(a4 b hb).1, by have := (a4 b hb).2; omega⟩, fun b hb => ⟨(a5 b hb).1, by have := (a5 b hb).2; omega⟩⟩
end
end Go.Proofs.Ytaopjdjbpamhhaa
/- Proved: the check of the chain law's region by bit masks: each operation's ancestors are given as a number, checked at one step each. No program is named. No condition. -/
namespace Go.Proofs.Ytaopjdjbpamhhaa
open Go Go.RowKit
set_option linter.unusedVariables false
set_option linter.unusedSimpArgs false

def allIx (p : Nat → Oper → Bool) : Nat → List Oper → Bool
  | _, [] => true
  | i, o :: r => p i o && allIx p (i + 1) r
theorem allIx_get {p : Nat → Oper → Bool} : ∀ {l : List Oper} {k : Nat}, allIx p k l = true → ∀ {j : Nat} {o : Oper}, l[j]? = some o → p (k + j) o = true
  | [], k, _, j, o, h => by simp at h
  | x :: l, k, h, 0, o, ho => by
    simp only [List.getElem?_cons_zero, Option.some.injEq] at ho
    subst ho
    simp only [allIx, Bool.and_eq_true] at h
    exact h.1
  | x :: l, k, h, j + 1, o, ho => by
    simp only [allIx, Bool.and_eq_true] at h
    have := allIx_get h.2 (j := j) (o := o) (by simpa using ho)
    rwa [show k + 1 + j = k + (j + 1) by omega] at this
def maskOf (ms : List Nat) : List Edge → Nat
  | [] => 0
  | e :: r => if Region.binds .any e then (2 ^ e.on ||| ms.getD e.on 0) ||| maskOf ms r else maskOf ms r
theorem maskOf_bit (ms : List Nat) (k : Nat) : ∀ es : List Edge, (maskOf ms es).testBit k = es.any fun e => Region.binds .any e && (e.on == k || (ms.getD e.on 0).testBit k)
  | [] => by simp [maskOf]
  | e :: r => by
    rw [maskOf, List.any_cons, ← maskOf_bit ms k r]
    cases h : Region.binds .any e with
    | true =>
      simp only [if_true, Nat.testBit_or, Nat.testBit_two_pow, Bool.true_and]
      congr 2
    | false => simp
def maskB (ms : List Nat) (l : List Oper) : Bool :=
  allIx (fun i o => o.after.toList.all (fun e => !Region.binds .any e || decide (e.on < i)) && (ms.getD i 0 == maskOf ms o.after.toList)) 0 l
theorem waitsN_mask {ms : List Nat} {l : List Oper} (h : maskB ms l = true) (k : Nat) : ∀ f i, i < f → i < l.length → waitsN l.toArray f i k = (ms.getD i 0).testBit k
  | 0, i, hi, _ => by omega
  | f + 1, i, hi, hl => by
    have := allIx_get h (List.getElem?_eq_getElem hl)
    simp only [Nat.zero_add, Bool.and_eq_true, beq_iff_eq, List.all_eq_true] at this
    obtain ⟨h1, h2⟩ := this
    rw [h2, maskOf_bit, waitsN]
    simp only [List.getElem?_toArray, List.getElem?_eq_getElem hl, ← Array.any_toList]
    rw [Bool.eq_iff_iff]
    simp only [List.any_eq_true, Bool.and_eq_true]
    refine exists_congr fun e => and_congr_right fun he => and_congr_right fun hb => ?_
    have := h1 e he
    simp only [hb, Bool.not_true, Bool.false_or, decide_eq_true_eq] at this
    rw [waitsN_mask h k f e.on (by omega) (by omega)]
theorem waits_mask {ms : List Nat} {l : List Oper} (h : maskB ms l = true) (i k : Nat) (hi : i < l.length) : waits l.toArray i k = (ms.getD i 0).testBit k :=
  waitsN_mask h k _ i (by simpa using hi) hi
def headM (ms : List Nat) (l : List Oper) (acts : List Nat) (n : Nat) : Bool :=
  Region.noSelect l.toArray && decide (n ≤ l.length) && allIx (fun i oi =>
    Nat.ble n i || (allIx (fun k ok => Nat.ble n k || ((!(ms.getD i 0).testBit k || decide (k < i)) &&
      (match ok.dst with
        | none => true
        | some d => (!(oi.looksAt l.toArray).contains d || (ms.getD i 0).testBit k) && (i == k || oi.dst != some d)))) 0 l)) 0 l &&
  acts.all fun j => acts.all fun i => !decide (i < j) || (ms.getD j 0).testBit i
theorem chainOk_mask {ms : List Nat} {l : List Oper} {acts : List Nat} {n : Nat} (hm : maskB ms l = true) (hh : headM ms l acts n = true) : chainOkB l.toArray (fun i => acts.contains i) n = true := by
  simp only [headM, Bool.and_eq_true, decide_eq_true_eq] at hh
  obtain ⟨⟨⟨h1, h2⟩, h3⟩, h4⟩ := hh
  simp only [chainOkB, headB, Bool.and_eq_true, List.all_eq_true, List.mem_range, decide_eq_true_eq, List.size_toArray]
  refine ⟨⟨⟨h1, h2⟩, fun i hi => ?_⟩, fun j hj i hi => ?_⟩
  · have hil : i < l.length := by omega
    have a := allIx_get hm (List.getElem?_eq_getElem hil)
    have b := allIx_get h3 (List.getElem?_eq_getElem hil)
    simp only [Nat.zero_add, Bool.and_eq_true] at a b
    have hb : Nat.ble n i = false := by rw [Bool.eq_false_iff]; intro h; have := Nat.le_of_ble_eq_true h; omega
    rw [hb, Bool.false_or] at b
    simp only [List.getElem?_toArray, List.getElem?_eq_getElem hil, Bool.and_eq_true, Bool.true_and, ← Array.all_toList, List.all_eq_true, List.mem_range]
    refine ⟨fun e he => List.all_eq_true.1 a.1 e he, fun k hk => ?_⟩
    have hkl : k < l.length := by omega
    have c := allIx_get b (List.getElem?_eq_getElem hkl)
    have hb : Nat.ble n k = false := by rw [Bool.eq_false_iff]; intro h; have := Nat.le_of_ble_eq_true h; omega
    simp only [Nat.zero_add, hb, Bool.false_or] at c
    simp only [List.getElem?_eq_getElem hkl, waits_mask hm i k hil]
    revert c
    generalize l[k].dst = x
    cases x <;> exact fun c => by simpa using c
  · have hjl : j < l.length := by omega
    rw [waits_mask hm j i hjl]
    cases hi2 : acts.contains i with
    | false => simp
    | true =>
      cases hj2 : acts.contains j with
      | false => simp
      | true =>
        have := List.all_eq_true.1 (List.all_eq_true.1 h4 j (by simpa using hj2)) i (by simpa using hi2)
        simpa [hi] using this
def chainM (ms : List Nat) (l : List Oper) (acts : List Nat) (n : Nat) : Bool :=
  maskB ms l && headM ms l acts n && Region.seqB .any l.toArray (l.length - n) n (canon n (l.length - n)) && (decide (n = l.length) || (decide (n < l.length) && Region.sinkB .any l.toArray n && Region.chainB .any l.toArray n))
theorem chain_mask {l : List Oper} {acts : List Nat} {n : Nat} (ms : List Nat) (h : chainM ms l acts n = true) : chainB l.toArray acts n = true := by
  simp only [chainM, Bool.and_eq_true] at h
  obtain ⟨⟨⟨h1, h2⟩, h3⟩, h4⟩ := h
  simp only [chainB, Bool.and_eq_true, List.size_toArray]
  exact ⟨⟨chainOk_mask h1 h2, h3⟩, h4⟩
/-- What follows, behind a letter: the walk then never looks into it. -/
theorem SeqY.hide {P : Program} {ops : Array Oper} {S : World → Prop} {acts : List Nat} {Fin : Act → World → Prop} {k : Nat} {l : List Oper} {a : Act} {w : World} (h : ∀ F : Act → World → Prop, Fin = F → SeqY P ops S acts F k l a w) : SeqY P ops S acts Fin k l a w := h Fin rfl

/-! ### The walk behind a door that no reduction opens -/
section
variable {P : Program} {ops : Array Oper} {S : World → Prop} {acts : List Nat} {Fin : Act → World → Prop} {k : Nat} {o : Oper} {rest : List Oper} {a : Act} {w : World}
structure SeqW (P : Program) (ops : Array Oper) (S : World → Prop) (acts : List Nat) (Fin : Act → World → Prop) (k : Nat) (l : List Oper) (a : Act) (w : World) : Prop where
  out : SeqY P ops S acts Fin k l a w
theorem SeqW.nil (h : Fin a w) : SeqW P ops S acts Fin k [] a w := ⟨SeqY.nil h⟩
theorem SeqW.val {v : Value} (hK : acts.contains k = false) (hw : Region.wanted o (yielded ops a.tmps) = true) (h : ∀ w, S w → (execOp a.eval o).run P w = .ok (.value v) w)
    (hn : SeqW P ops S acts Fin (k + 1) rest (a.put o.dst v) w) : SeqW P ops S acts Fin k (o :: rest) a w := ⟨SeqY.val hK hw h hn.out⟩
theorem SeqW.skip (hw : Region.wanted o (yielded ops a.tmps) = false) (hn : SeqW P ops S acts Fin (k + 1) rest (a.put o.dst undef) w) : SeqW P ops S acts Fin k (o :: rest) a w := ⟨SeqY.skip hw hn.out⟩
theorem SeqW.act {d : Tmp} (hK : acts.contains k = true) (hd : o.dst = some d) (hs : decide (d < a.tmps.size) = true) (hw : Region.wanted o (yielded ops a.tmps) = true)
    (h : ∀ K' : Act → World → Prop, Hid (∀ u w', S w' → SeqW P ops S acts Fin (k + 1) rest (a.put o.dst u) w' → K' (a.put o.dst u) w') → o.wp P a w K' (fun _ _ _ => False)) : SeqW P ops S acts Fin k (o :: rest) a w :=
  ⟨SeqY.act hK hd hs hw fun K' hK' => h K' (fun u w' h1 h2 => hK'.out u w' h1 h2.out)⟩
theorem SeqW.act0 (hK : acts.contains k = true) (hd : o.dst = none) (hw : Region.wanted o (yielded ops a.tmps) = true)
    (h : ∀ K' : Act → World → Prop, Hid (∀ w', S w' → SeqW P ops S acts Fin (k + 1) rest a w' → K' a w') → o.wp P a w K' (fun _ _ _ => False)) : SeqW P ops S acts Fin k (o :: rest) a w :=
  ⟨SeqY.act0 hK hd hw fun K' hK' => h K' (fun w' h1 h2 => hK'.out w' h1 h2.out)⟩
end
end Go.Proofs.Ytaopjdjbpamhhaa
/- Proved: contract of the law SwapEqual's own code. Conditions: pairs in memory. -/
namespace Go.Proofs.Ytaopjdjbpamhhaa
open Go Go.RowKit
set_option linter.unusedVariables false
set_option linter.unusedSimpArgs false

theorem sameP_self (l : List (Bts × Bts)) : sameP l l = true := sameP_upto rfl fun _ _ _ => ⟨cmpB_self _, cmpB_self _⟩
theorem mirT_self (seed : Int) {t : Tr} (ht : t.good seed) : mirT seed t t = t := mirT_eq ht ht fun m _ => by simp [metB, sameP_self]
theorem not_met {seed : Int} {t u : Tr} (ht : t.good seed) (hu : u.good seed) (h : (talk seed u t [] [] false).any (metB t.pairs u.pairs) = false) : mirT seed u t = t :=
  mirT_eq hu ht fun m hm => by
    rw [List.any_eq_false] at h
    simpa using h m hm

set_option maxRecDepth 100000 in
set_option maxHeartbeats 8000000 in
theorem swapEqual_walk {seed : Int} {D1 D2 : Nat → Prop} {w : World} {v1 v2 : Value} {l1 l2 : List (Bts × Bts)} (h1 : SV pairEl D1 w v1 l1) (h2 : SV pairEl D2 w v2 l2) :
    Calls Try.prog 14 #[.int .u64 seed, v1, v2] w fun e w' => e = .returned (.bool true) ∧ Kept Noneof w w' := by
  (
  have H1 := Lib.hid h1
  have H2 := Lib.hid h2
  obtain ⟨a1, c1, rfl, _⟩ := h1
  obtain ⟨a2, c2, rfl, _⟩ := h2
  go_enter Try.func14, Try.ntmps14
  go_wp2_with fail
  refine (l7few_calls H1.out).mono ?_
  rintro e w1 ⟨rfl, k1⟩
  have K1 := Lib.hid k1
  clear k1
  cases hf1 : fewK l1
  · go_wp2
    go_ret
    exact ⟨rfl, K1.out⟩
  have F1 := Lib.hid hf1
  clear hf1
  go_wp2_with fail
  refine (l7few_calls (H2.out.kept pairEl_k K1.out fun _ _ _ h => h)).mono ?_
  rintro e w2 ⟨rfl, k2⟩
  have K2 := Lib.hid (K1.out.tr k2)
  clear k2
  cases hf2 : fewK l2
  · go_wp2
    go_ret
    exact ⟨rfl, K2.out⟩
  have F2 := Lib.hid hf2
  clear hf2
  go_wp2_with fail
  refine (l7filled_calls (seed := seed) (H1.out.kept pairEl_k K2.out fun _ _ _ h => h) F1.out).mono ?_
  rintro e w3 ⟨m1, G1, rfl, hm1, hg1, _, k3⟩
  have K3 := Lib.hid (K2.out.tr k3)
  have M1 := Lib.hid (hm1.wide (F' := fun b => w.heap.size ≤ b ∧ b < w3.heap.size) fun b h hl => ⟨Nat.le_trans K2.out.size (hg1 b h), hl⟩)
  clear hm1 hg1 k3
  go_wp2_with fail
  refine (l7filled_calls (seed := seed) (H2.out.kept pairEl_k K3.out fun _ _ _ h => h) F2.out).mono ?_
  rintro e w4 ⟨m2, G2, rfl, hm2, hg2, hlo, k4⟩
  have K4 := Lib.hid (K3.out.tr k4)
  have M1b := Lib.hid (M1.out.kept k4 fun _ _ h => h)
  have NE := Lib.hid (show m1 ≠ m2 by have := M1.out.lt; omega)
  have M2 := Lib.hid (hm2.wide (F' := fun b => w3.heap.size ≤ b ∧ b < w4.heap.size) fun b h hl => ⟨hg2 b h, hl⟩)
  have W3 := Lib.hid (show w.heap.size ≤ w3.heap.size from K3.out.size)
  clear hm2 hg2 k4 hlo M1
  have z1 := Lib.hid (Nat.le_trans (fillT_size seed l1) (fewK_iff F1.out).1)
  have z2 := Lib.hid (Nat.le_trans (fillT_size seed l2) (fewK_iff F2.out).1)
  have E1 := Lib.hid (fillT_pairs seed l1)
  have E2 := Lib.hid (fillT_pairs seed l2)
  have T1 := Lib.hid (fillT_good seed l1)
  have T2 := Lib.hid (fillT_good seed l2)
  have O1 := Lib.hid (fillT_okP (seed := seed) (fewK_iff F1.out).2)
  have O2 := Lib.hid (fillT_okP (seed := seed) (fewK_iff F2.out).2))
  have MS := Lib.hid (mirT_size seed T2.out T1.out)
  have XG := Lib.hid (mirT_good (t := fillT seed l1) T2.out)
  go_wp2_with fail
  refine (swMirror_calls (t := fillT seed l1) (u := fillT seed l2) M1b.out M2.out NE.out (Tr.good_srt T2.out) O1.out (by have := z1.out; omega) (by have := z2.out; omega) (by have := z1.out; have := z2.out; omega) fun b h => h.2).mono ?_
  rintro e w5 ⟨v5, G3, rfl, s5, m5, hg3, k5⟩
  have K5 := Lib.hid (K4.out.trans k5 fun b h => .inr (by have := W3.out; omega))
  have M1c := Lib.hid (M1b.out.kept k5 fun b h hh => by omega)
  have m5 : MapAt seed w5 m2 (mirT seed (fillT seed l2) (fillT seed l1)) G3 := m5
  have W4 := Lib.hid k5.size
  have W34 := Lib.hid (show w3.heap.size ≤ w4.heap.size by have := M2.out.lt; obtain ⟨p, S, D, hm⟩ := M2.out; have := hm.fm; omega)
  have M2c := Lib.hid (m5.wide (F' := fun b => w3.heap.size ≤ b ∧ b < w5.heap.size) fun b h hl => ⟨(hg3 b h).elim (fun h => h.1) fun h => by have := W34.out; omega, hl⟩)
  have S5 := Lib.hid (s5.any msgEl_k)
  have TP := Lib.hid (talk_pos (seed := seed) (u := fillT seed l2) (fillT seed l1) [] [] false)
  obtain ⟨x1, q1, hv5, _⟩ := id s5
  subst hv5
  clear s5 m5 hg3 k5 M1b M2
  go_wp2_with fail
  refine (swMirror_calls (t := fillT seed l1) (u := mirT seed (fillT seed l2) (fillT seed l1)) M1c.out M2c.out NE.out (Tr.good_srt XG.out) O1.out (by have := z1.out; omega) (by have := MS.out; have := z1.out; have := z2.out; omega) (by have := MS.out; have := z1.out; have := z2.out; omega) fun b h => h.2).mono ?_
  rintro e w6 ⟨v6, G4, rfl, s6, m6, hg4, k6⟩
  have K6 := Lib.hid (K5.out.trans k6 fun b h => .inr (by have := W3.out; omega))
  have M1d := Lib.hid (M1c.out.kept k6 fun b h hh => by omega)
  have M2d := Lib.hid (show MapAt seed w6 m2 (mirT seed (mirT seed (fillT seed l2) (fillT seed l1)) (fillT seed l1)) G4 from m6)
  have S6 := Lib.hid (s6.any msgEl_k)
  have TP2 := Lib.hid (talk_pos (seed := seed) (u := mirT seed (fillT seed l2) (fillT seed l1)) (fillT seed l1) [] [] false)
  obtain ⟨x2, q2, hv6, _⟩ := id s6
  subst hv6
  clear s6 m6 hg4 k6 M1c M2c
  have p1 : (((talk seed (fillT seed l2) (fillT seed l1) [] [] false).length : Int) == 0) = false := by rw [beq_eq_false_iff_ne]; have := TP.out; omega
  have p2 : (((talk seed (mirT seed (fillT seed l2) (fillT seed l1)) (fillT seed l1) [] [] false).length : Int) == 0) = false := by rw [beq_eq_false_iff_ne]; have := TP2.out; omega
  go_wp2_with fail
  clear p1 p2
  refine (l7sorted_calls (H1.out.still pairEl_k K6.out) (fewK_iff F1.out).1).mono ?_
  rintro e w7 ⟨v7, rfl, s7, k7⟩
  rw [← E1.out] at s7
  have S7 := Lib.hid s7
  have K7 := Lib.hid (K6.out.tr k7)
  have KK7 := Lib.hid k7
  obtain ⟨y1, y2, y3, rfl⟩ := s7.slice'
  clear s7 k7
  go_wp2_with fail
  refine (l7sorted_calls (H2.out.still pairEl_k K7.out) (fewK_iff F2.out).1).mono ?_
  rintro e w8 ⟨v8, rfl, s8, k8⟩
  rw [← E2.out] at s8
  have S8 := Lib.hid s8
  have K8 := Lib.hid (K7.out.tr k8)
  have KK8 := Lib.hid (KK7.out.tr k8)
  have S7b := Lib.hid (S7.out.still pairEl_k k8)
  obtain ⟨y4, y5, y6, rfl⟩ := s8.slice'
  clear s8 k8 S7 KK7
  go_wp2_with fail
  refine (l7sorted_calls (H1.out.still pairEl_k K8.out) (fewK_iff F1.out).1).mono ?_
  rintro e w9 ⟨v9, rfl, s9, k9⟩
  rw [← E1.out] at s9
  have S9 := Lib.hid s9
  have K9 := Lib.hid (K8.out.tr k9)
  have KK9 := Lib.hid (KK8.out.tr k9)
  have S7c := Lib.hid (S7b.out.still pairEl_k k9)
  have S8b := Lib.hid (S8.out.still pairEl_k k9)
  obtain ⟨y7, y8, y9, rfl⟩ := s9.slice'
  clear s9 k9 S7b S8 KK8
  go_wp2_with fail
  refine (l7sorted_calls (H2.out.still pairEl_k K9.out) (fewK_iff F2.out).1).mono ?_
  rintro e wa ⟨va, rfl, sa, ka⟩
  rw [← E2.out] at sa
  have SA := Lib.hid sa
  have KA := Lib.hid (K9.out.tr ka)
  have KKA := Lib.hid (KK9.out.tr ka)
  have S7d := Lib.hid (S7c.out.still pairEl_k ka)
  have S8c := Lib.hid (S8b.out.still pairEl_k ka)
  have S9b := Lib.hid (S9.out.still pairEl_k ka)
  obtain ⟨x3, x4, x5, rfl⟩ := sa.slice'
  clear sa ka S7c S8b S9 KK9
  go_wp2_with fail
  refine (r7Mirror_calls T1.out O1.out T2.out O2.out (by have := z1.out; have := z2.out; omega) S9b.out SA.out).mono ?_
  rintro e wb ⟨vm, vt, rfl, sm, st, kb⟩
  have SM := Lib.hid sm
  have KB := Lib.hid (KA.out.tr kb)
  have KKB := Lib.hid (KKA.out.tr kb)
  have S7e := Lib.hid (S7d.out.still pairEl_k kb)
  have S8d := Lib.hid (S8c.out.still pairEl_k kb)
  obtain ⟨x6, x7, x8, rfl⟩ := sm.slice'
  obtain ⟨u1, u2, u3, rfl⟩ := st.slice'
  clear sm st kb S7d S8c SA S9b KKA
  have hfd : ∀ w : World, (Instr.field 90 (.agg #[.slice x6 x7 x8, .slice u1 u2 u3]) 0).run Try.prog w = .ok (.slice x6 x7 x8) w := fun _ => by kernel_rfl
  go_wp2_with fail
  clear hfd
  refine (l7met_calls (Tr.good_srt T1.out) (Tr.good_srt T2.out) S7e.out S8d.out SM.out).mono ?_
  rintro e wc ⟨rfl, kc⟩
  have KC := Lib.hid (KB.out.tr kc)
  have KKC := Lib.hid (KKB.out.tr kc)
  clear kc S7e S8d SM KKB
  cases hm : (talk seed (fillT seed l2) (fillT seed l1) [] [] false).any (metB (fillT seed l1).pairs (fillT seed l2).pairs)
  · have NM := Lib.hid (not_met T1.out T2.out hm)
    have M1e := Lib.hid (M1d.out.kept KKC.out fun _ _ h => h)
    have M2e := Lib.hid (show MapAt seed wc m2 (fillT seed l1) G4 by
      have := M2d.out.kept KKC.out fun _ _ h => h
      rwa [NM.out, mirT_self seed T1.out] at this)
    have S6b := S6.out.still msgEl_k KKC.out
    rw [NM.out] at S6b ⊢
    obtain ⟨m, hm1, hm2, hm3⟩ := talk_self T1.out
    rw [hm1] at S6b ⊢
    obtain ⟨x2', q2', e6, _, _, rd⟩ := S6b
    simp only [Value.slice.injEq, true_and] at e6
    obtain ⟨rfl, rfl⟩ := e6
    obtain ⟨b1, o1, vl, vh, vp, rfl, _, _, _, _, r3, _, r5, _⟩ := Rd.msg rd (i := 0) (by simp)
    simp only [List.getElem_cons_zero, hm2, hm3, Nat.zero_mul, Nat.add_zero] at r3 r5
    have R3 := Lib.hid r3
    have R5 := Lib.hid r5
    clear hm hm1 hm2 hm3 rd r3 r5
    clear S6
    go_wp2_with fail
    refine wp_region_chain 48 [1, 3, 4, 8, 10, 15, 17, 22, 24, 45] (fun w' => w'.cell? ⟨b1, o1 + 3, none⟩ = some (.int .i64 (fillT seed l1).size) ∧ w'.cell? ⟨b1, o1 + 5, none⟩ = some (.bool true)) (by kernel_rfl) (chain_mask [0, 1, 0, 7, 15, 31, 63, 127, 255, 127, 1023, 2047, 4095, 8191, 16383, 32767, 16383, 131071, 262143, 524287, 1048575, 2097151, 4194303, 2097151, 16777215, 33554431, 67108863, 134217727, 268435455, 536870911, 1073741823, 2147483647, 4294967295, 8589934591, 17179869183, 34359738367, 68719476735, 137438953471, 274877906943, 549755813887, 1099511627775, 2199023255551, 4398046511103, 8796093022207, 1099511627775, 18691697672191, 70368744177663, 140737488355327, 281474976710655] (by kernel_rfl)) ?_ ?_
    · exact ⟨R3.out, R5.out⟩
    simp only [List.take_succ_cons, List.take_zero, List.drop_succ_cons, List.drop_zero]
    have r3 : wc.drew.cell? ⟨b1, o1 + 3, none⟩ = some (.int .i64 (fillT seed l1).size) := R3.out
    have r5 : wc.drew.cell? ⟨b1, o1 + 5, none⟩ = some (.bool true) := R5.out
    have kc : Kept Noneof wc wc.drew := (Kept.refl Noneof wc).drew
    have M1f := Lib.hid (M1e.out.kept kc fun _ _ h => h)
    have M2f := Lib.hid (M2e.out.kept kc fun _ _ h => h)
    have KC := Lib.hid (KC.out.tr kc)
    generalize wc.drew = wc' at *
    clear kc R3 R5 M1e M2e
    have sz := Lib.hid (show (fillT seed l1).size ≤ 100000 by have := z1.out; omega)
    (refine SeqY.val (v := ?_) (by rfl) (by rfl) (fun wx hSw => ?_) ?_; rotate_left; (focus ((try dsimp only at hSw); go_simp; (try with_reducible rfl))); (try simp only [Act.put, List.setIfInBounds_toArray, List.set_cons_zero, List.set_cons_succ]))
    refine SeqY.act (by rfl) rfl (by rfl) (by rfl) (fun K hK => ?_)
    go_simp
    refine (orImage_calls M1f.out sz.out).mono ?_
    rintro e wd ⟨vd, rfl, od, kd⟩
    refine hK.out _ _ ⟨kd.cell (fun h => h) r3, kd.cell (fun h => h) r5⟩ ?_
    have r3 := kd.cell (fun h => h) r3
    have r5 := kd.cell (fun h => h) r5
    have M1g := Lib.hid (M1f.out.kept kd fun _ _ h => h)
    have M2g := Lib.hid (M2f.out.kept kd fun _ _ h => h)
    have KD := Lib.hid (KC.out.tr kd)
    have OD := Lib.hid od.sv
    obtain ⟨d1, d2, d3, rfl⟩ := od.slice'
    clear od kd M1f M2f
    clear K hK
    (try simp only [Act.put, List.setIfInBounds_toArray, List.set_cons_zero, List.set_cons_succ])
    (refine SeqY.val (v := ?_) (by rfl) (by rfl) (fun wx hSw => ?_) ?_; rotate_left; (focus ((try dsimp only at hSw); go_simp; (try with_reducible rfl))); (try simp only [Act.put, List.setIfInBounds_toArray, List.set_cons_zero, List.set_cons_succ]))
    refine SeqY.act (by rfl) rfl (by rfl) (by rfl) (fun K hK => ?_)
    go_simp
    refine (orImage_calls M2g.out sz.out).mono ?_
    rintro e we ⟨ve, rfl, oe, ke⟩
    refine hK.out _ _ ⟨ke.cell (fun h => h) r3, ke.cell (fun h => h) r5⟩ ?_
    have r3 := ke.cell (fun h => h) r3
    have r5 := ke.cell (fun h => h) r5
    have M1h := Lib.hid (M1g.out.kept ke fun _ _ h => h)
    have M2h := Lib.hid (M2g.out.kept ke fun _ _ h => h)
    have KE := Lib.hid (KD.out.tr ke)
    have OD2 := Lib.hid (OD.out.still byteEl_k ke)
    have OE := Lib.hid oe.sv
    obtain ⟨e1, e2, e3, rfl⟩ := oe.slice'
    clear oe ke M1g M2g OD
    clear K hK
    (try simp only [Act.put, List.setIfInBounds_toArray, List.set_cons_zero, List.set_cons_succ])
    refine SeqY.act (by rfl) rfl (by rfl) (by rfl) (fun K hK => ?_)
    go_simp
    refine (r2Compare_calls OD2.out OE.out).mono ?_
    rintro e wf ⟨rfl, df⟩
    rw [cmpB_self]
    have kf : Kept Noneof we wf := (Kept.refl Noneof we).drewn df
    refine hK.out _ _ ⟨kf.cell (fun h => h) r3, kf.cell (fun h => h) r5⟩ ?_
    have r3 := kf.cell (fun h => h) r3
    have r5 := kf.cell (fun h => h) r5
    have M1i := Lib.hid (M1h.out.kept kf fun _ _ h => h)
    have M2i := Lib.hid (M2h.out.kept kf fun _ _ h => h)
    have KF := Lib.hid (KE.out.tr kf)
    clear kf df M1h M2h OD2 OE
    clear K hK
    (try simp only [Act.put, List.setIfInBounds_toArray, List.set_cons_zero, List.set_cons_succ])
    iterate 3 (refine SeqY.val (v := ?_) (by rfl) (by rfl) (fun wx hSw => ?_) ?_; rotate_left; (focus ((try dsimp only at hSw); go_simp; (try with_reducible rfl))); (try simp only [Act.put, List.setIfInBounds_toArray, List.set_cons_zero, List.set_cons_succ]))
    refine SeqY.act (by rfl) rfl (by rfl) (by rfl) (fun K hK => ?_)
    go_simp
    refine (orDigest_calls M1i.out).mono ?_
    rintro e wx ⟨rfl, rfl⟩
    refine hK.out _ _ ⟨r3, r5⟩ ?_
    clear K hK
    (try simp only [Act.put, List.setIfInBounds_toArray, List.set_cons_zero, List.set_cons_succ])
    (refine SeqY.val (v := ?_) (by rfl) (by rfl) (fun wx hSw => ?_) ?_; rotate_left; (focus ((try dsimp only at hSw); go_simp; (try with_reducible rfl))); (try simp only [Act.put, List.setIfInBounds_toArray, List.set_cons_zero, List.set_cons_succ]))
    refine SeqY.act (by rfl) rfl (by rfl) (by rfl) (fun K hK => ?_)
    go_simp
    refine (orDigest_calls M2i.out).mono ?_
    rintro e wx ⟨rfl, rfl⟩
    refine hK.out _ _ ⟨r3, r5⟩ ?_
    clear K hK
    (try simp only [Act.put, List.setIfInBounds_toArray, List.set_cons_zero, List.set_cons_succ])
    iterate 4 (refine SeqY.val (v := ?_) (by rfl) (by rfl) (fun wx hSw => ?_) ?_; rotate_left; (focus ((try dsimp only at hSw); go_simp; (try with_reducible rfl))); (try simp only [Act.put, List.setIfInBounds_toArray, List.set_cons_zero, List.set_cons_succ]))
    refine SeqY.act (by rfl) rfl (by rfl) (by rfl) (fun K hK => ?_)
    go_simp
    refine (orLen_calls M1i.out).mono ?_
    rintro e wx ⟨rfl, rfl⟩
    refine hK.out _ _ ⟨r3, r5⟩ ?_
    clear K hK
    (try simp only [Act.put, List.setIfInBounds_toArray, List.set_cons_zero, List.set_cons_succ])
    (refine SeqY.val (v := ?_) (by rfl) (by rfl) (fun wx hSw => ?_) ?_; rotate_left; (focus ((try dsimp only at hSw); go_simp; (try with_reducible rfl))); (try simp only [Act.put, List.setIfInBounds_toArray, List.set_cons_zero, List.set_cons_succ]))
    refine SeqY.act (by rfl) rfl (by rfl) (by rfl) (fun K hK => ?_)
    go_simp
    refine (orLen_calls M2i.out).mono ?_
    rintro e wx ⟨rfl, rfl⟩
    refine hK.out _ _ ⟨r3, r5⟩ ?_
    clear K hK
    (try simp only [Act.put, List.setIfInBounds_toArray, List.set_cons_zero, List.set_cons_succ])
    iterate 4 (refine SeqY.val (v := ?_) (by rfl) (by rfl) (fun wx hSw => ?_) ?_; rotate_left; (focus ((try dsimp only at hSw); go_simp; (try with_reducible rfl))); (try simp only [Act.put, List.setIfInBounds_toArray, List.set_cons_zero, List.set_cons_succ]))
    refine SeqY.act (by rfl) rfl (by rfl) (by rfl) (fun K hK => ?_)
    go_simp
    refine (orLen_calls M1i.out).mono ?_
    rintro e wx ⟨rfl, rfl⟩
    refine hK.out _ _ ⟨r3, r5⟩ ?_
    clear K hK
    (try simp only [Act.put, List.setIfInBounds_toArray, List.set_cons_zero, List.set_cons_succ])
    (refine SeqY.val (v := ?_) (by rfl) (by rfl) (fun wx hSw => ?_) ?_; rotate_left; (focus ((try dsimp only at hSw); go_simp; (try with_reducible rfl))); (try simp only [Act.put, List.setIfInBounds_toArray, List.set_cons_zero, List.set_cons_succ]))
    refine SeqY.act (by rfl) rfl (by rfl) (by rfl) (fun K hK => ?_)
    go_simp
    refine (l7sorted_calls (H1.out.still pairEl_k KF.out) (fewK_iff F1.out).1).mono ?_
    rintro e wg ⟨vg, rfl, sg, kg⟩
    rw [← E1.out] at sg
    refine hK.out _ _ ⟨kg.cell (fun h => h) r3, kg.cell (fun h => h) r5⟩ ?_
    have r3 := kg.cell (fun h => h) r3
    have r5 := kg.cell (fun h => h) r5
    have M1j := Lib.hid (M1i.out.kept kg fun _ _ h => h)
    have KG := Lib.hid (KF.out.tr kg)
    obtain ⟨g1, g2, rfl, _⟩ := sg
    rw [Tr.pairs_len]
    clear kg M1i M2i
    clear K hK
    (try simp only [Act.put, List.setIfInBounds_toArray, List.set_cons_zero, List.set_cons_succ])
    iterate 20 (refine SeqY.val (v := ?_) (by rfl) (by rfl) (fun wx hSw => ?_) ?_; rotate_left; (focus ((try dsimp only at hSw); go_simp; (try with_reducible rfl))); (try simp only [Act.put, List.setIfInBounds_toArray, List.set_cons_zero, List.set_cons_succ]))
    refine SeqY.act (by rfl) rfl (by rfl) (by rfl) (fun K hK => ?_)
    go_simp
    refine (orLen_calls M1j.out).mono ?_
    rintro e wx ⟨rfl, rfl⟩
    refine hK.out _ _ ⟨r3, r5⟩ ?_
    clear K hK
    (try simp only [Act.put, List.setIfInBounds_toArray, List.set_cons_zero, List.set_cons_succ])
    (refine SeqY.val (v := ?_) (by rfl) (by rfl) (fun wx hSw => ?_) ?_; rotate_left; (focus ((try dsimp only at hSw); go_simp; (try with_reducible rfl))); (try simp only [Act.put, List.setIfInBounds_toArray, List.set_cons_zero, List.set_cons_succ]))
    (refine SeqY.val (v := ?_) (by rfl) (by rfl) (fun wx hSw => ?_) ?_; rotate_left; (focus ((try dsimp only at hSw); go_simp; (try with_reducible rfl))); (try simp only [Act.put, List.setIfInBounds_toArray, List.set_cons_zero, List.set_cons_succ]))
    refine SeqY.nil ?_
    go_wp2
    go_ret
    exact ⟨rfl, KG.out⟩
  · clear hm
    go_wp2
    go_ret
    exact ⟨rfl, KC.out⟩
end Go.Proofs.Ytaopjdjbpamhhaa
/- Proved: contract of swap.Mirror on two maps of one seed, that says too that the messages lie in new memory. Conditions: maps in memory, at different places. -/
namespace Go.Proofs.Ytaopjdjbpamhhaa
open Go Go.RowKit
set_option linter.unusedVariables false
set_option linter.unusedSimpArgs false

set_option maxRecDepth 100000 in
set_option maxHeartbeats 8000000 in
theorem swMirror_new {seed : Int} {w : World} {m1 m2 : Nat} {t u : Tr} {F1 F2 : Nat → Prop} (hf : MapAt seed w m1 t F1) (ht : MapAt seed w m2 u F2) (hne : m1 ≠ m2) (hg : Srt u.pairs) (hok : t.ok) (h1 : t.size ≤ 100000) (h2 : u.size ≤ 100000) (h12 : u.size + t.size < 100000) (hd : ∀ b, F2 b → b < w.heap.size) :
    Calls Try.prog 56 #[bp m1, bp m2] w fun e w' => ∃ v F2', e = .returned (.tuple #[v, .int .i64 0]) ∧ SV msgEl (fun b => ¬ F2' b ∧ w.heap.size ≤ b) w' v (talk seed u t [] [] false) ∧ MapAt seed w' m2 (putAll seed (dropAll seed u (gones seed u t [] [] false)) (comes seed u t [] [] false)) F2' ∧ (∀ b, F2' b → F2 b ∨ w.heap.size ≤ b) ∧ Kept F2 w w' := by
  have HF := Lib.hid hf
  have HT := Lib.hid ht
  have HG := Lib.hid hg
  have OK := Lib.hid hok
  have S1 := Lib.hid h1
  have S2 := Lib.hid h2
  have HD := Lib.hid hd
  have NE := Lib.hid hne
  have S12 := Lib.hid h12
  clear hf ht hg hok h1 h2 h12 hd
  go_enter Try.func56, Try.ntmps56
  have heq : ∀ o, (binOp .eql 83 (bp m1) (bp m2)).run Try.prog (w.alloc o) = .ok (.bool false) (w.alloc o) := fun o => map_ne (HF.out.kept ((Kept.refl Noneof w).alloc o) fun _ _ h => h) (HT.out.kept ((Kept.refl Noneof w).alloc o) fun _ _ h => h) NE.out
  go_wp2_with fail
  have G3 := heap_alloc_new w (.cells #[bp m2] 83)
  have K1 := (Kept.refl Noneof w).alloc (.cells #[bp m2] 83)
  have s3 : (w.alloc (.cells #[bp m2] 83)).heap.size = w.heap.size + 1 := by simp
  generalize w.alloc (.cells #[bp m2] 83) = w1 at *
  refine (orKin_calls (HF.out.kept K1 fun _ _ h => h) (HT.out.kept K1 fun _ _ h => h)).mono ?_
  rintro e w2 ⟨rfl, dw⟩
  have K2 := K1.drewn dw
  have G3 := (((Kept.refl Noneof w1).drewn dw)).obj (fun h => h) G3
  have e2 : w2.heap.size = w.heap.size + 1 := by rw [dw.heap, s3]
  have hkin : (seed == seed) = true := by simp
  clear dw heq K1 s3
  go_wp2_with fail
  refine (orNodes_calls (HF.out.kept K2 fun _ _ h => h) (by have := S1.out; omega)).mono ?_
  rintro e w3 ⟨vn, rfl, on, k3⟩
  have ON := Lib.hid on
  obtain ⟨an, cn, hvn⟩ := on.slice
  rw [Tr.nodes_len] at hvn
  subst hvn
  have K3 := Lib.hid (K2.trans k3 fun _ h => h.elim)
  have G3 := Lib.hid (k3.obj (fun h => h) G3)
  have E3 := Lib.hid (show w.heap.size + 1 ≤ w3.heap.size by have := k3.size; omega)
  have K2s := Lib.hid K2.size
  clear on K2 k3 e2 hkin
  have hst : ∀ (W : World) (a : Addr) (g : Fn) (x y : Array Value), (store a (.func g x y)).run Try.prog W = stored Try.prog W a (.func g x y) .plain := fun W a g x y => run_store _ _ _ _ _ rfl
  by_cases hz : t.size = 0
  · have hn : t = .nil := by cases t with
      | nil => rfl
      | nd l k v r => simp [Tr.size] at hz
    have ON : Hid (Own 172 nodeEl (fun b => w2.heap.size ≤ b) w2.heap.size w3 (.slice an 0 cn) (t.nodes seed 0)) := by rw [← hz]; exact ON
    rw [hz]
    go_wp2_with fail
    (
    obtain ⟨g2, g4, g5, g6, g7, s5, k35⟩ := alloc5 w3 (.cells #[.slice an 0 cn] 166) (.cells #[.slice none 0 0] 85) (.cells #[.slice none 0 0] 51) (.cells #[.slice none 0 0] 65) (.cells #[.func (.func 117) #[] #[bp w3.heap.size, bp w.heap.size, bp (w3.heap.size + 1), bp (w3.heap.size + 1 + 1), bp (w3.heap.size + 1 + 1 + 1), bp (w3.heap.size + 1 + 1 + 1 + 1)]] 168)
    generalize ((((w3.alloc (.cells #[.slice an 0 cn] 166)).alloc (.cells #[.slice none 0 0] 85)).alloc (.cells #[.slice none 0 0] 51)).alloc (.cells #[.slice none 0 0] 65)).alloc (.cells #[.func (.func 117) #[] #[bp w3.heap.size, bp w.heap.size, bp (w3.heap.size + 1), bp (w3.heap.size + 1 + 1), bp (w3.heap.size + 1 + 1 + 1), bp (w3.heap.size + 1 + 1 + 1 + 1)]] 168) = w4 at *
    have e3 := E3.out
    have SN : SV nodeEl (fun b => w2.heap.size ≤ b ∧ b < w3.heap.size) w4 (.slice an 0 cn) (t.nodes seed 0) := ((ON.out.sv.bd nodeEl_k).wide (D' := fun b => w2.heap.size ≤ b ∧ b < w3.heap.size) nodeEl_k fun b h _ => by omega).kept nodeEl_k k35 fun _ _ _ h => h
    have K4 := Lib.hid (K3.out.trans k35 fun _ h => h.elim)
    have TI : TalkIn seed u ⟨w3.heap.size, w.heap.size, w3.heap.size + 1, w3.heap.size + 1 + 1, w3.heap.size + 1 + 1 + 1, w3.heap.size + 1 + 1 + 1 + 1, .slice an 0 cn, m2, (fun b => b < w.heap.size), fun b => w2.heap.size ≤ b ∧ b < w3.heap.size, w3.heap.size + 5, t.nodes seed 0⟩ (fun b => w2.heap.size ≤ b ∧ b < w3.heap.size) (.slice none 0 0) (.slice none 0 0) (.slice none 0 0) w4 [] [] [] :=
      ⟨g2, k35.obj (fun h => h) G3.out, g4, g5, g6, g7, SN, (HT.out.wide (F' := fun b => b < w.heap.size) fun b h hl => hl).kept K4.out fun _ _ h => h, Own.nil _ _ _ _ _, Own.nil _ _ _ _ _, Own.nil _ _ _ _ _, ⟨by simp, by simp; omega, by simp, by simp, by simp, by simp⟩, ⟨by simp, by simp; omega, by simp, by simp, by simp, by simp; omega, by simp; omega, by simp, by simp, by simp; omega, by simp; omega, by simp⟩,
        fun b h => ⟨h, by have : b < w3.heap.size := h.2; simp only; omega⟩, fun b h => by have h : b < w.heap.size := h; have := K2s.out; simp only; omega, fun b h => ⟨by omega, by simp only; omega, by simp [Value.ownBlock], by simp [Value.ownBlock], by simp [Value.ownBlock]⟩, fun b => by simp [Value.ownBlock], by simp only; omega, fun b h e => by have e : b < w.heap.size := e; have := K2s.out; omega⟩
    clear g2 g4 g5 g6 g7 k35 SN
    refine (swMirror_1_calls (c := ⟨w3.heap.size, w.heap.size, w3.heap.size + 1, w3.heap.size + 1 + 1, w3.heap.size + 1 + 1 + 1, w3.heap.size + 1 + 1 + 1 + 1, .slice an 0 cn, m2, (fun b => b < w.heap.size), fun b => w2.heap.size ≤ b ∧ b < w3.heap.size, w3.heap.size + 5, t.nodes seed 0⟩) HG.out (by have := S2.out; omega) (by rw [Tr.nodes_len]; have := S1.out; omega) t OK.out _ _ _ _ w4 [] [] [] _ _ [] [] false _ TI (BV.nil _ _) (BV.nil _ _) (by subst hn; rfl) (by have := S1.out; simp only [List.length_nil]; omega) (mir_bnd S1.out) (by have := S1.out; simp only [List.length_nil]; omega)).mono ?_
    rintro e w5 ⟨⟨v5, rfl⟩, R5, vo, vg, vc, T5, hR5, k5, hb5⟩
    (
    rw [List.nil_append, List.nil_append, List.nil_append] at T5
    generalize hG : gones seed u t [] [] false = G at *
    generalize hC : comes seed u t [] [] false = C at *
    generalize hO : talk seed u t [] [] false = O at *
    have hlG : G.length ≤ 1000000000000 := by rw [← hG]; exact Nat.le_trans (gones_le seed u (by have := S2.out; omega) t [] [] false) (by have := mir_bnd S1.out; simpa using this)
    have hlC : C.length ≤ 100000 := by rw [← hC]; exact Nat.le_trans (comes_le seed u t [] [] false) S1.out
    have HT5 := Lib.hid T5
    have K5 := Lib.hid k5
    obtain ⟨ao, co, rfl⟩ := T5.ho.slice
    obtain ⟨ag, cg, rfl⟩ := T5.hg.slice
    obtain ⟨ac, cc, rfl⟩ := T5.hc.slice
    have z5 : w5.cell? ⟨w3.heap.size + 1 + 1, 0, none⟩ = some (.slice ag G.length cg) := by have := T5.h5; simp [World.cell?, this]
    clear T5 k5 hb5 TI
    have hF0 : ∀ b, R5 b ∨ w3.heap.size + 5 ≤ b → ¬ F2 b := fun b h e => h.elim (fun h => HT5.out.hRF b h (HD.out b e)) fun h => by have := HD.out b e; have := E3.out; omega
    have HF0 := Lib.hid hF0
    have SG := Lib.hid (show SV bytesEl (fun b => R5 b ∨ w3.heap.size + 5 ≤ b) w5 (.slice ag G.length cg) G from HT5.out.hg.sv)
    have SC := Lib.hid (show SV pairEl (fun b => R5 b ∨ w3.heap.size + 5 ≤ b) w5 (.slice ac C.length cc) C from HT5.out.hc.sv)
    have M5 := Lib.hid (show MapAt seed w5 m2 u F2 from (HT.out.kept K4.out fun _ _ h => h).kept K5.out fun b hb e => by
      have := HD.out b hb
      have := E3.out
      rcases e with e | e | e | e | e | e
      · simp only at e; omega
      · simp only at e; omega
      · simp only at e; omega
      · cases e
      · cases e
      · cases e)
    have hFw : ¬ F2 w.heap.size := fun e => by have := HD.out _ e; omega
    have z3 : w5.cell? ⟨w.heap.size, 0, none⟩ = some (bp m2) := by have := HT5.out.h3; simp only at this; simp [World.cell?, this]
    have Z3 := Lib.hid z3
    have HFW := Lib.hid hFw
    clear hF0 hFw z3
    go_wp2_with fail
    go_loopw [37] (fun i wr => ∃ n : Nat, n ≤ G.length ∧ i = .int .i64 n ∧ Hid (MapAt seed wr m2 (dropAll seed u (G.take n)) F2) ∧ Hid (Kept F2 w5 wr)) (fun i _ => G.length - (intOf i).toNat)
    case atStart => exact ⟨0, Nat.zero_le _, rfl, M5, Lib.hid (Kept.refl _ _)⟩
    case round =>
      obtain ⟨n, hn, rfl, hm, kw⟩ := hrel
      have z3 := kw.out.cell (p := ⟨w.heap.size, 0, none⟩) HFW.out Z3.out
      by_cases hl : n < G.length
      · obtain ⟨_, _, hsl, _, _, rd⟩ := SG.out
        simp only [Value.slice.injEq] at hsl
        obtain ⟨rfl, -, rfl⟩ := hsl
        have rd := rd.kept bytesEl_k kw.out fun b h _ => HF0.out b h
        obtain ⟨b1, o1, kv, rfl, hDb, g0, hkv⟩ := Rd.bytes rd hl
        have HKV := Lib.hid hkv
        obtain ⟨a7, c7, rfl, _⟩ := id hkv
        clear rd hkv
        go_wp2_with fail
        cases hget : ((dropAll seed u (G.take n)).get G[n]).isSome
        · refine (orMapDrop_none hm.out HKV.out (by simpa using hget)).mono ?_
          rintro e w7 ⟨rfl, rfl⟩
          go_wp2
          go_roundw
          case rel => exact ⟨n + 1, by omega, by go_num, by rw [dropAll_succ seed u G n hl, hget]; exact hm, kw⟩
          case measure => simp [intOf]; omega
        · refine (orMapDrop_ok hm.out HKV.out (fun b h _ => HF0.out b h) hget).mono ?_
          rintro e w7 ⟨rfl, hm7, k7⟩
          go_wp2
          go_roundw
          case rel => exact ⟨n + 1, by omega, by go_num, by rw [dropAll_succ seed u G n hl, hget]; exact Lib.hid hm7, Lib.hid (kw.out.tr k7)⟩
          case measure => simp [intOf]; omega
      · obtain rfl : n = G.length := by omega
        have M6 := Lib.hid (show MapAt seed wr m2 (dropAll seed u G) F2 by have := hm.out; rwa [List.take_length] at this)
        have z6 : wr.cell? ⟨w3.heap.size + 1 + 1 + 1, 0, none⟩ = some (.slice ac C.length cc) := kw.out.cell (p := ⟨w3.heap.size + 1 + 1 + 1, 0, none⟩) (fun e => by have := HD.out (w3.heap.size + 1 + 1 + 1) e; have := E3.out; omega) (by have := HT5.out.h6; simp only at this; simp [World.cell?, this])
        have U1 := Lib.hid (show (dropAll seed u G).size + C.length < 100000 by have := dropAll_size seed G u; have := S12.out; rw [← hC]; have := comes_le seed u t [] [] false; omega)
        have CO := Lib.hid (show ∀ p ∈ C, okP p by rw [← hC]; exact comes_ok seed u t [] [] false OK.out)
        clear hm
        generalize hU : dropAll seed u G = U at *
        go_wp2_with fail
        go_loopw [47] (fun i wq => ∃ (n : Nat) (F' : Nat → Prop), n ≤ C.length ∧ i = .int .i64 n ∧ Hid (MapAt seed wq m2 (putAll seed U (C.take n)) F') ∧ Hid (∀ b, F' b → F2 b ∨ w5.heap.size ≤ b) ∧ Hid (Kept F2 w5 wq)) (fun i _ => C.length - (intOf i).toNat)
        case atStart => exact ⟨0, F2, Nat.zero_le _, rfl, M6, Lib.hid fun b h => .inl h, kw⟩
        case round =>
          obtain ⟨n, F', hn, rfl, hm, hF', kq⟩ := hrel
          have z3' := kq.out.cell (p := ⟨w.heap.size, 0, none⟩) HFW.out Z3.out
          by_cases hl : n < C.length
          · obtain ⟨_, _, hsl, _, _, rd⟩ := SC.out
            simp only [Value.slice.injEq] at hsl
            obtain ⟨rfl, -, rfl⟩ := hsl
            have rd := rd.kept pairEl_k kq.out fun b h _ => HF0.out b h
            obtain ⟨b1, o1, uk, uv, rfl, hDb, g0, g1, hkv, hvv⟩ := Rd.pair rd hl
            have HKV := Lib.hid hkv
            have HVV := Lib.hid hvv
            obtain ⟨a7, c7, rfl, _⟩ := id hkv
            obtain ⟨a8, c8, rfl, _⟩ := id hvv
            have zA : ∀ o, (wr.alloc o).cell? ⟨w.heap.size, 0, none⟩ = some (bp m2) := fun o => ((Kept.refl Noneof _).alloc o).cell (p := ⟨w.heap.size, 0, none⟩) (fun h => h) z3'
            clear rd hkv hvv
            have ka := (Kept.refl Noneof wr).alloc (.cells #[.slice a7 C[n].1.length c7, .slice a8 C[n].2.length c8] 70)
            have hps : (putAll seed U (C.take n)).size < 100000 := by
              have h1 := putAll_size seed (C.take n) U
              have h2 := U1.out
              rw [List.length_take] at h1
              omega
            have HPS := Lib.hid hps
            have KA := Lib.hid ka
            clear hps ka
            go_wp2_with fail
            refine (orMapPut_ok (hm.out.kept KA.out fun _ _ h => h) (HKV.out.kept byteEl_k KA.out fun _ _ _ h => h) (HVV.out.kept byteEl_k KA.out fun _ _ _ h => h) (okP_allowed (CO.out _ (List.getElem_mem hl))) HPS.out).mono ?_
            rintro e w7 ⟨rfl, F7, hm7, k7, hF7⟩
            have hM7 := Lib.hid hm7
            have hFF := Lib.hid (show ∀ b, F7 b → F2 b ∨ w5.heap.size ≤ b from fun b h => (hF7 b h).elim (hF'.out b) fun h => .inr (by have := kq.out.size; have := KA.out.size; omega))
            have hKK := Lib.hid ((kq.out.trans KA.out fun _ h => h.elim).trans k7 hF'.out)
            clear hm7 hF7 k7 zA
            go_wp2
            go_roundw
            case rel => exact ⟨n + 1, F7, by omega, by go_num, by rw [putAll_succ seed U C n hl]; exact hM7, hFF, hKK⟩
            case measure => simp [intOf]; omega
          · obtain rfl : n = C.length := by omega
            have M7 := Lib.hid (show MapAt seed wr m2 (putAll seed U C) F' by have := hm.out; rwa [List.take_length] at this)
            have z4 : wr.cell? ⟨w3.heap.size + 1, 0, none⟩ = some (.slice ao O.length co) := kq.out.cell (p := ⟨w3.heap.size + 1, 0, none⟩) (fun e => by have := HD.out (w3.heap.size + 1) e; have := E3.out; omega) (by have := HT5.out.h4; simp only at this; simp [World.cell?, this])
            have hsv := ((HT5.out.ho.sv.bd msgEl_k).kept msgEl_k kq.out fun b h _ => HF0.out b h.1).wide (D' := fun b => ¬ F' b ∧ w.heap.size ≤ b) msgEl_k fun b h _ => ⟨fun e => (hF'.out b e).elim (HF0.out b h.1) fun e => by omega, h.1.elim (fun h => by have := HT5.out.hRF b h; simp only at this; omega) fun h => by have h : w3.heap.size + 5 ≤ b := h; have := E3.out; have := K2s.out; omega⟩
            have HSV := Lib.hid hsv
            have hw5 := K5.out.size
            have hw4 := K4.out.size
            have e3 := E3.out
            have KF := Lib.hid (((K4.out.trans K5.out fun b e => .inr (by
              rcases e with e | e | e | e | e | e
              · simp only at e; omega
              · simp only at e; omega
              · simp only at e; omega
              · cases e
              · cases e
              · cases e)).mono (T := F2) fun _ h => h.elim).tr kq.out)
            clear hsv
            go_wp2
            go_ret2
            exact ⟨.slice ao O.length co, F', rfl, by rw [hO]; exact HSV.out, by rw [hG, hC, hU]; exact M7.out, fun b h => (hF'.out b h).imp id fun h => by omega, KF.out⟩))
  · have hpos : 0 < t.size := by omega
    have NA : NodesAt seed (t.nodes seed 0) t 0 := by
      cases t with
      | nil => exact absurd rfl hz
      | nd l k v r => exact ⟨[], [], by simp, rfl⟩
    go_wp2_with fail
    (
    obtain ⟨g2, g4, g5, g6, g7, s5, k35⟩ := alloc5 w3 (.cells #[.slice an t.size cn] 166) (.cells #[.slice none 0 0] 85) (.cells #[.slice none 0 0] 51) (.cells #[.slice none 0 0] 65) (.cells #[.func (.func 117) #[] #[bp w3.heap.size, bp w.heap.size, bp (w3.heap.size + 1), bp (w3.heap.size + 1 + 1), bp (w3.heap.size + 1 + 1 + 1), bp (w3.heap.size + 1 + 1 + 1 + 1)]] 168)
    generalize ((((w3.alloc (.cells #[.slice an t.size cn] 166)).alloc (.cells #[.slice none 0 0] 85)).alloc (.cells #[.slice none 0 0] 51)).alloc (.cells #[.slice none 0 0] 65)).alloc (.cells #[.func (.func 117) #[] #[bp w3.heap.size, bp w.heap.size, bp (w3.heap.size + 1), bp (w3.heap.size + 1 + 1), bp (w3.heap.size + 1 + 1 + 1), bp (w3.heap.size + 1 + 1 + 1 + 1)]] 168) = w4 at *
    have e3 := E3.out
    have SN : SV nodeEl (fun b => w2.heap.size ≤ b ∧ b < w3.heap.size) w4 (.slice an t.size cn) (t.nodes seed 0) := ((ON.out.sv.bd nodeEl_k).wide (D' := fun b => w2.heap.size ≤ b ∧ b < w3.heap.size) nodeEl_k fun b h _ => by omega).kept nodeEl_k k35 fun _ _ _ h => h
    have K4 := Lib.hid (K3.out.trans k35 fun _ h => h.elim)
    have TI : TalkIn seed u ⟨w3.heap.size, w.heap.size, w3.heap.size + 1, w3.heap.size + 1 + 1, w3.heap.size + 1 + 1 + 1, w3.heap.size + 1 + 1 + 1 + 1, .slice an t.size cn, m2, (fun b => b < w.heap.size), fun b => w2.heap.size ≤ b ∧ b < w3.heap.size, w3.heap.size + 5, t.nodes seed 0⟩ (fun b => w2.heap.size ≤ b ∧ b < w3.heap.size) (.slice none 0 0) (.slice none 0 0) (.slice none 0 0) w4 [] [] [] :=
      ⟨g2, k35.obj (fun h => h) G3.out, g4, g5, g6, g7, SN, (HT.out.wide (F' := fun b => b < w.heap.size) fun b h hl => hl).kept K4.out fun _ _ h => h, Own.nil _ _ _ _ _, Own.nil _ _ _ _ _, Own.nil _ _ _ _ _, ⟨by simp, by simp; omega, by simp, by simp, by simp, by simp⟩, ⟨by simp, by simp; omega, by simp, by simp, by simp, by simp; omega, by simp; omega, by simp, by simp, by simp; omega, by simp; omega, by simp⟩,
        fun b h => ⟨h, by have : b < w3.heap.size := h.2; simp only; omega⟩, fun b h => by have h : b < w.heap.size := h; have := K2s.out; simp only; omega, fun b h => ⟨by omega, by simp only; omega, by simp [Value.ownBlock], by simp [Value.ownBlock], by simp [Value.ownBlock]⟩, fun b => by simp [Value.ownBlock], by simp only; omega, fun b h e => by have e : b < w.heap.size := e; have := K2s.out; omega⟩
    clear g2 g4 g5 g6 g7 k35 SN
    refine (swMirror_1_calls (c := ⟨w3.heap.size, w.heap.size, w3.heap.size + 1, w3.heap.size + 1 + 1, w3.heap.size + 1 + 1 + 1, w3.heap.size + 1 + 1 + 1 + 1, .slice an t.size cn, m2, (fun b => b < w.heap.size), fun b => w2.heap.size ≤ b ∧ b < w3.heap.size, w3.heap.size + 5, t.nodes seed 0⟩) HG.out (by have := S2.out; omega) (by rw [Tr.nodes_len]; have := S1.out; omega) t OK.out _ _ _ _ w4 [] [] [] _ _ [] [] false _ TI (BV.nil _ _) (BV.nil _ _) NA (by have := S1.out; simp only [List.length_nil]; omega) (mir_bnd S1.out) (by have := S1.out; simp only [List.length_nil]; omega)).mono ?_
    rintro e w5 ⟨⟨v5, rfl⟩, R5, vo, vg, vc, T5, hR5, k5, hb5⟩
    (
    rw [List.nil_append, List.nil_append, List.nil_append] at T5
    generalize hG : gones seed u t [] [] false = G at *
    generalize hC : comes seed u t [] [] false = C at *
    generalize hO : talk seed u t [] [] false = O at *
    have hlG : G.length ≤ 1000000000000 := by rw [← hG]; exact Nat.le_trans (gones_le seed u (by have := S2.out; omega) t [] [] false) (by have := mir_bnd S1.out; simpa using this)
    have hlC : C.length ≤ 100000 := by rw [← hC]; exact Nat.le_trans (comes_le seed u t [] [] false) S1.out
    have HT5 := Lib.hid T5
    have K5 := Lib.hid k5
    obtain ⟨ao, co, rfl⟩ := T5.ho.slice
    obtain ⟨ag, cg, rfl⟩ := T5.hg.slice
    obtain ⟨ac, cc, rfl⟩ := T5.hc.slice
    have z5 : w5.cell? ⟨w3.heap.size + 1 + 1, 0, none⟩ = some (.slice ag G.length cg) := by have := T5.h5; simp [World.cell?, this]
    clear T5 k5 hb5 TI
    have hF0 : ∀ b, R5 b ∨ w3.heap.size + 5 ≤ b → ¬ F2 b := fun b h e => h.elim (fun h => HT5.out.hRF b h (HD.out b e)) fun h => by have := HD.out b e; have := E3.out; omega
    have HF0 := Lib.hid hF0
    have SG := Lib.hid (show SV bytesEl (fun b => R5 b ∨ w3.heap.size + 5 ≤ b) w5 (.slice ag G.length cg) G from HT5.out.hg.sv)
    have SC := Lib.hid (show SV pairEl (fun b => R5 b ∨ w3.heap.size + 5 ≤ b) w5 (.slice ac C.length cc) C from HT5.out.hc.sv)
    have M5 := Lib.hid (show MapAt seed w5 m2 u F2 from (HT.out.kept K4.out fun _ _ h => h).kept K5.out fun b hb e => by
      have := HD.out b hb
      have := E3.out
      rcases e with e | e | e | e | e | e
      · simp only at e; omega
      · simp only at e; omega
      · simp only at e; omega
      · cases e
      · cases e
      · cases e)
    have hFw : ¬ F2 w.heap.size := fun e => by have := HD.out _ e; omega
    have z3 : w5.cell? ⟨w.heap.size, 0, none⟩ = some (bp m2) := by have := HT5.out.h3; simp only at this; simp [World.cell?, this]
    have Z3 := Lib.hid z3
    have HFW := Lib.hid hFw
    clear hF0 hFw z3
    go_wp2_with fail
    go_loopw [37] (fun i wr => ∃ n : Nat, n ≤ G.length ∧ i = .int .i64 n ∧ Hid (MapAt seed wr m2 (dropAll seed u (G.take n)) F2) ∧ Hid (Kept F2 w5 wr)) (fun i _ => G.length - (intOf i).toNat)
    case atStart => exact ⟨0, Nat.zero_le _, rfl, M5, Lib.hid (Kept.refl _ _)⟩
    case round =>
      obtain ⟨n, hn, rfl, hm, kw⟩ := hrel
      have z3 := kw.out.cell (p := ⟨w.heap.size, 0, none⟩) HFW.out Z3.out
      by_cases hl : n < G.length
      · obtain ⟨_, _, hsl, _, _, rd⟩ := SG.out
        simp only [Value.slice.injEq] at hsl
        obtain ⟨rfl, -, rfl⟩ := hsl
        have rd := rd.kept bytesEl_k kw.out fun b h _ => HF0.out b h
        obtain ⟨b1, o1, kv, rfl, hDb, g0, hkv⟩ := Rd.bytes rd hl
        have HKV := Lib.hid hkv
        obtain ⟨a7, c7, rfl, _⟩ := id hkv
        clear rd hkv
        go_wp2_with fail
        cases hget : ((dropAll seed u (G.take n)).get G[n]).isSome
        · refine (orMapDrop_none hm.out HKV.out (by simpa using hget)).mono ?_
          rintro e w7 ⟨rfl, rfl⟩
          go_wp2
          go_roundw
          case rel => exact ⟨n + 1, by omega, by go_num, by rw [dropAll_succ seed u G n hl, hget]; exact hm, kw⟩
          case measure => simp [intOf]; omega
        · refine (orMapDrop_ok hm.out HKV.out (fun b h _ => HF0.out b h) hget).mono ?_
          rintro e w7 ⟨rfl, hm7, k7⟩
          go_wp2
          go_roundw
          case rel => exact ⟨n + 1, by omega, by go_num, by rw [dropAll_succ seed u G n hl, hget]; exact Lib.hid hm7, Lib.hid (kw.out.tr k7)⟩
          case measure => simp [intOf]; omega
      · obtain rfl : n = G.length := by omega
        have M6 := Lib.hid (show MapAt seed wr m2 (dropAll seed u G) F2 by have := hm.out; rwa [List.take_length] at this)
        have z6 : wr.cell? ⟨w3.heap.size + 1 + 1 + 1, 0, none⟩ = some (.slice ac C.length cc) := kw.out.cell (p := ⟨w3.heap.size + 1 + 1 + 1, 0, none⟩) (fun e => by have := HD.out (w3.heap.size + 1 + 1 + 1) e; have := E3.out; omega) (by have := HT5.out.h6; simp only at this; simp [World.cell?, this])
        have U1 := Lib.hid (show (dropAll seed u G).size + C.length < 100000 by have := dropAll_size seed G u; have := S12.out; rw [← hC]; have := comes_le seed u t [] [] false; omega)
        have CO := Lib.hid (show ∀ p ∈ C, okP p by rw [← hC]; exact comes_ok seed u t [] [] false OK.out)
        clear hm
        generalize hU : dropAll seed u G = U at *
        go_wp2_with fail
        go_loopw [47] (fun i wq => ∃ (n : Nat) (F' : Nat → Prop), n ≤ C.length ∧ i = .int .i64 n ∧ Hid (MapAt seed wq m2 (putAll seed U (C.take n)) F') ∧ Hid (∀ b, F' b → F2 b ∨ w5.heap.size ≤ b) ∧ Hid (Kept F2 w5 wq)) (fun i _ => C.length - (intOf i).toNat)
        case atStart => exact ⟨0, F2, Nat.zero_le _, rfl, M6, Lib.hid fun b h => .inl h, kw⟩
        case round =>
          obtain ⟨n, F', hn, rfl, hm, hF', kq⟩ := hrel
          have z3' := kq.out.cell (p := ⟨w.heap.size, 0, none⟩) HFW.out Z3.out
          by_cases hl : n < C.length
          · obtain ⟨_, _, hsl, _, _, rd⟩ := SC.out
            simp only [Value.slice.injEq] at hsl
            obtain ⟨rfl, -, rfl⟩ := hsl
            have rd := rd.kept pairEl_k kq.out fun b h _ => HF0.out b h
            obtain ⟨b1, o1, uk, uv, rfl, hDb, g0, g1, hkv, hvv⟩ := Rd.pair rd hl
            have HKV := Lib.hid hkv
            have HVV := Lib.hid hvv
            obtain ⟨a7, c7, rfl, _⟩ := id hkv
            obtain ⟨a8, c8, rfl, _⟩ := id hvv
            have zA : ∀ o, (wr.alloc o).cell? ⟨w.heap.size, 0, none⟩ = some (bp m2) := fun o => ((Kept.refl Noneof _).alloc o).cell (p := ⟨w.heap.size, 0, none⟩) (fun h => h) z3'
            clear rd hkv hvv
            have ka := (Kept.refl Noneof wr).alloc (.cells #[.slice a7 C[n].1.length c7, .slice a8 C[n].2.length c8] 70)
            have hps : (putAll seed U (C.take n)).size < 100000 := by
              have h1 := putAll_size seed (C.take n) U
              have h2 := U1.out
              rw [List.length_take] at h1
              omega
            have HPS := Lib.hid hps
            have KA := Lib.hid ka
            clear hps ka
            go_wp2_with fail
            refine (orMapPut_ok (hm.out.kept KA.out fun _ _ h => h) (HKV.out.kept byteEl_k KA.out fun _ _ _ h => h) (HVV.out.kept byteEl_k KA.out fun _ _ _ h => h) (okP_allowed (CO.out _ (List.getElem_mem hl))) HPS.out).mono ?_
            rintro e w7 ⟨rfl, F7, hm7, k7, hF7⟩
            have hM7 := Lib.hid hm7
            have hFF := Lib.hid (show ∀ b, F7 b → F2 b ∨ w5.heap.size ≤ b from fun b h => (hF7 b h).elim (hF'.out b) fun h => .inr (by have := kq.out.size; have := KA.out.size; omega))
            have hKK := Lib.hid ((kq.out.trans KA.out fun _ h => h.elim).trans k7 hF'.out)
            clear hm7 hF7 k7 zA
            go_wp2
            go_roundw
            case rel => exact ⟨n + 1, F7, by omega, by go_num, by rw [putAll_succ seed U C n hl]; exact hM7, hFF, hKK⟩
            case measure => simp [intOf]; omega
          · obtain rfl : n = C.length := by omega
            have M7 := Lib.hid (show MapAt seed wr m2 (putAll seed U C) F' by have := hm.out; rwa [List.take_length] at this)
            have z4 : wr.cell? ⟨w3.heap.size + 1, 0, none⟩ = some (.slice ao O.length co) := kq.out.cell (p := ⟨w3.heap.size + 1, 0, none⟩) (fun e => by have := HD.out (w3.heap.size + 1) e; have := E3.out; omega) (by have := HT5.out.h4; simp only at this; simp [World.cell?, this])
            have hsv := ((HT5.out.ho.sv.bd msgEl_k).kept msgEl_k kq.out fun b h _ => HF0.out b h.1).wide (D' := fun b => ¬ F' b ∧ w.heap.size ≤ b) msgEl_k fun b h _ => ⟨fun e => (hF'.out b e).elim (HF0.out b h.1) fun e => by omega, h.1.elim (fun h => by have := HT5.out.hRF b h; simp only at this; omega) fun h => by have h : w3.heap.size + 5 ≤ b := h; have := E3.out; have := K2s.out; omega⟩
            have HSV := Lib.hid hsv
            have hw5 := K5.out.size
            have hw4 := K4.out.size
            have e3 := E3.out
            have KF := Lib.hid (((K4.out.trans K5.out fun b e => .inr (by
              rcases e with e | e | e | e | e | e
              · simp only at e; omega
              · simp only at e; omega
              · simp only at e; omega
              · cases e
              · cases e
              · cases e)).mono (T := F2) fun _ h => h.elim).tr kq.out)
            clear hsv
            go_wp2
            go_ret2
            exact ⟨.slice ao O.length co, F', rfl, by rw [hO]; exact HSV.out, by rw [hG, hC, hU]; exact M7.out, fun b h => (hF'.out b h).imp id fun h => by omega, KF.out⟩))
end Go.Proofs.Ytaopjdjbpamhhaa
/- Proved: contract of the law SwapHistory's own code. Conditions: pairs in memory. -/
namespace Go.Proofs.Ytaopjdjbpamhhaa
open Go Go.RowKit
set_option linter.unusedVariables false
set_option linter.unusedSimpArgs false

theorem Kept.q {a b c : World} {Q : Nat → Prop} (h : Kept Q a b) (k : Kept Noneof b c) : Kept Q a c := h.trans k fun _ h => h.elim
theorem Kept.qq {a b c : World} {Q R : Nat → Prop} (h : Kept Q a b) (k : Kept R b c) (hq : ∀ b, R b → Q b) : Kept Q a c := h.trans k fun b h => .inl (hq b h)

set_option maxRecDepth 100000 in
set_option maxHeartbeats 8000000 in
theorem swapHistory_walk {seed : Int} {D1 D2 D3 : Nat → Prop} {w : World} {v1 v2 v3 : Value} {l1 l2 l3 : List (Bts × Bts)} (h1 : SV pairEl D1 w v1 l1) (h2 : SV pairEl D2 w v2 l2) (h3 : SV pairEl D3 w v3 l3) :
    Calls Try.prog 17 #[.int .u64 seed, v1, v2, v3] w fun e w' => e = .returned (.bool true) ∧ Kept Noneof w w' := by
  have H1 := Lib.hid (h1.lt pairEl_k)
  have H2 := Lib.hid (h2.lt pairEl_k)
  have H3 := Lib.hid (h3.lt pairEl_k)
  obtain ⟨a1, c1, rfl, _⟩ := h1
  obtain ⟨a2, c2, rfl, _⟩ := h2
  obtain ⟨a3, c3, rfl, _⟩ := h3
  go_enter Try.func17, Try.ntmps17
  go_wp2_with fail
  refine (l7few_calls H1.out).mono ?_
  rintro e w1 ⟨rfl, k1⟩
  have K1 := Lib.hid k1
  clear k1
  cases hf1 : fewK l1
  · go_wp2
    go_ret
    exact ⟨rfl, K1.out⟩
  have F1 := Lib.hid hf1
  clear hf1
  go_wp2_with fail
  refine (l7few_calls (H2.out.kept pairEl_k K1.out fun _ _ _ h => h)).mono ?_
  rintro e w2 ⟨rfl, k2⟩
  have K2 := Lib.hid (K1.out.tr k2)
  clear k2
  cases hf2 : fewK l2
  · go_wp2
    go_ret
    exact ⟨rfl, K2.out⟩
  have F2 := Lib.hid hf2
  clear hf2
  go_wp2_with fail
  refine (l7few_calls (H3.out.kept pairEl_k K2.out fun _ _ _ h => h)).mono ?_
  rintro e w3 ⟨rfl, k3⟩
  have K3 := Lib.hid (K2.out.tr k3)
  clear k3
  cases hf3 : fewK l3
  · go_wp2
    go_ret
    exact ⟨rfl, K3.out⟩
  have F3 := Lib.hid hf3
  clear hf3
  have B3 := Lib.hid (show w.heap.size ≤ w3.heap.size from K3.out.size)
  go_wp2_with fail
  refine (l7sorted_calls (H1.out.still pairEl_k K3.out) (fewK_iff F1.out).1).mono ?_
  rintro e w4 ⟨v4, rfl, s4, k⟩
  have K4 := Lib.hid (K3.out.tr k)
  have S4 := Lib.hid s4
  obtain ⟨x4, y4, z4, rfl⟩ := s4.slice'
  clear s4 k
  go_wp2_with fail
  refine (l7filled_calls (seed := seed) S4.out (fewK_sorted F1.out)).mono ?_
  rintro e w5 ⟨m1, G1, rfl, hm, hg, hlo, k⟩
  have K5 := Lib.hid (K4.out.tr k)
  have B5 := Lib.hid (show w.heap.size ≤ w4.heap.size ∧ w4.heap.size ≤ w5.heap.size from ⟨K4.out.size, k.size⟩)
  have M1 := Lib.hid (hm.wide (F' := fun b => w4.heap.size ≤ b ∧ b < w5.heap.size) fun b h hl => ⟨hg b h, hl⟩)
  clear hm hg hlo k S4
  go_wp2_with fail
  refine (l7sorted_calls (H2.out.still pairEl_k K5.out) (fewK_iff F2.out).1).mono ?_
  rintro e w6 ⟨v6, rfl, s6, k⟩
  have K6 := Lib.hid (K5.out.tr k)
  replace M1 := Lib.hid (M1.out.kept k fun _ _ h => h)
  have B6 := Lib.hid (show w5.heap.size ≤ w6.heap.size from k.size)
  have S6 := Lib.hid s6
  obtain ⟨x6, y6, z6, rfl⟩ := s6.slice'
  clear s6 k
  go_wp2_with fail
  refine (l7filled_calls (seed := seed) S6.out (fewK_sorted F2.out)).mono ?_
  rintro e w7 ⟨m2, G2, rfl, hm, hg, hlo, k⟩
  have K7 := Lib.hid (K6.out.tr k)
  have B7 := Lib.hid (show w6.heap.size ≤ w7.heap.size from k.size)
  have M2 := Lib.hid (hm.wide (F' := fun b => w6.heap.size ≤ b ∧ b < w7.heap.size) fun b h hl => ⟨hg b h, hl⟩)
  have N12 := Lib.hid (show m1 ≠ m2 by have := M1.out.lt; omega)
  replace M1 := Lib.hid (M1.out.kept k fun _ _ h => h)
  clear hm hg hlo k S6
  go_wp2_with fail
  refine (orNew_calls (seed := seed)).mono ?_
  rintro e w8 ⟨rfl, hmc, k8, hs8⟩
  go_wp2_with fail
  refine (orNew_calls (seed := seed)).mono ?_
  rintro e w9 ⟨rfl, hmd, k9, hs9⟩
  have K9 := Lib.hid ((K7.out.tr k8).tr k9)
  replace M1 := Lib.hid (M1.out.kept (k8.tr k9) fun _ _ h => h)
  replace M2 := Lib.hid (M2.out.kept (k8.tr k9) fun _ _ h => h)
  have B9 := Lib.hid (show w7.heap.size < w8.heap.size ∧ w8.heap.size < w9.heap.size from ⟨hs8, hs9⟩)
  have TW := Lib.hid (show Two seed (fun b => w7.heap.size ≤ b) w9 w7.heap.size w8.heap.size .nil .nil from
    ⟨fun b h => by omega, (fun b => b = w7.heap.size), (fun b => b = w8.heap.size), hmc.kept k9 (fun _ _ h => h), hmd, fun b h h' => by omega, fun b h => by omega, fun b h => by omega⟩)
  have KW := Lib.hid (Kept.refl (fun b => w7.heap.size ≤ b) w9)
  have HQ := Lib.hid (show ∀ b, b < w.heap.size → ¬ w7.heap.size ≤ b from fun b h => by have := K7.out.size; omega)
  clear hmc k8 hs8 hmd k9 hs9
  go_wp2
  go_loopw [51] (fun i wr => ∃ n : Nat, n ≤ l3.length ∧ i = .int .i64 n ∧ Hid (Two seed (fun b => w7.heap.size ≤ b) wr w7.heap.size w8.heap.size (fillT seed (l3.take n)) (fillT seed (l3.take n))) ∧ Hid (Kept (fun b => w7.heap.size ≤ b) w9 wr)) (fun i _ => l3.length - (intOf i).toNat)
  case atStart => exact ⟨0, Nat.zero_le _, rfl, TW, KW⟩
  case round =>
    obtain ⟨n, hn, rfl, tw, kw⟩ := hrel
    by_cases hl : n < l3.length
    · have rd : Rd pairEl (fun b => b < w.heap.size) wr a3 l3 := by
        obtain ⟨_, _, hsl, _, _, rd⟩ := (H3.out.still pairEl_k K9.out).kept pairEl_k kw.out fun b h _ => HQ.out b h
        simp only [Value.slice.injEq] at hsl
        obtain ⟨rfl, -, rfl⟩ := hsl
        exact rd
      obtain ⟨b1, o1, uk, uv, rfl, hDb, g0, g1, hkv, hvv⟩ := Rd.pair rd hl
      have HKV := Lib.hid hkv
      have HVV := Lib.hid hvv
      obtain ⟨a7, c7, rfl, _⟩ := id hkv
      obtain ⟨a8, c8, rfl, _⟩ := id hvv
      have GB := heap_alloc_new wr (.cells #[.slice a7 l3[n].1.length c7, .slice a8 l3[n].2.length c8] 70)
      have ka := (Kept.refl Noneof wr).alloc (.cells #[.slice a7 l3[n].1.length c7, .slice a8 l3[n].2.length c8] 70)
      have HPS := Lib.hid (show (fillT seed (l3.take n)).size < 100000 by
        have h1 := fillT_size seed (l3.take n)
        have h2 := (fewK_iff F3.out).1
        rw [List.length_take] at h1
        omega)
      have AL := Lib.hid ((fewK_iff F3.out).2 _ (List.getElem_mem hl))
      have SU := Lib.hid (show fillT seed (l3.take (n + 1)) = (fillT seed (l3.take n)).put seed l3[n].1 l3[n].2 from putAll_succ seed .nil l3 n hl)
      clear rd hkv hvv
      go_upto_region 8 with (fail)
      have LW := Lib.hid (show wr.heap.size < (wr.alloc (.cells #[.slice a7 l3[n].1.length c7, .slice a8 l3[n].2.length c8] 70)).heap.size by simp)
      generalize wr.alloc (.cells #[.slice a7 l3[n].1.length c7, .slice a8 l3[n].2.length c8] 70) = wa at *
      have TA := Lib.hid (tw.out.narrow ka)
      replace HKV := Lib.hid (HKV.out.still byteEl_k ka)
      replace HVV := Lib.hid (HVV.out.still byteEl_k ka)
      replace kw := Lib.hid (Kept.q kw.out ka)
      have p0 : wa.cell? ⟨wr.heap.size, 0, none⟩ = some (.slice a7 l3[n].1.length c7) := by simp [World.cell?, GB]
      have p1 : wa.cell? ⟨wr.heap.size, 1, none⟩ = some (.slice a8 l3[n].2.length c8) := by simp [World.cell?, GB]
      clear ka GB tw g0 g1
      go_wp2_with fail
      refine (two_put TA.out HKV.out HVV.out AL.out HPS.out).mono ?_
      rintro e wb ⟨rfl, tb, kb⟩
      replace p0 := kb.cell (p := ⟨wr.heap.size, 0, none⟩) (fun h => h.2 ⟨Nat.le_refl _, LW.out⟩) p0
      replace p1 := kb.cell (p := ⟨wr.heap.size, 1, none⟩) (fun h => h.2 ⟨Nat.le_refl _, LW.out⟩) p1
      have TB := Lib.hid tb.swap
      replace HKV := Lib.hid (HKV.out.kept byteEl_k kb fun b h _ hq => HQ.out b h hq.1)
      replace HVV := Lib.hid (HVV.out.kept byteEl_k kb fun b h _ hq => HQ.out b h hq.1)
      replace kw := Lib.hid (Kept.qq kw.out kb fun b h => h.1)
      clear TA tb kb
      go_wp2_with fail
      refine (two_put TB.out HKV.out HVV.out AL.out HPS.out).mono ?_
      rintro e wc ⟨rfl, tc, kc⟩
      have TC := Lib.hid (tc.swap.widen fun b h => h.1)
      replace kw := Lib.hid (Kept.qq kw.out kc fun b h => h.1)
      rw [← SU.out] at TC
      clear TB tc kc p0 p1
      go_wp2
      go_roundw
      case rel => exact ⟨n + 1, by omega, by go_num, TC, kw⟩
      case measure => simp [intOf]; omega
    · obtain rfl : n = l3.length := by omega
      rw [List.take_length] at tw
      clear TW KW
      go_wp2_with fail
      generalize wr = wl at *
      (
      refine (l7sorted_calls ((H1.out.still pairEl_k K9.out).kept pairEl_k kw.out fun b h _ => HQ.out b h) (fewK_iff F1.out).1).mono ?_
      rintro e wm ⟨vb1, rfl, sb, k⟩
      have TB1 := Lib.hid (tw.out.narrow k)
      have kw1 := Lib.hid (Kept.q kw.out k)
      have SB1 := Lib.hid (sb.bd pairEl_k)
      have FS1 := Lib.hid (fewK_iff (fewK_sorted F1.out))
      obtain ⟨ab1, cb1, rfl, _⟩ := sb
      have LW1 := Lib.hid (show wl.heap.size ≤ wm.heap.size from k.size)
      clear k tw kw
      go_wp2
      go_loopw [16] (fun i wx => ∃ k j : Nat, k + j = (sortedL l1).length ∧ i = .int .i64 ((k : Int) - 1) ∧ Hid (Two seed (fun b => w7.heap.size ≤ b ∧ ¬ (wl.heap.size ≤ b ∧ b < wm.heap.size)) wx w7.heap.size w8.heap.size (putAll seed (fillT seed l3) ((sortedL l1).reverse.take j)) (fillT seed l3)) ∧ Hid (Kept (fun b => w7.heap.size ≤ b ∧ ¬ (wl.heap.size ≤ b ∧ b < wm.heap.size)) wm wx)) (fun i _ => (intOf i + 1).toNat)
      case atStart => exact ⟨(sortedL l1).length, 0, rfl, by go_num, TB1, Lib.hid (Kept.refl _ _)⟩
      obtain ⟨k, j, hkj, rfl, tw, kx⟩ := hrel
      rcases k with _ | x
      rotate_left
      · have hx : x < (sortedL l1).length := by omega
        have ex : ((x + 1 : Nat) : Int) - 1 = (x : Int) := by omega
        rw [ex]
        have hj : j < (sortedL l1).reverse.length := by rw [List.length_reverse]; omega
        have hg : (sortedL l1).reverse[j] = (sortedL l1)[x] := by rw [List.getElem_reverse]; congr 1; omega
        have SU := Lib.hid (putAll_succ seed (fillT seed l3) (sortedL l1).reverse j hj)
        rw [hg] at SU
        have rd : Rd pairEl (fun b => wl.heap.size ≤ b ∧ b < wm.heap.size) wr ab1 (sortedL l1) := by
          obtain ⟨_, _, hsl, _, _, rd⟩ := SB1.out.kept pairEl_k kx.out fun b h _ hq => hq.2 h
          simp only [Value.slice.injEq] at hsl
          obtain ⟨rfl, -, rfl⟩ := hsl
          exact rd
        obtain ⟨b1, o1, uk, uv, rfl, hDb, g0, g1, hkv, hvv⟩ := Rd.pair rd hx
        have HKV := Lib.hid hkv
        have HVV := Lib.hid hvv
        obtain ⟨a7, n7, c7, rfl⟩ := hkv.slice'
        obtain ⟨a8, n8, c8, rfl⟩ := hvv.slice'
        have HPS := Lib.hid (show (putAll seed (fillT seed l3) ((sortedL l1).reverse.take j)).size < 100000 by
          have h1 := putAll_size seed ((sortedL l1).reverse.take j) (fillT seed l3)
          have h2 := fillT_size seed l3
          have h3 := (fewK_iff F3.out).1
          have h4 := FS1.out.1
          rw [List.length_take, List.length_reverse] at h1
          omega)
        have AL := Lib.hid (FS1.out.2 _ (List.getElem_mem hx))
        clear rd hkv hvv hg hj ex
        go_wp2_with fail
        refine wp_region_chain 12 [11] (fun w' => w'.cell? ⟨b1, o1 + x * 2, none⟩ = some (.slice a7 n7 c7) ∧ w'.cell? ⟨b1, o1 + x * 2 + 1, none⟩ = some (.slice a8 n8 c8)) (by kernel_rfl) (by kernel_rfl) ?_ ?_
        · exact ⟨g0, g1⟩
        refine SeqW.out ?_
        simp only [List.take_succ_cons, List.take_zero, List.drop_succ_cons, List.drop_zero]
        have kd := (Kept.refl Noneof wr).drew
        have TD := Lib.hid (tw.out.still kd)
        replace HKV := Lib.hid (HKV.out.still byteEl_k kd)
        replace HVV := Lib.hid (HVV.out.still byteEl_k kd)
        replace kx := Lib.hid (Kept.q kx.out kd)
        replace g0 := kd.cell (fun h => h) g0
        replace g1 := kd.cell (fun h => h) g1
        generalize wr.drew = wy at *
        clear tw kd
        iterate 11 (refine SeqW.val (v := ?_) (by rfl) (by rfl) (fun wx hSw => ?_) ?_; rotate_left; (focus ((try dsimp only at hSw); go_simp; (try with_reducible rfl))); (try simp only [Act.put, List.setIfInBounds_toArray, List.set_cons_zero, List.set_cons_succ]))
        refine SeqW.act (by rfl) rfl (by rfl) (by rfl) (fun K hK => ?_)
        go_simp
        refine (two_put TD.out HKV.out HVV.out AL.out HPS.out).mono ?_
        rintro e wz ⟨rfl, tz, kz⟩
        refine hK.out _ _ ⟨kz.cell (fun h => h.2 hDb) g0, kz.cell (fun h => h.2 hDb) g1⟩ ?_
        rw [← SU.out] at tz
        have TZ := Lib.hid tz
        replace kx := Lib.hid (kx.out.tr kz)
        clear K hK tz kz TD SU g0 g1
        (try simp only [Act.put, List.setIfInBounds_toArray, List.set_cons_zero, List.set_cons_succ])
        refine SeqW.nil ?_
        go_wp2
        go_roundw
        case rel => exact ⟨x, j + 1, by omega, by go_num, TZ, kx⟩
        case measure => simp [intOf] <;> omega
      rw [show ((0 : Nat) : Int) - 1 = -1 from rfl]
      obtain rfl : j = (sortedL l1).length := by omega
      rw [← List.length_reverse, List.take_length] at tw
      replace tw := Lib.hid (tw.out.widen (R := fun b => w7.heap.size ≤ b) fun b h => h.1)
      have kw := Lib.hid (Kept.qq kw1.out kx.out fun b h => h.1)
      clear kx TB1 kw1 hkj)
      replace tw := Lib.hid tw.out.swap
      go_wp2_with fail
      generalize wr = wl2 at *
      (
      refine (l7sorted_calls ((H2.out.still pairEl_k K9.out).kept pairEl_k kw.out fun b h _ => HQ.out b h) (fewK_iff F2.out).1).mono ?_
      rintro e wn ⟨vb2, rfl, sb, k⟩
      have TB2 := Lib.hid (tw.out.narrow k)
      have kw2 := Lib.hid (Kept.q kw.out k)
      have SB2 := Lib.hid (sb.bd pairEl_k)
      have FS2 := Lib.hid (fewK_iff (fewK_sorted F2.out))
      obtain ⟨ab2, cb2, rfl, _⟩ := sb
      have LW2 := Lib.hid (show wl2.heap.size ≤ wn.heap.size from k.size)
      clear k tw kw
      go_wp2
      go_loopw [17] (fun i wx => ∃ k j : Nat, k + j = (sortedL l2).length ∧ i = .int .i64 ((k : Int) - 1) ∧ Hid (Two seed (fun b => w7.heap.size ≤ b ∧ ¬ (wl2.heap.size ≤ b ∧ b < wn.heap.size)) wx w8.heap.size w7.heap.size (putAll seed (fillT seed l3) ((sortedL l2).reverse.take j)) (putAll seed (fillT seed l3) (sortedL l1).reverse)) ∧ Hid (Kept (fun b => w7.heap.size ≤ b ∧ ¬ (wl2.heap.size ≤ b ∧ b < wn.heap.size)) wn wx)) (fun i _ => (intOf i + 1).toNat)
      case atStart => exact ⟨(sortedL l2).length, 0, rfl, by go_num, TB2, Lib.hid (Kept.refl _ _)⟩
      obtain ⟨k, j, hkj, rfl, tw, kx⟩ := hrel
      rcases k with _ | x
      rotate_left
      · have hx : x < (sortedL l2).length := by omega
        have ex : ((x + 1 : Nat) : Int) - 1 = (x : Int) := by omega
        rw [ex]
        have hj : j < (sortedL l2).reverse.length := by rw [List.length_reverse]; omega
        have hg : (sortedL l2).reverse[j] = (sortedL l2)[x] := by rw [List.getElem_reverse]; congr 1; omega
        have SU := Lib.hid (putAll_succ seed (fillT seed l3) (sortedL l2).reverse j hj)
        rw [hg] at SU
        have rd : Rd pairEl (fun b => wl2.heap.size ≤ b ∧ b < wn.heap.size) wr ab2 (sortedL l2) := by
          obtain ⟨_, _, hsl, _, _, rd⟩ := SB2.out.kept pairEl_k kx.out fun b h _ hq => hq.2 h
          simp only [Value.slice.injEq] at hsl
          obtain ⟨rfl, -, rfl⟩ := hsl
          exact rd
        obtain ⟨b1, o1, uk, uv, rfl, hDb, g0, g1, hkv, hvv⟩ := Rd.pair rd hx
        have HKV := Lib.hid hkv
        have HVV := Lib.hid hvv
        obtain ⟨a7, n7, c7, rfl⟩ := hkv.slice'
        obtain ⟨a8, n8, c8, rfl⟩ := hvv.slice'
        have HPS := Lib.hid (show (putAll seed (fillT seed l3) ((sortedL l2).reverse.take j)).size < 100000 by
          have h1 := putAll_size seed ((sortedL l2).reverse.take j) (fillT seed l3)
          have h2 := fillT_size seed l3
          have h3 := (fewK_iff F3.out).1
          have h4 := FS2.out.1
          rw [List.length_take, List.length_reverse] at h1
          omega)
        have AL := Lib.hid (FS2.out.2 _ (List.getElem_mem hx))
        clear rd hkv hvv hg hj ex
        go_wp2_with fail
        refine wp_region_chain 12 [11] (fun w' => w'.cell? ⟨b1, o1 + x * 2, none⟩ = some (.slice a7 n7 c7) ∧ w'.cell? ⟨b1, o1 + x * 2 + 1, none⟩ = some (.slice a8 n8 c8)) (by kernel_rfl) (by kernel_rfl) ?_ ?_
        · exact ⟨g0, g1⟩
        refine SeqW.out ?_
        simp only [List.take_succ_cons, List.take_zero, List.drop_succ_cons, List.drop_zero]
        have kd := (Kept.refl Noneof wr).drew
        have TD := Lib.hid (tw.out.still kd)
        replace HKV := Lib.hid (HKV.out.still byteEl_k kd)
        replace HVV := Lib.hid (HVV.out.still byteEl_k kd)
        replace kx := Lib.hid (Kept.q kx.out kd)
        replace g0 := kd.cell (fun h => h) g0
        replace g1 := kd.cell (fun h => h) g1
        generalize wr.drew = wy at *
        clear tw kd
        iterate 11 (refine SeqW.val (v := ?_) (by rfl) (by rfl) (fun wx hSw => ?_) ?_; rotate_left; (focus ((try dsimp only at hSw); go_simp; (try with_reducible rfl))); (try simp only [Act.put, List.setIfInBounds_toArray, List.set_cons_zero, List.set_cons_succ]))
        refine SeqW.act (by rfl) rfl (by rfl) (by rfl) (fun K hK => ?_)
        go_simp
        refine (two_put TD.out HKV.out HVV.out AL.out HPS.out).mono ?_
        rintro e wz ⟨rfl, tz, kz⟩
        refine hK.out _ _ ⟨kz.cell (fun h => h.2 hDb) g0, kz.cell (fun h => h.2 hDb) g1⟩ ?_
        rw [← SU.out] at tz
        have TZ := Lib.hid tz
        replace kx := Lib.hid (kx.out.tr kz)
        clear K hK tz kz TD SU g0 g1
        (try simp only [Act.put, List.setIfInBounds_toArray, List.set_cons_zero, List.set_cons_succ])
        refine SeqW.nil ?_
        go_wp2
        go_roundw
        case rel => exact ⟨x, j + 1, by omega, by go_num, TZ, kx⟩
        case measure => simp [intOf] <;> omega
      rw [show ((0 : Nat) : Int) - 1 = -1 from rfl]
      obtain rfl : j = (sortedL l2).length := by omega
      rw [← List.length_reverse, List.take_length] at tw
      replace tw := Lib.hid (tw.out.widen (R := fun b => w7.heap.size ≤ b) fun b h => h.1)
      have kw := Lib.hid (Kept.qq kw2.out kx.out fun b h => h.1)
      clear kx TB2 kw2 hkj)
      replace tw := Lib.hid tw.out.swap
      go_wp2
      go_loopw [112] (fun i wr => ∃ n : Nat, n ≤ l3.length ∧ i = .int .i64 n ∧ Hid (Two seed (fun b => w7.heap.size ≤ b) wr w7.heap.size w8.heap.size (dropSel seed (sortedL l1) (putAll seed (fillT seed l3) (sortedL l1).reverse) (l3.take n)) (dropSel seed (sortedL l2) (putAll seed (fillT seed l3) (sortedL l2).reverse) (l3.take n))) ∧ Hid (Kept (fun b => w7.heap.size ≤ b) w9 wr)) (fun i _ => l3.length - (intOf i).toNat)
      case atStart => exact ⟨0, Nat.zero_le _, rfl, tw, kw⟩
      clear tw kw
      obtain ⟨n, hn, rfl, tw, kw⟩ := hrel
      by_cases hl : n < l3.length
      · have rd : Rd pairEl (fun b => b < w.heap.size) wr a3 l3 := by
          obtain ⟨_, _, hsl, _, _, rd⟩ := (H3.out.still pairEl_k K9.out).kept pairEl_k kw.out fun b h _ => HQ.out b h
          simp only [Value.slice.injEq] at hsl
          obtain ⟨rfl, -, rfl⟩ := hsl
          exact rd
        obtain ⟨b1, o1, uk, uv, rfl, hDb, g0, g1, hkv, hvv⟩ := Rd.pair rd hl
        have HKV := Lib.hid hkv
        obtain ⟨a7, n7, c7, rfl⟩ := hkv.slice'
        obtain ⟨a8, n8, c8, rfl⟩ := hvv.slice'
        have SU := Lib.hid (show ∀ F u, dropSel seed F u (l3.take (n + 1)) = if hasK F l3[n].1 = true then dropSel seed F u (l3.take n) else (dropSel seed F u (l3.take n)).dropIf seed l3[n].1 from fun F u => dropSel_succ seed F u l3 n hl)
        clear rd hkv hvv
        go_upto_region 24 with (fail)
        have GB := heap_alloc_new wr (.cells #[.slice a7 n7 c7, .slice a8 n8 c8] 70)
        have ka := (Kept.refl Noneof wr).alloc (.cells #[.slice a7 n7 c7, .slice a8 n8 c8] 70)
        have LW := Lib.hid (show wr.heap.size < (wr.alloc (.cells #[.slice a7 n7 c7, .slice a8 n8 c8] 70)).heap.size by simp)
        generalize wr.alloc (.cells #[.slice a7 n7 c7, .slice a8 n8 c8] 70) = wa at *
        have TA := Lib.hid (tw.out.narrow ka)
        replace HKV := Lib.hid (HKV.out.still byteEl_k ka)
        replace kw := Lib.hid (Kept.q kw.out ka)
        have p0 : wa.cell? ⟨wr.heap.size, 0, none⟩ = some (.slice a7 n7 c7) := by simp [World.cell?, GB]
        clear ka GB tw g0 g1
        ((
          refine wp_region_chain 6 [1, 4] (fun w' => w'.cell? ⟨wr.heap.size, 0, none⟩ = some (.slice a7 n7 c7)) (by kernel_rfl) (by kernel_rfl) ?_ ?_
          · exact p0
          refine SeqW.out ?_
          simp only [List.take_succ_cons, List.take_zero, List.drop_succ_cons, List.drop_zero]
          have kd := (Kept.refl Noneof wa).drew
          replace TA := Lib.hid (TA.out.still kd)
          replace HKV := Lib.hid (HKV.out.still byteEl_k kd)
          replace kw := Lib.hid (Kept.q kw.out kd)
          replace p0 := kd.cell (fun h => h) p0
          generalize wa.drew = wb at *
          clear kd
          (refine SeqW.val (v := ?_) (by rfl) (by rfl) (fun wx hSw => ?_) ?_; rotate_left; (focus ((try dsimp only at hSw); go_simp; (try with_reducible rfl))); (try simp only [Act.put, List.setIfInBounds_toArray, List.set_cons_zero, List.set_cons_succ]))
          refine SeqW.act (by rfl) rfl (by rfl) (by rfl) (fun K hK => ?_)
          go_simp
          refine (l7sorted_calls ((H1.out.still pairEl_k K9.out).kept pairEl_k kw.out fun b h _ => HQ.out b h) (fewK_iff F1.out).1).mono ?_
          rintro e wc ⟨vs, rfl, ss, ks⟩
          refine hK.out _ _ (ks.cell (fun h => h) p0) ?_
          replace TA := Lib.hid (TA.out.still ks)
          replace HKV := Lib.hid (HKV.out.still byteEl_k ks)
          replace kw := Lib.hid (Kept.q kw.out ks)
          replace p0 := ks.cell (fun h => h) p0
          have SS := Lib.hid ss
          obtain ⟨s1, s2, s3, rfl⟩ := ss.slice'
          clear K hK ss ks
          (try simp only [Act.put, List.setIfInBounds_toArray, List.set_cons_zero, List.set_cons_succ])
          (refine SeqW.val (v := ?_) (by rfl) (by rfl) (fun wx hSw => ?_) ?_; rotate_left; (focus ((try dsimp only at hSw); go_simp; (try with_reducible rfl))); (try simp only [Act.put, List.setIfInBounds_toArray, List.set_cons_zero, List.set_cons_succ]))
          (refine SeqW.val (v := ?_) (by rfl) (by rfl) (fun wx hSw => ?_) ?_; rotate_left; (focus ((try dsimp only at hSw); go_simp; (try with_reducible rfl))); (try simp only [Act.put, List.setIfInBounds_toArray, List.set_cons_zero, List.set_cons_succ]))
          refine SeqW.act (by rfl) rfl (by rfl) (by rfl) (fun K hK => ?_)
          go_simp
          refine (r2Has_calls SS.out HKV.out).mono ?_
          rintro e wd ⟨rfl, ds⟩
          have ks := (Kept.refl Noneof wc).drewn ds
          refine hK.out _ _ (ks.cell (fun h => h) p0) ?_
          replace TA := Lib.hid (TA.out.still ks)
          replace HKV := Lib.hid (HKV.out.still byteEl_k ks)
          replace kw := Lib.hid (Kept.q kw.out ks)
          replace p0 := ks.cell (fun h => h) p0
          clear K hK ds ks SS
          (try simp only [Act.put, List.setIfInBounds_toArray, List.set_cons_zero, List.set_cons_succ])
          cases hh1 : hasK (sortedL l1) l3[n].1))
        · have E1 := SU.out (sortedL l1) (putAll seed (fillT seed l3) (sortedL l1).reverse)
          rw [hh1, if_neg (by simp)] at E1
          (refine SeqW.val (v := ?_) (by rfl) (by rfl) (fun wx hSw => ?_) ?_; rotate_left; (focus ((try dsimp only at hSw); go_simp; (try with_reducible rfl))); (try simp only [Act.put, List.setIfInBounds_toArray, List.set_cons_zero, List.set_cons_succ]))
          refine SeqW.nil ?_
          go_wp2_with fail
          refine (two_drop TA.out HKV.out fun b h hq => HQ.out b h hq.1).mono ?_
          rintro e we ⟨⟨r, rfl⟩, ta, ka⟩
          rw [← E1] at ta
          replace TA := Lib.hid ta
          replace p0 := ka.cell (p := ⟨wr.heap.size, 0, none⟩) (fun h => h.2 ⟨Nat.le_refl _, LW.out⟩) p0
          replace HKV := Lib.hid (HKV.out.kept byteEl_k ka fun b h _ hq => HQ.out b h hq.1)
          replace kw := Lib.hid (Kept.qq kw.out ka fun b h => h.1)
          clear ta ka E1 hh1
          go_upto_region 26 with (fail)
          generalize we = wg at *
          (
          refine wp_region_chain 6 [1, 4] (fun w' => w'.cell? ⟨wr.heap.size, 0, none⟩ = some (.slice a7 n7 c7)) (by kernel_rfl) (by kernel_rfl) ?_ ?_
          · exact p0
          refine SeqW.out ?_
          simp only [List.take_succ_cons, List.take_zero, List.drop_succ_cons, List.drop_zero]
          have kd := (Kept.refl Noneof wg).drew
          replace TA := Lib.hid (TA.out.still kd)
          replace HKV := Lib.hid (HKV.out.still byteEl_k kd)
          replace kw := Lib.hid (Kept.q kw.out kd)
          replace p0 := kd.cell (fun h => h) p0
          generalize wg.drew = wh at *
          clear kd
          (refine SeqW.val (v := ?_) (by rfl) (by rfl) (fun wx hSw => ?_) ?_; rotate_left; (focus ((try dsimp only at hSw); go_simp; (try with_reducible rfl))); (try simp only [Act.put, List.setIfInBounds_toArray, List.set_cons_zero, List.set_cons_succ]))
          refine SeqW.act (by rfl) rfl (by rfl) (by rfl) (fun K hK => ?_)
          go_simp
          refine (l7sorted_calls ((H2.out.still pairEl_k K9.out).kept pairEl_k kw.out fun b h _ => HQ.out b h) (fewK_iff F2.out).1).mono ?_
          rintro e wi ⟨vs, rfl, ss, ks⟩
          refine hK.out _ _ (ks.cell (fun h => h) p0) ?_
          replace TA := Lib.hid (TA.out.still ks)
          replace HKV := Lib.hid (HKV.out.still byteEl_k ks)
          replace kw := Lib.hid (Kept.q kw.out ks)
          replace p0 := ks.cell (fun h => h) p0
          have SS := Lib.hid ss
          obtain ⟨s1, s2, s3, rfl⟩ := ss.slice'
          clear K hK ss ks
          (try simp only [Act.put, List.setIfInBounds_toArray, List.set_cons_zero, List.set_cons_succ])
          (refine SeqW.val (v := ?_) (by rfl) (by rfl) (fun wx hSw => ?_) ?_; rotate_left; (focus ((try dsimp only at hSw); go_simp; (try with_reducible rfl))); (try simp only [Act.put, List.setIfInBounds_toArray, List.set_cons_zero, List.set_cons_succ]))
          (refine SeqW.val (v := ?_) (by rfl) (by rfl) (fun wx hSw => ?_) ?_; rotate_left; (focus ((try dsimp only at hSw); go_simp; (try with_reducible rfl))); (try simp only [Act.put, List.setIfInBounds_toArray, List.set_cons_zero, List.set_cons_succ]))
          refine SeqW.act (by rfl) rfl (by rfl) (by rfl) (fun K hK => ?_)
          go_simp
          refine (r2Has_calls SS.out HKV.out).mono ?_
          rintro e wj ⟨rfl, ds⟩
          have ks := (Kept.refl Noneof wi).drewn ds
          refine hK.out _ _ (ks.cell (fun h => h) p0) ?_
          replace TA := Lib.hid (TA.out.still ks)
          replace HKV := Lib.hid (HKV.out.still byteEl_k ks)
          replace kw := Lib.hid (Kept.q kw.out ks)
          replace p0 := ks.cell (fun h => h) p0
          clear K hK ds ks SS
          (try simp only [Act.put, List.setIfInBounds_toArray, List.set_cons_zero, List.set_cons_succ])
          cases hh2 : hasK (sortedL l2) l3[n].1)
          (
          · have E2 := SU.out (sortedL l2) (putAll seed (fillT seed l3) (sortedL l2).reverse)
            rw [hh2, if_neg (by simp)] at E2
            (refine SeqW.val (v := ?_) (by rfl) (by rfl) (fun wx hSw => ?_) ?_; rotate_left; (focus ((try dsimp only at hSw); go_simp; (try with_reducible rfl))); (try simp only [Act.put, List.setIfInBounds_toArray, List.set_cons_zero, List.set_cons_succ]))
            refine SeqW.nil ?_
            go_wp2_with fail
            refine (two_drop TA.out.swap HKV.out fun b h hq => HQ.out b h hq.1).mono ?_
            rintro e wk ⟨⟨r, rfl⟩, ta, ka⟩
            rw [← E2] at ta
            have TZ := Lib.hid (ta.swap.widen (R := fun b => w7.heap.size ≤ b) fun b h => h.1)
            replace kw := Lib.hid (Kept.qq kw.out ka fun b h => h.1)
            clear ta ka E2 hh2 TA
            go_wp2
            go_roundw
            case rel => exact ⟨n + 1, by omega, by go_num, TZ, kw⟩
            case measure => simp [intOf]; omega
          · have E2 := SU.out (sortedL l2) (putAll seed (fillT seed l3) (sortedL l2).reverse)
            rw [hh2, if_pos rfl] at E2
            (refine SeqW.val (v := ?_) (by rfl) (by rfl) (fun wx hSw => ?_) ?_; rotate_left; (focus ((try dsimp only at hSw); go_simp; (try with_reducible rfl))); (try simp only [Act.put, List.setIfInBounds_toArray, List.set_cons_zero, List.set_cons_succ]))
            refine SeqW.nil ?_
            rw [← E2] at TA
            have TZ := Lib.hid (TA.out.widen (R := fun b => w7.heap.size ≤ b) fun b h => h.1)
            clear E2 hh2 TA
            go_wp2
            go_roundw
            case rel => exact ⟨n + 1, by omega, by go_num, TZ, kw⟩
            case measure => simp [intOf]; omega)
        · have E1 := SU.out (sortedL l1) (putAll seed (fillT seed l3) (sortedL l1).reverse)
          rw [hh1, if_pos rfl] at E1
          (refine SeqW.val (v := ?_) (by rfl) (by rfl) (fun wx hSw => ?_) ?_; rotate_left; (focus ((try dsimp only at hSw); go_simp; (try with_reducible rfl))); (try simp only [Act.put, List.setIfInBounds_toArray, List.set_cons_zero, List.set_cons_succ]))
          refine SeqW.nil ?_
          rw [← E1] at TA
          clear E1 hh1
          go_upto_region 26 with (fail)
          generalize wd = wg at *
          (
          refine wp_region_chain 6 [1, 4] (fun w' => w'.cell? ⟨wr.heap.size, 0, none⟩ = some (.slice a7 n7 c7)) (by kernel_rfl) (by kernel_rfl) ?_ ?_
          · exact p0
          refine SeqW.out ?_
          simp only [List.take_succ_cons, List.take_zero, List.drop_succ_cons, List.drop_zero]
          have kd := (Kept.refl Noneof wg).drew
          replace TA := Lib.hid (TA.out.still kd)
          replace HKV := Lib.hid (HKV.out.still byteEl_k kd)
          replace kw := Lib.hid (Kept.q kw.out kd)
          replace p0 := kd.cell (fun h => h) p0
          generalize wg.drew = wh at *
          clear kd
          (refine SeqW.val (v := ?_) (by rfl) (by rfl) (fun wx hSw => ?_) ?_; rotate_left; (focus ((try dsimp only at hSw); go_simp; (try with_reducible rfl))); (try simp only [Act.put, List.setIfInBounds_toArray, List.set_cons_zero, List.set_cons_succ]))
          refine SeqW.act (by rfl) rfl (by rfl) (by rfl) (fun K hK => ?_)
          go_simp
          refine (l7sorted_calls ((H2.out.still pairEl_k K9.out).kept pairEl_k kw.out fun b h _ => HQ.out b h) (fewK_iff F2.out).1).mono ?_
          rintro e wi ⟨vs, rfl, ss, ks⟩
          refine hK.out _ _ (ks.cell (fun h => h) p0) ?_
          replace TA := Lib.hid (TA.out.still ks)
          replace HKV := Lib.hid (HKV.out.still byteEl_k ks)
          replace kw := Lib.hid (Kept.q kw.out ks)
          replace p0 := ks.cell (fun h => h) p0
          have SS := Lib.hid ss
          obtain ⟨s1, s2, s3, rfl⟩ := ss.slice'
          clear K hK ss ks
          (try simp only [Act.put, List.setIfInBounds_toArray, List.set_cons_zero, List.set_cons_succ])
          (refine SeqW.val (v := ?_) (by rfl) (by rfl) (fun wx hSw => ?_) ?_; rotate_left; (focus ((try dsimp only at hSw); go_simp; (try with_reducible rfl))); (try simp only [Act.put, List.setIfInBounds_toArray, List.set_cons_zero, List.set_cons_succ]))
          (refine SeqW.val (v := ?_) (by rfl) (by rfl) (fun wx hSw => ?_) ?_; rotate_left; (focus ((try dsimp only at hSw); go_simp; (try with_reducible rfl))); (try simp only [Act.put, List.setIfInBounds_toArray, List.set_cons_zero, List.set_cons_succ]))
          refine SeqW.act (by rfl) rfl (by rfl) (by rfl) (fun K hK => ?_)
          go_simp
          refine (r2Has_calls SS.out HKV.out).mono ?_
          rintro e wj ⟨rfl, ds⟩
          have ks := (Kept.refl Noneof wi).drewn ds
          refine hK.out _ _ (ks.cell (fun h => h) p0) ?_
          replace TA := Lib.hid (TA.out.still ks)
          replace HKV := Lib.hid (HKV.out.still byteEl_k ks)
          replace kw := Lib.hid (Kept.q kw.out ks)
          replace p0 := ks.cell (fun h => h) p0
          clear K hK ds ks SS
          (try simp only [Act.put, List.setIfInBounds_toArray, List.set_cons_zero, List.set_cons_succ])
          cases hh2 : hasK (sortedL l2) l3[n].1)
          (
          · have E2 := SU.out (sortedL l2) (putAll seed (fillT seed l3) (sortedL l2).reverse)
            rw [hh2, if_neg (by simp)] at E2
            (refine SeqW.val (v := ?_) (by rfl) (by rfl) (fun wx hSw => ?_) ?_; rotate_left; (focus ((try dsimp only at hSw); go_simp; (try with_reducible rfl))); (try simp only [Act.put, List.setIfInBounds_toArray, List.set_cons_zero, List.set_cons_succ]))
            refine SeqW.nil ?_
            go_wp2_with fail
            refine (two_drop TA.out.swap HKV.out fun b h hq => HQ.out b h hq.1).mono ?_
            rintro e wk ⟨⟨r, rfl⟩, ta, ka⟩
            rw [← E2] at ta
            have TZ := Lib.hid (ta.swap.widen (R := fun b => w7.heap.size ≤ b) fun b h => h.1)
            replace kw := Lib.hid (Kept.qq kw.out ka fun b h => h.1)
            clear ta ka E2 hh2 TA
            go_wp2
            go_roundw
            case rel => exact ⟨n + 1, by omega, by go_num, TZ, kw⟩
            case measure => simp [intOf]; omega
          · have E2 := SU.out (sortedL l2) (putAll seed (fillT seed l3) (sortedL l2).reverse)
            rw [hh2, if_pos rfl] at E2
            (refine SeqW.val (v := ?_) (by rfl) (by rfl) (fun wx hSw => ?_) ?_; rotate_left; (focus ((try dsimp only at hSw); go_simp; (try with_reducible rfl))); (try simp only [Act.put, List.setIfInBounds_toArray, List.set_cons_zero, List.set_cons_succ]))
            refine SeqW.nil ?_
            rw [← E2] at TA
            have TZ := Lib.hid (TA.out.widen (R := fun b => w7.heap.size ≤ b) fun b h => h.1)
            clear E2 hh2 TA
            go_wp2
            go_roundw
            case rel => exact ⟨n + 1, by omega, by go_num, TZ, kw⟩
            case measure => simp [intOf]; omega)
      · obtain rfl : n = l3.length := by omega
        rw [List.take_length] at tw
        replace tw := Lib.hid (show Two seed (fun b => w7.heap.size ≤ b) wr w7.heap.size w8.heap.size (fillT seed (sortedL l1)) (fillT seed (sortedL l2)) by
          have := tw.out
          rw [show dropSel seed (sortedL l1) (putAll seed (fillT seed l3) (sortedL l1).reverse) l3 = fillT seed (sortedL l1) from hist_eq (sortedL_srt l1), show dropSel seed (sortedL l2) (putAll seed (fillT seed l3) (sortedL l2).reverse) l3 = fillT seed (sortedL l2) from hist_eq (sortedL_srt l2)] at this
          exact this)
        replace M1 := Lib.hid (M1.out.kept kw.out fun b h hh => by have := B6.out; have := B7.out; omega)
        replace M2 := Lib.hid (M2.out.kept kw.out fun b h hh => by omega)
        have KR := Lib.hid (show Kept Noneof w wr from K9.out.trans kw.out fun b h => .inr (by have := B5.out; have := B6.out; have := B7.out; omega))
        have FS1 := Lib.hid (fewK_iff (fewK_sorted F1.out))
        have FS2 := Lib.hid (fewK_iff (fewK_sorted F2.out))
        have z1 := Lib.hid (Nat.le_trans (fillT_size seed (sortedL l1)) FS1.out.1)
        have z2 := Lib.hid (Nat.le_trans (fillT_size seed (sortedL l2)) FS2.out.1)
        have T1 := Lib.hid (fillT_good seed (sortedL l1))
        have O1 := Lib.hid (fillT_okP (seed := seed) FS1.out.2)
        have T2 := Lib.hid (fillT_good seed (sortedL l2))
        have O2 := Lib.hid (fillT_okP (seed := seed) FS2.out.2)
        have MS := Lib.hid (mirT_size seed T2.out T1.out)
        obtain ⟨_, Fc, Fd, hc, hd, hcd, hc1, hd1⟩ := tw.out
        have MC := Lib.hid hc
        have MD := Lib.hid hd
        have HCD := Lib.hid hcd
        have HC1 := Lib.hid hc1
        have HD1 := Lib.hid hd1
        have NCD := Lib.hid (show w7.heap.size ≠ w8.heap.size by have := B9.out; omega)
        clear hc hd hcd hc1 hd1 tw kw hn hl
        go_wp2_with fail
        refine (swMirror_new (t := fillT seed (sortedL l1)) (u := fillT seed (sortedL l2)) M1.out M2.out N12.out (Tr.good_srt T2.out) O1.out (by have := z1.out; omega) (by have := z2.out; omega) (by have := z1.out; have := z2.out; omega) fun b h => by have := B9.out; have := KR.out.size; have := MD.out.lt; omega).mono ?_
        rintro e wx ⟨vx, Gx, rfl, sx, mx, hg, k⟩
        have KX := Lib.hid (KR.out.trans k fun b h => .inr (by have := B5.out; have := B6.out; omega))
        replace M1 := Lib.hid (M1.out.kept k fun b h hh => by have := B6.out; omega)
        replace M2 := Lib.hid (show MapAt seed wx m2 (mirT seed (fillT seed (sortedL l2)) (fillT seed (sortedL l1))) Gx from mx)
        have HG := Lib.hid (show ∀ b, Gx b → (w6.heap.size ≤ b ∧ b < w7.heap.size) ∨ wr.heap.size ≤ b from hg)
        replace MC := Lib.hid (MC.out.kept k fun b h hh => by have := (HC1.out b h).1; omega)
        replace MD := Lib.hid (MD.out.kept k fun b h hh => by have := (HD1.out b h).1; omega)
        have SX := Lib.hid (show SV msgEl (fun b => wr.heap.size ≤ b) wx vx _ from sx.wide msgEl_k fun b h _ => h.2)
        have TP := Lib.hid (talk_pos (seed := seed) (u := fillT seed (sortedL l2)) (fillT seed (sortedL l1)) [] [] false)
        have LX := Lib.hid (show wr.heap.size ≤ wx.heap.size from k.size)
        obtain ⟨x1, q1, rfl, _⟩ := sx
        clear mx hg k
        go_wp2_with fail
        refine (swMirror_new (t := fillT seed (sortedL l1)) (u := fillT seed (sortedL l2)) MC.out MD.out NCD.out (Tr.good_srt T2.out) O1.out (by have := z1.out; omega) (by have := z2.out; omega) (by have := z1.out; have := z2.out; omega) fun b h => by have := (HD1.out b h).2; have := LX.out; omega).mono ?_
        rintro e wy ⟨vy, Gy, rfl, sy, my, hg, k⟩
        have KY := Lib.hid (KX.out.trans k fun b h => .inr (by have := (HD1.out b h).1; have := B5.out; have := B6.out; have := B7.out; omega))
        replace M1 := Lib.hid (M1.out.kept k fun b h hh => by have := (HD1.out b hh).1; have := B6.out; have := B7.out; omega)
        replace MC := Lib.hid (MC.out.kept k fun b h hh => HCD.out b h hh)
        replace MD := Lib.hid (show MapAt seed wy w8.heap.size (mirT seed (fillT seed (sortedL l2)) (fillT seed (sortedL l1))) Gy from my)
        replace M2 := Lib.hid (M2.out.kept k fun b h hh => by have := (HD1.out b hh); have := HG.out b h; omega)
        replace SX := Lib.hid (SX.out.kept msgEl_k k fun b h _ hh => by have := (HD1.out b hh).2; omega)
        have SY := Lib.hid (sy.any msgEl_k)
        obtain ⟨x2, q2, rfl, _⟩ := sy
        have sz1 := Lib.hid (show (fillT seed (sortedL l1)).size ≤ 100000 by have := z1.out; omega)
        have sz2 := Lib.hid (show (mirT seed (fillT seed (sortedL l2)) (fillT seed (sortedL l1))).size ≤ 100000 by have := z1.out; have := z2.out; have := MS.out; omega)
        have p1 : (0 : Int) < ((talk seed (fillT seed (sortedL l2)) (fillT seed (sortedL l1)) [] [] false).length : Int) := by have := TP.out; omega
        clear my hg k
        go_wp2_with fail
        clear p1
        refine (r7Same_calls SX.out SY.out).mono ?_
        rintro e wz ⟨rfl, k⟩
        have KZ := Lib.hid (KY.out.tr k)
        replace M1 := Lib.hid (M1.out.kept k fun _ _ h => h)
        replace M2 := Lib.hid (M2.out.kept k fun _ _ h => h)
        replace MC := Lib.hid (MC.out.kept k fun _ _ h => h)
        replace MD := Lib.hid (MD.out.kept k fun _ _ h => h)
        clear k SX SY
        (
        go_wp2_with fail
        refine (orImage_calls M1.out (sz1.out)).mono ?_
        rintro e wI ⟨v', rfl, o', k⟩
        have KZA := Lib.hid (KZ.out.tr k)
        have I1 := Lib.hid o'.sv
        obtain ⟨i1, i2, i3, rfl⟩ := o'.slice'
        replace M1 := Lib.hid (M1.out.kept k fun _ _ h => h)
        replace M2 := Lib.hid (M2.out.kept k fun _ _ h => h)
        replace MC := Lib.hid (MC.out.kept k fun _ _ h => h)
        replace MD := Lib.hid (MD.out.kept k fun _ _ h => h)
        clear o' k
        go_wp2_with fail
        refine (orImage_calls MC.out (sz1.out)).mono ?_
        rintro e wJ ⟨v'', rfl, o'', k⟩
        have KZB := Lib.hid (KZA.out.tr k)
        have I2 := Lib.hid o''.sv
        obtain ⟨i4, i5, i6, rfl⟩ := o''.slice'
        replace I1 := Lib.hid (I1.out.still byteEl_k k)
        replace M1 := Lib.hid (M1.out.kept k fun _ _ h => h)
        replace M2 := Lib.hid (M2.out.kept k fun _ _ h => h)
        replace MC := Lib.hid (MC.out.kept k fun _ _ h => h)
        replace MD := Lib.hid (MD.out.kept k fun _ _ h => h)
        clear o'' k
        go_wp2_with fail
        refine (r2Compare_calls I1.out I2.out).mono ?_
        rintro e wK ⟨rfl, dd⟩
        rw [cmpB_self]
        have k := (Kept.refl Noneof wJ).drewn dd
        have KZC := Lib.hid (KZB.out.tr k)
        replace M1 := Lib.hid (M1.out.kept k fun _ _ h => h)
        replace M2 := Lib.hid (M2.out.kept k fun _ _ h => h)
        replace MC := Lib.hid (MC.out.kept k fun _ _ h => h)
        replace MD := Lib.hid (MD.out.kept k fun _ _ h => h)
        clear dd k I1 I2)
        (
        go_wp2_with fail
        refine (orImage_calls M2.out (sz2.out)).mono ?_
        rintro e wI ⟨v', rfl, o', k⟩
        have KZD := Lib.hid (KZC.out.tr k)
        have I1 := Lib.hid o'.sv
        obtain ⟨i1, i2, i3, rfl⟩ := o'.slice'
        replace M1 := Lib.hid (M1.out.kept k fun _ _ h => h)
        replace M2 := Lib.hid (M2.out.kept k fun _ _ h => h)
        replace MC := Lib.hid (MC.out.kept k fun _ _ h => h)
        replace MD := Lib.hid (MD.out.kept k fun _ _ h => h)
        clear o' k
        go_wp2_with fail
        refine (orImage_calls MD.out (sz2.out)).mono ?_
        rintro e wJ ⟨v'', rfl, o'', k⟩
        have KZE := Lib.hid (KZD.out.tr k)
        have I2 := Lib.hid o''.sv
        obtain ⟨i4, i5, i6, rfl⟩ := o''.slice'
        replace I1 := Lib.hid (I1.out.still byteEl_k k)
        replace M1 := Lib.hid (M1.out.kept k fun _ _ h => h)
        replace M2 := Lib.hid (M2.out.kept k fun _ _ h => h)
        replace MC := Lib.hid (MC.out.kept k fun _ _ h => h)
        replace MD := Lib.hid (MD.out.kept k fun _ _ h => h)
        clear o'' k
        go_wp2_with fail
        refine (r2Compare_calls I1.out I2.out).mono ?_
        rintro e wK ⟨rfl, dd⟩
        rw [cmpB_self]
        have k := (Kept.refl Noneof wJ).drewn dd
        have KZF := Lib.hid (KZE.out.tr k)
        replace M1 := Lib.hid (M1.out.kept k fun _ _ h => h)
        replace M2 := Lib.hid (M2.out.kept k fun _ _ h => h)
        replace MC := Lib.hid (MC.out.kept k fun _ _ h => h)
        replace MD := Lib.hid (MD.out.kept k fun _ _ h => h)
        clear dd k I1 I2)
        go_wp2
        go_ret
        exact ⟨rfl, KZF.out⟩
end Go.Proofs.Ytaopjdjbpamhhaa
/- Proved: the law SwapHistory returns true for all its arguments, and each argument reads afterwards as it read before. No condition beyond the statement's own. -/
namespace Go.Proofs.Ytaopjdjbpamhhaa.swapHistory
open Go.ChangeShapes Go.WideShapes Go.ChangeAt Go.RowKit
set_option linter.unusedVariables false
theorem opensPair : Opens Try.prog 70 pairEl := opens_pair (t := 31) (e := 5) (Try.underlying70) rfl rfl rfl rfl (by kernel_rfl) (by kernel_rfl) Try.underlying31 Try.underlying5 (by kernel_rfl) (of_decide_eq_true (by kernel_rfl))
set_option maxRecDepth 100000 in
theorem lifted (os : Os) (started : os.Started) (H : Type) (enc : TypeId × Value → H) :
    ReturnsInHanded {} Try.checked os 17 .any (Rows.swapHistorySpec.pre6 enc Try.prog Try.f17 Rows.swapHistoryRow.domain false) (Rows.swapHistorySpec.post enc Try.prog Try.f17 false true false false) := by
  refine returnsInHanded_of_change_sized (C := Try.checked) Facts.own started (by kernel_rfl) Try.func17
    (ChangeSpec.witness6 (enc := enc) (C := Try.checked) false ⟨#[], #[.int .u64 0, .slice none 0 0, .slice none 0 0, .slice none 0 0], []⟩ 8 (by kernel_rfl) (by kernel_rfl) (by kernel_rfl) (by kernel_rfl)) ?_
  intro W base args ds gs before hval0 hW hcnd hsz0 _
  have hsz : (DataW.weightsEach Try.prog (Try.f17.params.toList ++ Rows.swapHistorySpec.plain.varTypes Try.prog) (ds ++ gs)).all (· ≤ reachBytes) = true := hsz0
  have hval : ∀ (j : Nat) t v, Try.f17.params[j]? = some t → args[j]? = some v → Value.okWide Try.prog W .any base t v := hval0
  have hW' := hW
  obtain ⟨p, q, hA0, hV, rfl, hfz, hnd⟩ := hW
  have hA : DataW.TrodAll enc Try.prog W 0 (fun _ => true) true Try.f17.params.toList args.toList ds p := hA0
  rw [Try.params17] at hA hval hsz
  obtain ⟨v0, vs0, d0, ds0, p0, q0, hargs, rfl, rfl, h0, r0⟩ := trodAll_cons hA
  obtain ⟨v1, vs1, d1, ds1, p1, q1, rfl, rfl, rfl, h1, r1⟩ := trodAll_cons r0
  obtain ⟨v2, vs2, d2, ds2, p2, q2, rfl, rfl, rfl, h2, r2⟩ := trodAll_cons r1
  obtain ⟨v3, vs3, d3, ds3, p3, q3, rfl, rfl, rfl, h3, r3⟩ := trodAll_cons r2
  obtain ⟨rfl, rfl, rfl⟩ := trodAll_nil r3
  obtain rfl : args = #[v0, v1, v2, v3] := by cases args; simp_all
  obtain ⟨rfl, rfl⟩ := trodVars_none hV
  obtain ⟨a0, rfl, rfl, rfl, w0⟩ := open_int Try.underlying22 (hval 0 22 v0 rfl rfl) h0
  obtain ⟨a1, len1, cap1, rfl⟩ := okWide_slice Try.underlying65 (hval 1 65 v1 rfl rfl)
  obtain ⟨a2, len2, cap2, rfl⟩ := okWide_slice Try.underlying65 (hval 2 65 v2 rfl rfl)
  obtain ⟨a3, len3, cap3, rfl⟩ := okWide_slice Try.underlying65 (hval 3 65 v3 rfl rfl)
  have k1 := h1
  have lt1 : ∀ x ∈ p1, x.block < W.heap.size := by obtain ⟨m, hm⟩ := k1; exact DataW.trod_lt m _ _ _ hm
  have k2 := h2
  have lt2 : ∀ x ∈ p2, x.block < W.heap.size := by obtain ⟨m, hm⟩ := k2; exact DataW.trod_lt m _ _ _ hm
  have k3 := h3
  have lt3 : ∀ x ∈ p3, x.block < W.heap.size := by obtain ⟨m, hm⟩ := k3; exact DataW.trod_lt m _ _ _ hm
  obtain ⟨l1, s1⟩ := open_arg (E := pairEl) (j := 1) pairEl_k opensPair Try.underlying65 (by kernel_rfl) (of_decide_eq_true (by kernel_rfl)) h1 rfl hsz rfl rfl
  obtain ⟨l2, s2⟩ := open_arg (E := pairEl) (j := 2) pairEl_k opensPair Try.underlying65 (by kernel_rfl) (of_decide_eq_true (by kernel_rfl)) h2 rfl hsz rfl rfl
  obtain ⟨l3, s3⟩ := open_arg (E := pairEl) (j := 3) pairEl_k opensPair Try.underlying65 (by kernel_rfl) (of_decide_eq_true (by kernel_rfl)) h3 rfl hsz rfl rfl
  clear hA0 hval0 hsz0
  refine (swapHistory_walk (seed := a0) s1 s2 s3).mono fun e W' ⟨he, kw⟩ => ?_
  have bel : Below W.heap.size W W' := kw.below (Nat.le_refl _) fun _ h => h.elim
  subst he
  exact ⟨_, rfl, _, _, _, [], _, [], hW', trodAll_mk1 (shut_bool Try.underlying4 _), (trodAll_cons_mk (shut_int Try.underlying22 w0) (trodAll_cons_mk (Below.trod Facts.laid (by kernel_rfl) (of_decide_eq_true (by kernel_rfl)) k1 bel lt1) (trodAll_cons_mk (Below.trod Facts.laid (by kernel_rfl) (of_decide_eq_true (by kernel_rfl)) k2 bel lt2) (trodAll_cons_mk (Below.trod Facts.laid (by kernel_rfl) (of_decide_eq_true (by kernel_rfl)) k3 bel lt3) trodAll_mk0)))), rfl, bel.frame _, fun h => by cases h⟩
set_option maxHeartbeats 4000000 in
theorem closed : joinedFacts Try.prog 17 Try.f17 Rows.swapHistorySpec Rows.swapHistoryRow = true := by
  refine Facts.joined 17 Try.f17 Rows.swapHistorySpec Rows.swapHistoryRow ?_ ?_ ?_ ?_ ?_ ?_ ?_ ?_ ?_ ?_ ?_ ?_ ?_ ?_ ?_ ?_ ?_ ?_ ?_ ?_ ?_ ?_ ?_ ?_ ?_ ?_ ?_ <;> exact (by as_aux_lemma => kernel_rfl)
set_option maxHeartbeats 4000000 in
theorem over : Rows.swapHistoryRow.holds Try.pinned (OpenSpec.ofChange Rows.swapHistorySpec) :=
  OpenClaim.holds_of_wide 17 Try.f17 rfl rfl rfl rfl rfl rfl rfl ⟨rfl, rfl, rfl, rfl, rfl⟩ rfl rfl rfl rfl rfl (by as_aux_lemma => kernel_rfl) Try.func17 closed
    (of_decide_eq_true (by as_aux_lemma => kernel_rfl)) (by unfold Func.isWrapper; first | (rw [if_pos (by decide +kernel)]; kernel_rfl) | (rw [if_neg (by decide +kernel)]; exact ⟨rfl, rfl⟩))
    (fun os started H enc _ => lifted os started H enc)
theorem proved : Rows.SwapHistorySaid := over
end Go.Proofs.Ytaopjdjbpamhhaa.swapHistory
namespace Go.Proofs.Ytaopjdjbpamhhaa
theorem swapHistory_holds : Rows.SwapHistorySaid := swapHistory.proved
#print axioms swapHistory_holds
end Go.Proofs.Ytaopjdjbpamhhaa
