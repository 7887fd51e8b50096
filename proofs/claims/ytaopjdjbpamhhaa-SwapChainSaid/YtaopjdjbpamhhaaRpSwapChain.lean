/- Proved: the law SwapChain returns true for all its arguments, and each argument reads afterwards as it read before. No condition beyond the statement's own. -/
import Derived.Test.YtaopjdjbpamhhaaPkE
import Derived.Test.YtaopjdjbpamhhaaPkA
import Derived.Test.YtaopjdjbpamhhaaRows
import Derived.Test.YtaopjdjbpamhhaaFacts
import Derived.ProofKit
import Derived.OpenShut
import Derived.ShutString
import Derived.ChangeOld
import Derived.SizedLaws
import Derived.Carry
/- Proved: contract of the law SwapMirrors' own code. Conditions: pairs in memory. -/
namespace Go.Proofs.Ytaopjdjbpamhhaa
open Go Go.RowKit
set_option linter.unusedVariables false
set_option linter.unusedSimpArgs false

theorem mirT_size (seed : Int) {u t : Tr} (hu : u.good seed) (ht : t.good seed) : (mirT seed u t).size ≤ u.size + t.size := by
  rw [← refT_mirT hu ht]
  exact refT_size seed t u [] [] false
theorem mirT_ok (seed : Int) {u t : Tr} (hu : u.good seed) (ht : t.good seed) (uo : u.ok) (tok : t.ok) : (mirT seed u t).ok := by
  rw [← refT_mirT hu ht]
  exact refT_ok seed tok uo

set_option maxRecDepth 100000 in
set_option maxHeartbeats 4000000 in
theorem swapMirrors_walk {seed : Int} {D1 D2 : Nat → Prop} {w : World} {v1 v2 : Value} {l1 l2 : List (Bts × Bts)} (h1 : SV pairEl D1 w v1 l1) (h2 : SV pairEl D2 w v2 l2) :
    Calls Try.prog 18 #[.int .u64 seed, v1, v2] w fun e w' => e = .returned (.bool true) ∧ Kept Noneof w w' := by
  (
  have H1 := Lib.hid h1
  have H2 := Lib.hid h2
  obtain ⟨a1, c1, rfl, _⟩ := h1
  obtain ⟨a2, c2, rfl, _⟩ := h2
  go_enter Try.func18, Try.ntmps18
  go_wp2_with fail
  refine (l7few_calls H1.out).mono ?_
  rintro e w1 ⟨rfl, k1⟩
  have K1 := Lib.hid k1
  clear k1
  cases hf1 : fewK l1
  · go_wp2
    go_ret
    exact ⟨rfl, K1.out⟩
  have F1 := Lib.hid hf1
  clear hf1
  go_wp2_with fail
  refine (l7few_calls (H2.out.kept pairEl_k K1.out fun _ _ _ h => h)).mono ?_
  rintro e w2 ⟨rfl, k2⟩
  have K2 := Lib.hid (K1.out.tr k2)
  clear k2
  cases hf2 : fewK l2
  · go_wp2
    go_ret
    exact ⟨rfl, K2.out⟩
  have F2 := Lib.hid hf2
  clear hf2
  go_wp2_with fail
  refine (l7filled_calls (seed := seed) (H1.out.kept pairEl_k K2.out fun _ _ _ h => h) F1.out).mono ?_
  rintro e w3 ⟨m1, G1, rfl, hm1, hg1, _, k3⟩
  have K3 := Lib.hid (K2.out.tr k3)
  have M1 := Lib.hid (hm1.wide (F' := fun b => w.heap.size ≤ b ∧ b < w3.heap.size) fun b h hl => ⟨Nat.le_trans K2.out.size (hg1 b h), hl⟩)
  clear hm1 hg1 k3
  go_wp2_with fail
  refine (l7filled_calls (seed := seed) (H2.out.kept pairEl_k K3.out fun _ _ _ h => h) F2.out).mono ?_
  rintro e w4 ⟨m2, G2, rfl, hm2, hg2, hlo, k4⟩
  have K4 := Lib.hid (K3.out.tr k4)
  have M1b := Lib.hid (M1.out.kept k4 fun _ _ h => h)
  have NE := Lib.hid (show m1 ≠ m2 by have := M1.out.lt; omega)
  have M2 := Lib.hid (hm2.wide (F' := fun b => w3.heap.size ≤ b ∧ b < w4.heap.size) fun b h hl => ⟨hg2 b h, hl⟩)
  have W3 := Lib.hid (show w.heap.size ≤ w3.heap.size from K3.out.size)
  clear hm2 hg2 k4 hlo M1
  have z1 := Lib.hid (Nat.le_trans (fillT_size seed l1) (fewK_iff F1.out).1)
  have z2 := Lib.hid (Nat.le_trans (fillT_size seed l2) (fewK_iff F2.out).1)
  have E1 := Lib.hid (fillT_pairs seed l1)
  have E2 := Lib.hid (fillT_pairs seed l2)
  have T1 := Lib.hid (fillT_good seed l1)
  have T2 := Lib.hid (fillT_good seed l2)
  have O1 := Lib.hid (fillT_okP (seed := seed) (fewK_iff F1.out).2)
  have O2 := Lib.hid (fillT_okP (seed := seed) (fewK_iff F2.out).2))
  go_wp2_with fail
  refine (swMirror_calls (t := fillT seed l1) (u := fillT seed l2) M1b.out M2.out NE.out (Tr.good_srt T2.out) O1.out (by have := z1.out; omega) (by have := z2.out; omega) (by have := z1.out; have := z2.out; omega) fun b h => h.2).mono ?_
  rintro e w5 ⟨v5, G3, rfl, s5, m5, hg3, k5⟩
  have K5 := Lib.hid (K4.out.trans k5 fun b h => .inr (by have := W3.out; omega))
  have M1c := Lib.hid (M1b.out.kept k5 fun b h hh => by omega)
  have M2c := Lib.hid (show MapAt seed w5 m2 (mirT seed (fillT seed l2) (fillT seed l1)) G3 from m5)
  have S5 := Lib.hid (s5.any msgEl_k)
  obtain ⟨x1, y1, q1, rfl⟩ := s5.slice'
  clear s5 m5 hg3 k5 M1b M2
  go_wp2_with fail
  refine (l7sorted_calls (H1.out.still pairEl_k K5.out) (fewK_iff F1.out).1).mono ?_
  rintro e w6 ⟨v6, rfl, s6, k6⟩
  have K6 := Lib.hid (K5.out.tr k6)
  have M1d := Lib.hid (M1c.out.kept k6 fun _ _ h => h)
  have M2d := Lib.hid (M2c.out.kept k6 fun _ _ h => h)
  have S5b := Lib.hid (S5.out.still msgEl_k k6)
  rw [← E1.out] at s6
  have S6 := Lib.hid s6
  obtain ⟨x2, y2, q2, rfl⟩ := s6.slice'
  clear s6 k6 M1c M2c S5
  go_wp2_with fail
  refine (l7sorted_calls (H2.out.still pairEl_k K6.out) (fewK_iff F2.out).1).mono ?_
  rintro e w7 ⟨v7, rfl, s7, k7⟩
  have K7 := Lib.hid (K6.out.tr k7)
  have M1e := Lib.hid (M1d.out.kept k7 fun _ _ h => h)
  have M2e := Lib.hid (M2d.out.kept k7 fun _ _ h => h)
  have S5c := Lib.hid (S5b.out.still msgEl_k k7)
  have S6b := Lib.hid (S6.out.still pairEl_k k7)
  rw [← E2.out] at s7
  have S7 := Lib.hid s7
  obtain ⟨x3, y3, q3, rfl⟩ := s7.slice'
  clear s7 k7 M1d M2d S5b S6
  go_wp2_with fail
  refine (r7Mirror_calls T1.out O1.out T2.out O2.out (by have := z1.out; have := z2.out; omega) S6b.out S7.out).mono ?_
  rintro e w8 ⟨vm, vt, rfl, sm, st, k8⟩
  have K8 := Lib.hid (K7.out.tr k8)
  have M1f := Lib.hid (M1e.out.kept k8 fun _ _ h => h)
  have M2f := Lib.hid (M2e.out.kept k8 fun _ _ h => h)
  have S5d := Lib.hid (S5c.out.still msgEl_k k8)
  have SM := Lib.hid sm
  have ST := Lib.hid st
  obtain ⟨x4, y4, q4, rfl⟩ := sm.slice'
  obtain ⟨x5, y5, q5, rfl⟩ := st.slice'
  clear sm st k8 M1e M2e S5c S6b S7
  go_upto_region 6 with (fail)
  have G11 := heap_alloc_new w8 (talkObj (.slice x4 y4 q4) (.slice x5 y5 q5))
  have k9 := (Kept.refl Noneof w8).alloc (talkObj (.slice x4 y4 q4) (.slice x5 y5 q5))
  unfold talkObj at G11 k9
  generalize w8.alloc (.cells #[.slice x4 y4 q4, .slice x5 y5 q5] 90) = w9 at *
  have K9 := Lib.hid (K8.out.tr k9)
  have M1g := Lib.hid (M1f.out.kept k9 fun _ _ h => h)
  have M2g := Lib.hid (M2f.out.kept k9 fun _ _ h => h)
  have S5e := Lib.hid (S5d.out.still msgEl_k k9)
  have SM9 := Lib.hid (SM.out.still msgEl_k k9)
  have ST9 := Lib.hid (ST.out.still pairEl_k k9)
  have G11 := Lib.hid G11
  clear k9 M1f M2f S5d SM ST K8
  have c0 : w9.cell? ⟨w8.heap.size, 0, none⟩ = some (.slice x4 y4 q4) := by simp [World.cell?, G11.out]
  go_wp2_with fail
  refine (r7Same_calls S5e.out SM9.out).mono ?_
  rintro e wa ⟨rfl, ka⟩
  have KA := Lib.hid (K9.out.tr ka)
  have M1h := Lib.hid (M1g.out.kept ka fun _ _ h => h)
  have M2h := Lib.hid (M2g.out.kept ka fun _ _ h => h)
  have STa := Lib.hid (ST9.out.still pairEl_k ka)
  have Ga := Lib.hid (ka.obj (fun h => h) G11.out)
  clear ka c0 M1g M2g ST9 G11 K9
  go_wp2_with fail
  refine (l7sorted_calls (H1.out.still pairEl_k KA.out) (fewK_iff F1.out).1).mono ?_
  rintro e wb ⟨vb, rfl, sb, kb⟩
  have KB := Lib.hid (KA.out.tr kb)
  have M1i := Lib.hid (M1h.out.kept kb fun _ _ h => h)
  have M2i := Lib.hid (M2h.out.kept kb fun _ _ h => h)
  have STb := Lib.hid (STa.out.still pairEl_k kb)
  have Gb := Lib.hid (kb.obj (fun h => h) Ga.out)
  rw [← E1.out] at sb
  have SB := Lib.hid sb
  obtain ⟨x6, y6, q6, rfl⟩ := sb.slice'
  clear sb kb M1h M2h STa Ga KA
  go_wp2_with fail
  refine (l7is_calls M1i.out (by have := z1.out; show (fillT seed l1).size ≤ _; omega) T1.out O1.out (by have := z1.out; omega) SB.out).mono ?_
  rintro e wc ⟨rfl, kc⟩
  have hb : (cmpB (imgT (putAll seed .nil l1)) (imgT (fillT seed l1)) == 0) = true := cmpB_beq _
  rw [hb]
  have KC := Lib.hid (KB.out.tr kc)
  have M2j := Lib.hid (M2i.out.kept kc fun _ _ h => h)
  have STc := Lib.hid (STb.out.still pairEl_k kc)
  have Gc := Lib.hid (kc.obj (fun h => h) Gb.out)
  clear hb kc M1i M2i STb Gb KB SB
  have c1 : wc.cell? ⟨w8.heap.size, 1, none⟩ = some (.slice x5 y5 q5) := by simp [World.cell?, Gc.out]
  have MS := Lib.hid (mirT_size seed T2.out T1.out)
  go_wp2_with fail
  refine (l7is_calls M2j.out (by have := z1.out; have := z2.out; have := MS.out; omega) (mirT_good T2.out) (mirT_ok seed T2.out T1.out O2.out O1.out) (by have := z1.out; have := z2.out; have := MS.out; omega) STc.out).mono ?_
  rintro e wd ⟨rfl, kd⟩
  rw [cmpB_beq]
  have KD := Lib.hid (KC.out.tr kd)
  clear kd c1
  go_wp2
  go_ret
  exact ⟨rfl, KD.out⟩
end Go.Proofs.Ytaopjdjbpamhhaa
/- Proved: contract of layer 7's law function met. Conditions: pairs and messages in memory. -/
namespace Go.Proofs.Ytaopjdjbpamhhaa
open Go Go.RowKit
set_option linter.unusedVariables false
set_option linter.unusedSimpArgs false

set_option maxRecDepth 100000 in
set_option maxHeartbeats 4000000 in
theorem l7met_calls {D1 D2 D3 : Nat → Prop} {v1 v2 v3 : Value} {F U : List (Bts × Bts)} {T : List Msg} {w : World} (hF : Srt F) (hU : Srt U) (h1 : SV pairEl D1 w v1 F) (h2 : SV pairEl D2 w v2 U) (h3 : SV msgEl D3 w v3 T) :
    Calls Try.prog 60 #[v1, v2, v3] w fun e w' => e = .returned (.bool (T.any (metB F U))) ∧ Kept Noneof w w' := by
  have H1 := Lib.hid h1
  have H2 := Lib.hid h2
  have H3 := Lib.hid h3
  obtain ⟨a1, n1, c1, rfl⟩ := h1.slice'
  obtain ⟨a2, n2, c2, rfl⟩ := h2.slice'
  obtain ⟨a3, c3, rfl, _⟩ := h3
  clear h1 h2
  go_enter Try.func60, Try.ntmps60
  go_wp2
  go_loopw [11] (fun i wr => ∃ n : Nat, n ≤ T.length ∧ i = .int .i64 n ∧ Hid (∀ m ∈ T.take n, metB F U m = false) ∧ Hid (Kept Noneof w wr)) (fun i _ => T.length - (intOf i).toNat)
  case atStart => exact ⟨0, Nat.zero_le _, rfl, Lib.hid (by simp), Lib.hid (Kept.refl _ _)⟩
  case round =>
    obtain ⟨n, hn, rfl, ha, kw⟩ := hrel
    by_cases hl : n < T.length
    · obtain ⟨a3', c3', e3, _, _, rd⟩ := H3.out.still msgEl_k kw.out
      simp only [Value.slice.injEq, true_and] at e3
      obtain ⟨rfl, rfl⟩ := e3
      obtain ⟨b1, o1, l1, k1, p1, rfl, _, x0, x1, x2, x3, x4, x5, x6, hl1, hk1, hp1⟩ := Rd.msg rd hl
      have L1 := Lib.hid hl1
      have P1 := Lib.hid hk1
      obtain ⟨z1, z2, z3, rfl⟩ := hl1.slice'
      obtain ⟨z7, z8, z9, rfl⟩ := hk1.slice'
      obtain ⟨s4, s5, s6, rfl⟩ := hp1.slice'
      have HT := Lib.hid (show ∀ b, metB F U T[n] = b → b = false → ∀ m ∈ T.take (n + 1), metB F U m = false from fun b hb e m hm => by
        rw [List.take_succ_eq_append_getElem hl] at hm
        rcases List.mem_append.1 hm with hm | hm
        · exact ha.out m hm
        · obtain rfl : m = T[n] := by simpa using hm
          rw [hb, e])
      have HA := Lib.hid (show metB F U T[n] = true → T.any (metB F U) = true from fun h => List.any_eq_true.2 ⟨T[n], List.getElem_mem hl, h⟩)
      have HM := Lib.hid (show metB F U T[n] = (T[n].same && !sameP (F.filter (inS T[n].low true T[n].high T[n].bd)) (U.filter (inS T[n].low true T[n].high T[n].bd))) from rfl)
      clear hl1 hk1 hp1 rd ha
      generalize hm : T[n] = m at *
      clear hm
      go_upto_region 4 with (fail)
      have G8 := heap_alloc_new wr (msgObj (.slice z1 z2 z3) (.slice z7 z8 z9) m.bd m.size m.dg m.same (.slice s4 s5 s6))
      have k8 := (Kept.refl Noneof wr).alloc (msgObj (.slice z1 z2 z3) (.slice z7 z8 z9) m.bd m.size m.dg m.same (.slice s4 s5 s6))
      unfold msgObj at G8 k8
      generalize wr.alloc (.cells #[.slice z1 z2 z3, .slice z7 z8 z9, .bool m.bd, .int .i64 m.size, .int .u64 m.dg, .bool m.same, .slice s4 s5 s6] 97) = w8 at *
      obtain ⟨p0, p1, p2, _, _, p5, _, _⟩ := msgObj_cells (show w8.heap[wr.heap.size]? = some (msgObj (.slice z1 z2 z3) (.slice z7 z8 z9) m.bd m.size m.dg m.same (.slice s4 s5 s6)) from G8)
      have L8 := Lib.hid (L1.out.still byteEl_k k8)
      have P8 := Lib.hid (P1.out.still byteEl_k k8)
      have K8 := Lib.hid (kw.out.tr k8)
      clear x0 x1 x2 x3 x4 x5 x6 G8 k8 L1 P1 kw
      go_cut [36] (fun q36 wx => q36 = .bool (metB F U m) ∧ Hid (Kept Noneof w wx))
      case first =>
        cases hs : m.same
        · rw [hs] at p5
          have MF := Lib.hid (show metB F U m = false by rw [HM.out, hs]; rfl)
          clear hs
          go_quiet (fail)
          go_wp2_with fail
          go_meet
          exact ⟨by rw [MF.out], Lib.hid (K8.out.drewN _)⟩
        · rw [hs] at p5
          have HM2 := Lib.hid (show metB F U m = !sameP (F.filter (inS m.low true m.high m.bd)) (U.filter (inS m.low true m.high m.bd)) by rw [HM.out, hs]; rfl)
          clear hs
          refine wp_region_chain 22 [10, 18, 19] (fun w' => w'.cell? ⟨wr.heap.size, 0, none⟩ = some (.slice z1 z2 z3) ∧ w'.cell? ⟨wr.heap.size, 1, none⟩ = some (.slice z7 z8 z9) ∧ w'.cell? ⟨wr.heap.size, 2, none⟩ = some (.bool m.bd) ∧ w'.cell? ⟨wr.heap.size, 5, none⟩ = some (.bool true)) (by kernel_rfl) (by kernel_rfl) ?_ ?_
          · exact ⟨p0, p1, p2, p5⟩
          simp only [List.take_succ_cons, List.take_zero, List.drop_succ_cons, List.drop_zero]
          iterate 10 (refine SeqY.val (v := ?_) (by rfl) (by rfl) (fun wx hSw => ?_) ?_; rotate_left; (focus ((try dsimp only at hSw); go_simp; (try with_reducible rfl))); (try simp only [Act.put, List.setIfInBounds_toArray, List.set_cons_zero, List.set_cons_succ]))
          refine SeqY.act (by rfl) rfl (by rfl) (by rfl) (fun K hK => ?_)
          go_simp
          refine (r2Span_calls (w := w8.drew) ((H1.out.still pairEl_k K8.out).at rfl) (L8.out.at rfl) (P8.out.at rfl)).mono ?_
          rintro e w9 ⟨v9, rfl, s9, d9⟩
          rw [spanL_filter hF] at s9
          have k9 : Kept Noneof w8 w9 := ((Kept.refl Noneof w8).drew).drewn d9
          refine hK.out _ _ ⟨k9.cell (fun h => h) p0, k9.cell (fun h => h) p1, k9.cell (fun h => h) p2, k9.cell (fun h => h) p5⟩ ?_
          have p0 := k9.cell (fun h => h) p0
          have p1 := k9.cell (fun h => h) p1
          have p2 := k9.cell (fun h => h) p2
          have p5 := k9.cell (fun h => h) p5
          have S9 := Lib.hid (s9.at d9.heap)
          have K9 := Lib.hid (K8.out.tr k9)
          have L9 := Lib.hid (L8.out.still byteEl_k k9)
          have P9 := Lib.hid (P8.out.still byteEl_k k9)
          obtain ⟨y1, y2, y3, rfl⟩ := s9.slice'
          clear K hK s9 d9 k9
          (try simp only [Act.put, List.setIfInBounds_toArray, List.set_cons_zero, List.set_cons_succ])
          iterate 7 (refine SeqY.val (v := ?_) (by rfl) (by rfl) (fun wx hSw => ?_) ?_; rotate_left; (focus ((try dsimp only at hSw); go_simp; (try with_reducible rfl))); (try simp only [Act.put, List.setIfInBounds_toArray, List.set_cons_zero, List.set_cons_succ]))
          refine SeqY.act (by rfl) rfl (by rfl) (by rfl) (fun K hK => ?_)
          go_simp
          refine (r2Span_calls (w := w9) (H2.out.still pairEl_k K9.out) L9.out P9.out).mono ?_
          rintro e wa ⟨va, rfl, sa, da⟩
          rw [spanL_filter hU] at sa
          have ka : Kept Noneof w9 wa := (Kept.refl Noneof w9).drewn da
          refine hK.out _ _ ⟨ka.cell (fun h => h) p0, ka.cell (fun h => h) p1, ka.cell (fun h => h) p2, ka.cell (fun h => h) p5⟩ ?_
          have p0 := ka.cell (fun h => h) p0
          have p1 := ka.cell (fun h => h) p1
          have p2 := ka.cell (fun h => h) p2
          have p5 := ka.cell (fun h => h) p5
          have SA := Lib.hid (sa.at da.heap)
          have S9a := Lib.hid (S9.out.still pairEl_k ka)
          have KA := Lib.hid (K9.out.tr ka)
          obtain ⟨y4, y5, y6, rfl⟩ := sa.slice'
          clear K hK sa da ka
          (try simp only [Act.put, List.setIfInBounds_toArray, List.set_cons_zero, List.set_cons_succ])
          refine SeqY.act (by rfl) rfl (by rfl) (by rfl) (fun K hK => ?_)
          go_simp
          refine (r2SamePairs_calls S9a.out SA.out).mono ?_
          rintro e wb ⟨rfl, db⟩
          have kb : Kept Noneof wa wb := (Kept.refl Noneof wa).drewn db
          refine hK.out _ _ ⟨kb.cell (fun h => h) p0, kb.cell (fun h => h) p1, kb.cell (fun h => h) p2, kb.cell (fun h => h) p5⟩ ?_
          have KB := Lib.hid (KA.out.tr kb)
          clear K hK db kb p0 p1 p2 p5
          generalize sameP (F.filter (inS m.low true m.high m.bd)) (U.filter (inS m.low true m.high m.bd)) = sp at *
          (try simp only [Act.put, List.setIfInBounds_toArray, List.set_cons_zero, List.set_cons_succ])
          iterate 2 (refine SeqY.val (v := ?_) (by rfl) (by rfl) (fun wx hSw => ?_) ?_; rotate_left; (focus ((try dsimp only at hSw); go_simp; (try with_reducible rfl))); (try simp only [Act.put, List.setIfInBounds_toArray, List.set_cons_zero, List.set_cons_succ]))
          refine SeqY.nil ?_
          go_wp2_with fail
          go_meet
          exact ⟨by rw [HM2.out], KB⟩
      case rest =>
        obtain ⟨rfl, KB⟩ := hcut
        clear p0 p1 p2 p5
        cases hmb : metB F U m
        · have MF := Lib.hid (HT.out _ rfl hmb)
          clear hmb
          go_wp2
          go_roundw
          case rel => exact ⟨n + 1, by omega, by go_num, MF, KB⟩
          case measure => simp [intOf]; omega
        · have AT := Lib.hid (HA.out hmb)
          clear hmb
          go_wp2
          go_ret
          exact ⟨ret_bool AT.out.symm, KB.out⟩
    · obtain rfl : n = T.length := by omega
      have AF := Lib.hid (show T.any (metB F U) = false by
        rw [List.any_eq_false]
        intro m hm
        rw [ha.out m (by rw [List.take_length]; exact hm)]
        simp)
      go_wp2
      go_ret
      exact ⟨ret_bool AF.out.symm, kw.out⟩
end Go.Proofs.Ytaopjdjbpamhhaa
/- Proved: the check of the chain law's region by bit masks: each operation's ancestors are given as a number, checked at one step each. No program is named. No condition. -/
namespace Go.Proofs.Ytaopjdjbpamhhaa
open Go Go.RowKit
set_option linter.unusedVariables false
set_option linter.unusedSimpArgs false

def allIx (p : Nat → Oper → Bool) : Nat → List Oper → Bool
  | _, [] => true
  | i, o :: r => p i o && allIx p (i + 1) r
theorem allIx_get {p : Nat → Oper → Bool} : ∀ {l : List Oper} {k : Nat}, allIx p k l = true → ∀ {j : Nat} {o : Oper}, l[j]? = some o → p (k + j) o = true
  | [], k, _, j, o, h => by simp at h
  | x :: l, k, h, 0, o, ho => by
    simp only [List.getElem?_cons_zero, Option.some.injEq] at ho
    subst ho
    simp only [allIx, Bool.and_eq_true] at h
    exact h.1
  | x :: l, k, h, j + 1, o, ho => by
    simp only [allIx, Bool.and_eq_true] at h
    have := allIx_get h.2 (j := j) (o := o) (by simpa using ho)
    rwa [show k + 1 + j = k + (j + 1) by omega] at this
def maskOf (ms : List Nat) : List Edge → Nat
  | [] => 0
  | e :: r => if Region.binds .any e then (2 ^ e.on ||| ms.getD e.on 0) ||| maskOf ms r else maskOf ms r
theorem maskOf_bit (ms : List Nat) (k : Nat) : ∀ es : List Edge, (maskOf ms es).testBit k = es.any fun e => Region.binds .any e && (e.on == k || (ms.getD e.on 0).testBit k)
  | [] => by simp [maskOf]
  | e :: r => by
    rw [maskOf, List.any_cons, ← maskOf_bit ms k r]
    cases h : Region.binds .any e with
    | true =>
      simp only [if_true, Nat.testBit_or, Nat.testBit_two_pow, Bool.true_and]
      congr 2
    | false => simp
def maskB (ms : List Nat) (l : List Oper) : Bool :=
  allIx (fun i o => o.after.toList.all (fun e => !Region.binds .any e || decide (e.on < i)) && (ms.getD i 0 == maskOf ms o.after.toList)) 0 l
theorem waitsN_mask {ms : List Nat} {l : List Oper} (h : maskB ms l = true) (k : Nat) : ∀ f i, i < f → i < l.length → waitsN l.toArray f i k = (ms.getD i 0).testBit k
  | 0, i, hi, _ => by omega
  | f + 1, i, hi, hl => by
    have := allIx_get h (List.getElem?_eq_getElem hl)
    simp only [Nat.zero_add, Bool.and_eq_true, beq_iff_eq, List.all_eq_true] at this
    obtain ⟨h1, h2⟩ := this
    rw [h2, maskOf_bit, waitsN]
    simp only [List.getElem?_toArray, List.getElem?_eq_getElem hl, ← Array.any_toList]
    rw [Bool.eq_iff_iff]
    simp only [List.any_eq_true, Bool.and_eq_true]
    refine exists_congr fun e => and_congr_right fun he => and_congr_right fun hb => ?_
    have := h1 e he
    simp only [hb, Bool.not_true, Bool.false_or, decide_eq_true_eq] at this
    rw [waitsN_mask h k f e.on (by omega) (by omega)]
theorem waits_mask {ms : List Nat} {l : List Oper} (h : maskB ms l = true) (i k : Nat) (hi : i < l.length) : waits l.toArray i k = (ms.getD i 0).testBit k :=
  waitsN_mask h k _ i (by simpa using hi) hi
def headM (ms : List Nat) (l : List Oper) (acts : List Nat) (n : Nat) : Bool :=
  Region.noSelect l.toArray && decide (n ≤ l.length) && allIx (fun i oi =>
    Nat.ble n i || (allIx (fun k ok => Nat.ble n k || ((!(ms.getD i 0).testBit k || decide (k < i)) &&
      (match ok.dst with
        | none => true
        | some d => (!(oi.looksAt l.toArray).contains d || (ms.getD i 0).testBit k) && (i == k || oi.dst != some d)))) 0 l)) 0 l &&
  acts.all fun j => acts.all fun i => !decide (i < j) || (ms.getD j 0).testBit i
theorem chainOk_mask {ms : List Nat} {l : List Oper} {acts : List Nat} {n : Nat} (hm : maskB ms l = true) (hh : headM ms l acts n = true) : chainOkB l.toArray (fun i => acts.contains i) n = true := by
  simp only [headM, Bool.and_eq_true, decide_eq_true_eq] at hh
  obtain ⟨⟨⟨h1, h2⟩, h3⟩, h4⟩ := hh
  simp only [chainOkB, headB, Bool.and_eq_true, List.all_eq_true, List.mem_range, decide_eq_true_eq, List.size_toArray]
  refine ⟨⟨⟨h1, h2⟩, fun i hi => ?_⟩, fun j hj i hi => ?_⟩
  · have hil : i < l.length := by omega
    have a := allIx_get hm (List.getElem?_eq_getElem hil)
    have b := allIx_get h3 (List.getElem?_eq_getElem hil)
    simp only [Nat.zero_add, Bool.and_eq_true] at a b
    have hb : Nat.ble n i = false := by rw [Bool.eq_false_iff]; intro h; have := Nat.le_of_ble_eq_true h; omega
    rw [hb, Bool.false_or] at b
    simp only [List.getElem?_toArray, List.getElem?_eq_getElem hil, Bool.and_eq_true, Bool.true_and, ← Array.all_toList, List.all_eq_true, List.mem_range]
    refine ⟨fun e he => List.all_eq_true.1 a.1 e he, fun k hk => ?_⟩
    have hkl : k < l.length := by omega
    have c := allIx_get b (List.getElem?_eq_getElem hkl)
    have hb : Nat.ble n k = false := by rw [Bool.eq_false_iff]; intro h; have := Nat.le_of_ble_eq_true h; omega
    simp only [Nat.zero_add, hb, Bool.false_or] at c
    simp only [List.getElem?_eq_getElem hkl, waits_mask hm i k hil]
    revert c
    generalize l[k].dst = x
    cases x <;> exact fun c => by simpa using c
  · have hjl : j < l.length := by omega
    rw [waits_mask hm j i hjl]
    cases hi2 : acts.contains i with
    | false => simp
    | true =>
      cases hj2 : acts.contains j with
      | false => simp
      | true =>
        have := List.all_eq_true.1 (List.all_eq_true.1 h4 j (by simpa using hj2)) i (by simpa using hi2)
        simpa [hi] using this
def chainM (ms : List Nat) (l : List Oper) (acts : List Nat) (n : Nat) : Bool :=
  maskB ms l && headM ms l acts n && Region.seqB .any l.toArray (l.length - n) n (canon n (l.length - n)) && (decide (n = l.length) || (decide (n < l.length) && Region.sinkB .any l.toArray n && Region.chainB .any l.toArray n))
theorem chain_mask {l : List Oper} {acts : List Nat} {n : Nat} (ms : List Nat) (h : chainM ms l acts n = true) : chainB l.toArray acts n = true := by
  simp only [chainM, Bool.and_eq_true] at h
  obtain ⟨⟨⟨h1, h2⟩, h3⟩, h4⟩ := h
  simp only [chainB, Bool.and_eq_true, List.size_toArray]
  exact ⟨⟨chainOk_mask h1 h2, h3⟩, h4⟩
/-- What follows, behind a letter: the walk then never looks into it. -/
theorem SeqY.hide {P : Program} {ops : Array Oper} {S : World → Prop} {acts : List Nat} {Fin : Act → World → Prop} {k : Nat} {l : List Oper} {a : Act} {w : World} (h : ∀ F : Act → World → Prop, Fin = F → SeqY P ops S acts F k l a w) : SeqY P ops S acts Fin k l a w := h Fin rfl

/-! ### The walk behind a door that no reduction opens -/
section
variable {P : Program} {ops : Array Oper} {S : World → Prop} {acts : List Nat} {Fin : Act → World → Prop} {k : Nat} {o : Oper} {rest : List Oper} {a : Act} {w : World}
structure SeqW (P : Program) (ops : Array Oper) (S : World → Prop) (acts : List Nat) (Fin : Act → World → Prop) (k : Nat) (l : List Oper) (a : Act) (w : World) : Prop where
  out : SeqY P ops S acts Fin k l a w
theorem SeqW.nil (h : Fin a w) : SeqW P ops S acts Fin k [] a w := ⟨SeqY.nil h⟩
theorem SeqW.val {v : Value} (hK : acts.contains k = false) (hw : Region.wanted o (yielded ops a.tmps) = true) (h : ∀ w, S w → (execOp a.eval o).run P w = .ok (.value v) w)
    (hn : SeqW P ops S acts Fin (k + 1) rest (a.put o.dst v) w) : SeqW P ops S acts Fin k (o :: rest) a w := ⟨SeqY.val hK hw h hn.out⟩
theorem SeqW.skip (hw : Region.wanted o (yielded ops a.tmps) = false) (hn : SeqW P ops S acts Fin (k + 1) rest (a.put o.dst undef) w) : SeqW P ops S acts Fin k (o :: rest) a w := ⟨SeqY.skip hw hn.out⟩
theorem SeqW.act {d : Tmp} (hK : acts.contains k = true) (hd : o.dst = some d) (hs : decide (d < a.tmps.size) = true) (hw : Region.wanted o (yielded ops a.tmps) = true)
    (h : ∀ K' : Act → World → Prop, Hid (∀ u w', S w' → SeqW P ops S acts Fin (k + 1) rest (a.put o.dst u) w' → K' (a.put o.dst u) w') → o.wp P a w K' (fun _ _ _ => False)) : SeqW P ops S acts Fin k (o :: rest) a w :=
  ⟨SeqY.act hK hd hs hw fun K' hK' => h K' (fun u w' h1 h2 => hK'.out u w' h1 h2.out)⟩
theorem SeqW.act0 (hK : acts.contains k = true) (hd : o.dst = none) (hw : Region.wanted o (yielded ops a.tmps) = true)
    (h : ∀ K' : Act → World → Prop, Hid (∀ w', S w' → SeqW P ops S acts Fin (k + 1) rest a w' → K' a w') → o.wp P a w K' (fun _ _ _ => False)) : SeqW P ops S acts Fin k (o :: rest) a w :=
  ⟨SeqY.act0 hK hd hw fun K' hK' => h K' (fun w' h1 h2 => hK'.out w' h1 h2.out)⟩
end
end Go.Proofs.Ytaopjdjbpamhhaa
/- Proved: contract of the law SwapEqual's own code. Conditions: pairs in memory. -/
namespace Go.Proofs.Ytaopjdjbpamhhaa
open Go Go.RowKit
set_option linter.unusedVariables false
set_option linter.unusedSimpArgs false

theorem sameP_self (l : List (Bts × Bts)) : sameP l l = true := sameP_upto rfl fun _ _ _ => ⟨cmpB_self _, cmpB_self _⟩
theorem mirT_self (seed : Int) {t : Tr} (ht : t.good seed) : mirT seed t t = t := mirT_eq ht ht fun m _ => by simp [metB, sameP_self]
theorem not_met {seed : Int} {t u : Tr} (ht : t.good seed) (hu : u.good seed) (h : (talk seed u t [] [] false).any (metB t.pairs u.pairs) = false) : mirT seed u t = t :=
  mirT_eq hu ht fun m hm => by
    rw [List.any_eq_false] at h
    simpa using h m hm

set_option maxRecDepth 100000 in
set_option maxHeartbeats 8000000 in
theorem swapEqual_walk {seed : Int} {D1 D2 : Nat → Prop} {w : World} {v1 v2 : Value} {l1 l2 : List (Bts × Bts)} (h1 : SV pairEl D1 w v1 l1) (h2 : SV pairEl D2 w v2 l2) :
    Calls Try.prog 14 #[.int .u64 seed, v1, v2] w fun e w' => e = .returned (.bool true) ∧ Kept Noneof w w' := by
  (
  have H1 := Lib.hid h1
  have H2 := Lib.hid h2
  obtain ⟨a1, c1, rfl, _⟩ := h1
  obtain ⟨a2, c2, rfl, _⟩ := h2
  go_enter Try.func14, Try.ntmps14
  go_wp2_with fail
  refine (l7few_calls H1.out).mono ?_
  rintro e w1 ⟨rfl, k1⟩
  have K1 := Lib.hid k1
  clear k1
  cases hf1 : fewK l1
  · go_wp2
    go_ret
    exact ⟨rfl, K1.out⟩
  have F1 := Lib.hid hf1
  clear hf1
  go_wp2_with fail
  refine (l7few_calls (H2.out.kept pairEl_k K1.out fun _ _ _ h => h)).mono ?_
  rintro e w2 ⟨rfl, k2⟩
  have K2 := Lib.hid (K1.out.tr k2)
  clear k2
  cases hf2 : fewK l2
  · go_wp2
    go_ret
    exact ⟨rfl, K2.out⟩
  have F2 := Lib.hid hf2
  clear hf2
  go_wp2_with fail
  refine (l7filled_calls (seed := seed) (H1.out.kept pairEl_k K2.out fun _ _ _ h => h) F1.out).mono ?_
  rintro e w3 ⟨m1, G1, rfl, hm1, hg1, _, k3⟩
  have K3 := Lib.hid (K2.out.tr k3)
  have M1 := Lib.hid (hm1.wide (F' := fun b => w.heap.size ≤ b ∧ b < w3.heap.size) fun b h hl => ⟨Nat.le_trans K2.out.size (hg1 b h), hl⟩)
  clear hm1 hg1 k3
  go_wp2_with fail
  refine (l7filled_calls (seed := seed) (H2.out.kept pairEl_k K3.out fun _ _ _ h => h) F2.out).mono ?_
  rintro e w4 ⟨m2, G2, rfl, hm2, hg2, hlo, k4⟩
  have K4 := Lib.hid (K3.out.tr k4)
  have M1b := Lib.hid (M1.out.kept k4 fun _ _ h => h)
  have NE := Lib.hid (show m1 ≠ m2 by have := M1.out.lt; omega)
  have M2 := Lib.hid (hm2.wide (F' := fun b => w3.heap.size ≤ b ∧ b < w4.heap.size) fun b h hl => ⟨hg2 b h, hl⟩)
  have W3 := Lib.hid (show w.heap.size ≤ w3.heap.size from K3.out.size)
  clear hm2 hg2 k4 hlo M1
  have z1 := Lib.hid (Nat.le_trans (fillT_size seed l1) (fewK_iff F1.out).1)
  have z2 := Lib.hid (Nat.le_trans (fillT_size seed l2) (fewK_iff F2.out).1)
  have E1 := Lib.hid (fillT_pairs seed l1)
  have E2 := Lib.hid (fillT_pairs seed l2)
  have T1 := Lib.hid (fillT_good seed l1)
  have T2 := Lib.hid (fillT_good seed l2)
  have O1 := Lib.hid (fillT_okP (seed := seed) (fewK_iff F1.out).2)
  have O2 := Lib.hid (fillT_okP (seed := seed) (fewK_iff F2.out).2))
  have MS := Lib.hid (mirT_size seed T2.out T1.out)
  have XG := Lib.hid (mirT_good (t := fillT seed l1) T2.out)
  go_wp2_with fail
  refine (swMirror_calls (t := fillT seed l1) (u := fillT seed l2) M1b.out M2.out NE.out (Tr.good_srt T2.out) O1.out (by have := z1.out; omega) (by have := z2.out; omega) (by have := z1.out; have := z2.out; omega) fun b h => h.2).mono ?_
  rintro e w5 ⟨v5, G3, rfl, s5, m5, hg3, k5⟩
  have K5 := Lib.hid (K4.out.trans k5 fun b h => .inr (by have := W3.out; omega))
  have M1c := Lib.hid (M1b.out.kept k5 fun b h hh => by omega)
  have m5 : MapAt seed w5 m2 (mirT seed (fillT seed l2) (fillT seed l1)) G3 := m5
  have W4 := Lib.hid k5.size
  have W34 := Lib.hid (show w3.heap.size ≤ w4.heap.size by have := M2.out.lt; obtain ⟨p, S, D, hm⟩ := M2.out; have := hm.fm; omega)
  have M2c := Lib.hid (m5.wide (F' := fun b => w3.heap.size ≤ b ∧ b < w5.heap.size) fun b h hl => ⟨(hg3 b h).elim (fun h => h.1) fun h => by have := W34.out; omega, hl⟩)
  have S5 := Lib.hid (s5.any msgEl_k)
  have TP := Lib.hid (talk_pos (seed := seed) (u := fillT seed l2) (fillT seed l1) [] [] false)
  obtain ⟨x1, q1, hv5, _⟩ := id s5
  subst hv5
  clear s5 m5 hg3 k5 M1b M2
  go_wp2_with fail
  refine (swMirror_calls (t := fillT seed l1) (u := mirT seed (fillT seed l2) (fillT seed l1)) M1c.out M2c.out NE.out (Tr.good_srt XG.out) O1.out (by have := z1.out; omega) (by have := MS.out; have := z1.out; have := z2.out; omega) (by have := MS.out; have := z1.out; have := z2.out; omega) fun b h => h.2).mono ?_
  rintro e w6 ⟨v6, G4, rfl, s6, m6, hg4, k6⟩
  have K6 := Lib.hid (K5.out.trans k6 fun b h => .inr (by have := W3.out; omega))
  have M1d := Lib.hid (M1c.out.kept k6 fun b h hh => by omega)
  have M2d := Lib.hid (show MapAt seed w6 m2 (mirT seed (mirT seed (fillT seed l2) (fillT seed l1)) (fillT seed l1)) G4 from m6)
  have S6 := Lib.hid (s6.any msgEl_k)
  have TP2 := Lib.hid (talk_pos (seed := seed) (u := mirT seed (fillT seed l2) (fillT seed l1)) (fillT seed l1) [] [] false)
  obtain ⟨x2, q2, hv6, _⟩ := id s6
  subst hv6
  clear s6 m6 hg4 k6 M1c M2c
  have p1 : (((talk seed (fillT seed l2) (fillT seed l1) [] [] false).length : Int) == 0) = false := by rw [beq_eq_false_iff_ne]; have := TP.out; omega
  have p2 : (((talk seed (mirT seed (fillT seed l2) (fillT seed l1)) (fillT seed l1) [] [] false).length : Int) == 0) = false := by rw [beq_eq_false_iff_ne]; have := TP2.out; omega
  go_wp2_with fail
  clear p1 p2
  refine (l7sorted_calls (H1.out.still pairEl_k K6.out) (fewK_iff F1.out).1).mono ?_
  rintro e w7 ⟨v7, rfl, s7, k7⟩
  rw [← E1.out] at s7
  have S7 := Lib.hid s7
  have K7 := Lib.hid (K6.out.tr k7)
  have KK7 := Lib.hid k7
  obtain ⟨y1, y2, y3, rfl⟩ := s7.slice'
  clear s7 k7
  go_wp2_with fail
  refine (l7sorted_calls (H2.out.still pairEl_k K7.out) (fewK_iff F2.out).1).mono ?_
  rintro e w8 ⟨v8, rfl, s8, k8⟩
  rw [← E2.out] at s8
  have S8 := Lib.hid s8
  have K8 := Lib.hid (K7.out.tr k8)
  have KK8 := Lib.hid (KK7.out.tr k8)
  have S7b := Lib.hid (S7.out.still pairEl_k k8)
  obtain ⟨y4, y5, y6, rfl⟩ := s8.slice'
  clear s8 k8 S7 KK7
  go_wp2_with fail
  refine (l7sorted_calls (H1.out.still pairEl_k K8.out) (fewK_iff F1.out).1).mono ?_
  rintro e w9 ⟨v9, rfl, s9, k9⟩
  rw [← E1.out] at s9
  have S9 := Lib.hid s9
  have K9 := Lib.hid (K8.out.tr k9)
  have KK9 := Lib.hid (KK8.out.tr k9)
  have S7c := Lib.hid (S7b.out.still pairEl_k k9)
  have S8b := Lib.hid (S8.out.still pairEl_k k9)
  obtain ⟨y7, y8, y9, rfl⟩ := s9.slice'
  clear s9 k9 S7b S8 KK8
  go_wp2_with fail
  refine (l7sorted_calls (H2.out.still pairEl_k K9.out) (fewK_iff F2.out).1).mono ?_
  rintro e wa ⟨va, rfl, sa, ka⟩
  rw [← E2.out] at sa
  have SA := Lib.hid sa
  have KA := Lib.hid (K9.out.tr ka)
  have KKA := Lib.hid (KK9.out.tr ka)
  have S7d := Lib.hid (S7c.out.still pairEl_k ka)
  have S8c := Lib.hid (S8b.out.still pairEl_k ka)
  have S9b := Lib.hid (S9.out.still pairEl_k ka)
  obtain ⟨x3, x4, x5, rfl⟩ := sa.slice'
  clear sa ka S7c S8b S9 KK9
  go_wp2_with fail
  refine (r7Mirror_calls T1.out O1.out T2.out O2.out (by have := z1.out; have := z2.out; omega) S9b.out SA.out).mono ?_
  rintro e wb ⟨vm, vt, rfl, sm, st, kb⟩
  have SM := Lib.hid sm
  have KB := Lib.hid (KA.out.tr kb)
  have KKB := Lib.hid (KKA.out.tr kb)
  have S7e := Lib.hid (S7d.out.still pairEl_k kb)
  have S8d := Lib.hid (S8c.out.still pairEl_k kb)
  obtain ⟨x6, x7, x8, rfl⟩ := sm.slice'
  obtain ⟨u1, u2, u3, rfl⟩ := st.slice'
  clear sm st kb S7d S8c SA S9b KKA
  have hfd : ∀ w : World, (Instr.field 90 (.agg #[.slice x6 x7 x8, .slice u1 u2 u3]) 0).run Try.prog w = .ok (.slice x6 x7 x8) w := fun _ => by kernel_rfl
  go_wp2_with fail
  clear hfd
  refine (l7met_calls (Tr.good_srt T1.out) (Tr.good_srt T2.out) S7e.out S8d.out SM.out).mono ?_
  rintro e wc ⟨rfl, kc⟩
  have KC := Lib.hid (KB.out.tr kc)
  have KKC := Lib.hid (KKB.out.tr kc)
  clear kc S7e S8d SM KKB
  cases hm : (talk seed (fillT seed l2) (fillT seed l1) [] [] false).any (metB (fillT seed l1).pairs (fillT seed l2).pairs)
  · have NM := Lib.hid (not_met T1.out T2.out hm)
    have M1e := Lib.hid (M1d.out.kept KKC.out fun _ _ h => h)
    have M2e := Lib.hid (show MapAt seed wc m2 (fillT seed l1) G4 by
      have := M2d.out.kept KKC.out fun _ _ h => h
      rwa [NM.out, mirT_self seed T1.out] at this)
    have S6b := S6.out.still msgEl_k KKC.out
    rw [NM.out] at S6b ⊢
    obtain ⟨m, hm1, hm2, hm3⟩ := talk_self T1.out
    rw [hm1] at S6b ⊢
    obtain ⟨x2', q2', e6, _, _, rd⟩ := S6b
    simp only [Value.slice.injEq, true_and] at e6
    obtain ⟨rfl, rfl⟩ := e6
    obtain ⟨b1, o1, vl, vh, vp, rfl, _, _, _, _, r3, _, r5, _⟩ := Rd.msg rd (i := 0) (by simp)
    simp only [List.getElem_cons_zero, hm2, hm3, Nat.zero_mul, Nat.add_zero] at r3 r5
    have R3 := Lib.hid r3
    have R5 := Lib.hid r5
    clear hm hm1 hm2 hm3 rd r3 r5
    clear S6
    go_wp2_with fail
    refine wp_region_chain 48 [1, 3, 4, 8, 10, 15, 17, 22, 24, 45] (fun w' => w'.cell? ⟨b1, o1 + 3, none⟩ = some (.int .i64 (fillT seed l1).size) ∧ w'.cell? ⟨b1, o1 + 5, none⟩ = some (.bool true)) (by kernel_rfl) (chain_mask [0, 1, 0, 7, 15, 31, 63, 127, 255, 127, 1023, 2047, 4095, 8191, 16383, 32767, 16383, 131071, 262143, 524287, 1048575, 2097151, 4194303, 2097151, 16777215, 33554431, 67108863, 134217727, 268435455, 536870911, 1073741823, 2147483647, 4294967295, 8589934591, 17179869183, 34359738367, 68719476735, 137438953471, 274877906943, 549755813887, 1099511627775, 2199023255551, 4398046511103, 8796093022207, 1099511627775, 18691697672191, 70368744177663, 140737488355327, 281474976710655] (by kernel_rfl)) ?_ ?_
    · exact ⟨R3.out, R5.out⟩
    simp only [List.take_succ_cons, List.take_zero, List.drop_succ_cons, List.drop_zero]
    have r3 : wc.drew.cell? ⟨b1, o1 + 3, none⟩ = some (.int .i64 (fillT seed l1).size) := R3.out
    have r5 : wc.drew.cell? ⟨b1, o1 + 5, none⟩ = some (.bool true) := R5.out
    have kc : Kept Noneof wc wc.drew := (Kept.refl Noneof wc).drew
    have M1f := Lib.hid (M1e.out.kept kc fun _ _ h => h)
    have M2f := Lib.hid (M2e.out.kept kc fun _ _ h => h)
    have KC := Lib.hid (KC.out.tr kc)
    generalize wc.drew = wc' at *
    clear kc R3 R5 M1e M2e
    have sz := Lib.hid (show (fillT seed l1).size ≤ 100000 by have := z1.out; omega)
    (refine SeqY.val (v := ?_) (by rfl) (by rfl) (fun wx hSw => ?_) ?_; rotate_left; (focus ((try dsimp only at hSw); go_simp; (try with_reducible rfl))); (try simp only [Act.put, List.setIfInBounds_toArray, List.set_cons_zero, List.set_cons_succ]))
    refine SeqY.act (by rfl) rfl (by rfl) (by rfl) (fun K hK => ?_)
    go_simp
    refine (orImage_calls M1f.out sz.out).mono ?_
    rintro e wd ⟨vd, rfl, od, kd⟩
    refine hK.out _ _ ⟨kd.cell (fun h => h) r3, kd.cell (fun h => h) r5⟩ ?_
    have r3 := kd.cell (fun h => h) r3
    have r5 := kd.cell (fun h => h) r5
    have M1g := Lib.hid (M1f.out.kept kd fun _ _ h => h)
    have M2g := Lib.hid (M2f.out.kept kd fun _ _ h => h)
    have KD := Lib.hid (KC.out.tr kd)
    have OD := Lib.hid od.sv
    obtain ⟨d1, d2, d3, rfl⟩ := od.slice'
    clear od kd M1f M2f
    clear K hK
    (try simp only [Act.put, List.setIfInBounds_toArray, List.set_cons_zero, List.set_cons_succ])
    (refine SeqY.val (v := ?_) (by rfl) (by rfl) (fun wx hSw => ?_) ?_; rotate_left; (focus ((try dsimp only at hSw); go_simp; (try with_reducible rfl))); (try simp only [Act.put, List.setIfInBounds_toArray, List.set_cons_zero, List.set_cons_succ]))
    refine SeqY.act (by rfl) rfl (by rfl) (by rfl) (fun K hK => ?_)
    go_simp
    refine (orImage_calls M2g.out sz.out).mono ?_
    rintro e we ⟨ve, rfl, oe, ke⟩
    refine hK.out _ _ ⟨ke.cell (fun h => h) r3, ke.cell (fun h => h) r5⟩ ?_
    have r3 := ke.cell (fun h => h) r3
    have r5 := ke.cell (fun h => h) r5
    have M1h := Lib.hid (M1g.out.kept ke fun _ _ h => h)
    have M2h := Lib.hid (M2g.out.kept ke fun _ _ h => h)
    have KE := Lib.hid (KD.out.tr ke)
    have OD2 := Lib.hid (OD.out.still byteEl_k ke)
    have OE := Lib.hid oe.sv
    obtain ⟨e1, e2, e3, rfl⟩ := oe.slice'
    clear oe ke M1g M2g OD
    clear K hK
    (try simp only [Act.put, List.setIfInBounds_toArray, List.set_cons_zero, List.set_cons_succ])
    refine SeqY.act (by rfl) rfl (by rfl) (by rfl) (fun K hK => ?_)
    go_simp
    refine (r2Compare_calls OD2.out OE.out).mono ?_
    rintro e wf ⟨rfl, df⟩
    rw [cmpB_self]
    have kf : Kept Noneof we wf := (Kept.refl Noneof we).drewn df
    refine hK.out _ _ ⟨kf.cell (fun h => h) r3, kf.cell (fun h => h) r5⟩ ?_
    have r3 := kf.cell (fun h => h) r3
    have r5 := kf.cell (fun h => h) r5
    have M1i := Lib.hid (M1h.out.kept kf fun _ _ h => h)
    have M2i := Lib.hid (M2h.out.kept kf fun _ _ h => h)
    have KF := Lib.hid (KE.out.tr kf)
    clear kf df M1h M2h OD2 OE
    clear K hK
    (try simp only [Act.put, List.setIfInBounds_toArray, List.set_cons_zero, List.set_cons_succ])
    iterate 3 (refine SeqY.val (v := ?_) (by rfl) (by rfl) (fun wx hSw => ?_) ?_; rotate_left; (focus ((try dsimp only at hSw); go_simp; (try with_reducible rfl))); (try simp only [Act.put, List.setIfInBounds_toArray, List.set_cons_zero, List.set_cons_succ]))
    refine SeqY.act (by rfl) rfl (by rfl) (by rfl) (fun K hK => ?_)
    go_simp
    refine (orDigest_calls M1i.out).mono ?_
    rintro e wx ⟨rfl, rfl⟩
    refine hK.out _ _ ⟨r3, r5⟩ ?_
    clear K hK
    (try simp only [Act.put, List.setIfInBounds_toArray, List.set_cons_zero, List.set_cons_succ])
    (refine SeqY.val (v := ?_) (by rfl) (by rfl) (fun wx hSw => ?_) ?_; rotate_left; (focus ((try dsimp only at hSw); go_simp; (try with_reducible rfl))); (try simp only [Act.put, List.setIfInBounds_toArray, List.set_cons_zero, List.set_cons_succ]))
    refine SeqY.act (by rfl) rfl (by rfl) (by rfl) (fun K hK => ?_)
    go_simp
    refine (orDigest_calls M2i.out).mono ?_
    rintro e wx ⟨rfl, rfl⟩
    refine hK.out _ _ ⟨r3, r5⟩ ?_
    clear K hK
    (try simp only [Act.put, List.setIfInBounds_toArray, List.set_cons_zero, List.set_cons_succ])
    iterate 4 (refine SeqY.val (v := ?_) (by rfl) (by rfl) (fun wx hSw => ?_) ?_; rotate_left; (focus ((try dsimp only at hSw); go_simp; (try with_reducible rfl))); (try simp only [Act.put, List.setIfInBounds_toArray, List.set_cons_zero, List.set_cons_succ]))
    refine SeqY.act (by rfl) rfl (by rfl) (by rfl) (fun K hK => ?_)
    go_simp
    refine (orLen_calls M1i.out).mono ?_
    rintro e wx ⟨rfl, rfl⟩
    refine hK.out _ _ ⟨r3, r5⟩ ?_
    clear K hK
    (try simp only [Act.put, List.setIfInBounds_toArray, List.set_cons_zero, List.set_cons_succ])
    (refine SeqY.val (v := ?_) (by rfl) (by rfl) (fun wx hSw => ?_) ?_; rotate_left; (focus ((try dsimp only at hSw); go_simp; (try with_reducible rfl))); (try simp only [Act.put, List.setIfInBounds_toArray, List.set_cons_zero, List.set_cons_succ]))
    refine SeqY.act (by rfl) rfl (by rfl) (by rfl) (fun K hK => ?_)
    go_simp
    refine (orLen_calls M2i.out).mono ?_
    rintro e wx ⟨rfl, rfl⟩
    refine hK.out _ _ ⟨r3, r5⟩ ?_
    clear K hK
    (try simp only [Act.put, List.setIfInBounds_toArray, List.set_cons_zero, List.set_cons_succ])
    iterate 4 (refine SeqY.val (v := ?_) (by rfl) (by rfl) (fun wx hSw => ?_) ?_; rotate_left; (focus ((try dsimp only at hSw); go_simp; (try with_reducible rfl))); (try simp only [Act.put, List.setIfInBounds_toArray, List.set_cons_zero, List.set_cons_succ]))
    refine SeqY.act (by rfl) rfl (by rfl) (by rfl) (fun K hK => ?_)
    go_simp
    refine (orLen_calls M1i.out).mono ?_
    rintro e wx ⟨rfl, rfl⟩
    refine hK.out _ _ ⟨r3, r5⟩ ?_
    clear K hK
    (try simp only [Act.put, List.setIfInBounds_toArray, List.set_cons_zero, List.set_cons_succ])
    (refine SeqY.val (v := ?_) (by rfl) (by rfl) (fun wx hSw => ?_) ?_; rotate_left; (focus ((try dsimp only at hSw); go_simp; (try with_reducible rfl))); (try simp only [Act.put, List.setIfInBounds_toArray, List.set_cons_zero, List.set_cons_succ]))
    refine SeqY.act (by rfl) rfl (by rfl) (by rfl) (fun K hK => ?_)
    go_simp
    refine (l7sorted_calls (H1.out.still pairEl_k KF.out) (fewK_iff F1.out).1).mono ?_
    rintro e wg ⟨vg, rfl, sg, kg⟩
    rw [← E1.out] at sg
    refine hK.out _ _ ⟨kg.cell (fun h => h) r3, kg.cell (fun h => h) r5⟩ ?_
    have r3 := kg.cell (fun h => h) r3
    have r5 := kg.cell (fun h => h) r5
    have M1j := Lib.hid (M1i.out.kept kg fun _ _ h => h)
    have KG := Lib.hid (KF.out.tr kg)
    obtain ⟨g1, g2, rfl, _⟩ := sg
    rw [Tr.pairs_len]
    clear kg M1i M2i
    clear K hK
    (try simp only [Act.put, List.setIfInBounds_toArray, List.set_cons_zero, List.set_cons_succ])
    iterate 20 (refine SeqY.val (v := ?_) (by rfl) (by rfl) (fun wx hSw => ?_) ?_; rotate_left; (focus ((try dsimp only at hSw); go_simp; (try with_reducible rfl))); (try simp only [Act.put, List.setIfInBounds_toArray, List.set_cons_zero, List.set_cons_succ]))
    refine SeqY.act (by rfl) rfl (by rfl) (by rfl) (fun K hK => ?_)
    go_simp
    refine (orLen_calls M1j.out).mono ?_
    rintro e wx ⟨rfl, rfl⟩
    refine hK.out _ _ ⟨r3, r5⟩ ?_
    clear K hK
    (try simp only [Act.put, List.setIfInBounds_toArray, List.set_cons_zero, List.set_cons_succ])
    (refine SeqY.val (v := ?_) (by rfl) (by rfl) (fun wx hSw => ?_) ?_; rotate_left; (focus ((try dsimp only at hSw); go_simp; (try with_reducible rfl))); (try simp only [Act.put, List.setIfInBounds_toArray, List.set_cons_zero, List.set_cons_succ]))
    (refine SeqY.val (v := ?_) (by rfl) (by rfl) (fun wx hSw => ?_) ?_; rotate_left; (focus ((try dsimp only at hSw); go_simp; (try with_reducible rfl))); (try simp only [Act.put, List.setIfInBounds_toArray, List.set_cons_zero, List.set_cons_succ]))
    refine SeqY.nil ?_
    go_wp2
    go_ret
    exact ⟨rfl, KG.out⟩
  · clear hm
    go_wp2
    go_ret
    exact ⟨rfl, KC.out⟩
end Go.Proofs.Ytaopjdjbpamhhaa
/- Proved: contract of the law SwapChain's own code. Conditions: pairs in memory. -/
namespace Go.Proofs.Ytaopjdjbpamhhaa
open Go Go.RowKit
set_option linter.unusedVariables false
set_option linter.unusedSimpArgs false

set_option maxRecDepth 100000 in
set_option maxHeartbeats 8000000 in
theorem swapChain_walk {seed : Int} {D1 D2 D3 : Nat → Prop} {w : World} {v1 v2 v3 : Value} {l1 l2 l3 : List (Bts × Bts)} (h1 : SV pairEl D1 w v1 l1) (h2 : SV pairEl D2 w v2 l2) (h3 : SV pairEl D3 w v3 l3) :
    Calls Try.prog 13 #[.int .u64 seed, v1, v2, v3] w fun e w' => e = .returned (.bool true) ∧ Kept Noneof w w' := by
  (
  have H1 := Lib.hid h1
  have H2 := Lib.hid h2
  have H3 := Lib.hid h3
  obtain ⟨a1, c1, rfl, _⟩ := h1
  obtain ⟨a2, c2, rfl, _⟩ := h2
  obtain ⟨a3, c3, rfl, _⟩ := h3
  go_enter Try.func13, Try.ntmps13
  go_wp2_with fail
  refine (l7few_calls H1.out).mono ?_
  rintro e w1 ⟨rfl, k1⟩
  have K1 := Lib.hid k1
  clear k1
  cases hf1 : fewK l1
  · go_wp2
    go_ret
    exact ⟨rfl, K1.out⟩
  have F1 := Lib.hid hf1
  clear hf1
  go_wp2_with fail
  refine (l7few_calls (H2.out.kept pairEl_k K1.out fun _ _ _ h => h)).mono ?_
  rintro e w2 ⟨rfl, k2⟩
  have K2 := Lib.hid (K1.out.tr k2)
  clear k2
  cases hf2 : fewK l2
  · go_wp2
    go_ret
    exact ⟨rfl, K2.out⟩
  have F2 := Lib.hid hf2
  clear hf2
  go_wp2_with fail
  refine (l7few_calls (H3.out.kept pairEl_k K2.out fun _ _ _ h => h)).mono ?_
  rintro e w3 ⟨rfl, k3⟩
  have K3 := Lib.hid (K2.out.tr k3)
  clear k3
  cases hf3 : fewK l3
  · go_wp2
    go_ret
    exact ⟨rfl, K3.out⟩
  have F3 := Lib.hid hf3
  clear hf3
  have B3 := Lib.hid (show w.heap.size ≤ w3.heap.size from K3.out.size)
  go_wp2_with fail
  refine (l7filled_calls (seed := seed) (H1.out.kept pairEl_k K3.out fun _ _ _ h => h) F1.out).mono ?_
  rintro e w4 ⟨m1, G1, rfl, hm, hg, hlo, k⟩
  have K4 := Lib.hid (K3.out.tr k)
  have B4 := Lib.hid (show w3.heap.size ≤ w4.heap.size from k.size)
  have M1 := Lib.hid (hm.wide (F' := fun b => w3.heap.size ≤ b ∧ b < w4.heap.size) fun b h hl => ⟨hg b h, hl⟩)
  clear hm hg hlo k
  go_wp2_with fail
  refine (l7filled_calls (seed := seed) (H2.out.kept pairEl_k K4.out fun _ _ _ h => h) F2.out).mono ?_
  rintro e w5 ⟨m2, G2, rfl, hm, hg, hlo, k⟩
  have K5 := Lib.hid (K4.out.tr k)
  have B5 := Lib.hid (show w4.heap.size ≤ w5.heap.size from k.size)
  have M2 := Lib.hid (hm.wide (F' := fun b => w4.heap.size ≤ b ∧ b < w5.heap.size) fun b h hl => ⟨hg b h, hl⟩)
  have N12 := Lib.hid (show m1 ≠ m2 by have := M1.out.lt; omega)
  replace M1 := Lib.hid (M1.out.kept k fun _ _ h => h)
  clear hm hg hlo k
  go_wp2_with fail
  refine (l7filled_calls (seed := seed) (H3.out.kept pairEl_k K5.out fun _ _ _ h => h) F3.out).mono ?_
  rintro e w6 ⟨m3, G3, rfl, hm, hg, hlo, k⟩
  have K6 := Lib.hid (K5.out.tr k)
  have B6 := Lib.hid (show w5.heap.size ≤ w6.heap.size from k.size)
  have M3 := Lib.hid (hm.wide (F' := fun b => w5.heap.size ≤ b ∧ b < w6.heap.size) fun b h hl => ⟨hg b h, hl⟩)
  have N13 := Lib.hid (show m1 ≠ m3 by have := M1.out.lt; omega)
  replace M1 := Lib.hid (M1.out.kept k fun _ _ h => h)
  have N23 := Lib.hid (show m2 ≠ m3 by have := M2.out.lt; omega)
  replace M2 := Lib.hid (M2.out.kept k fun _ _ h => h)
  clear hm hg hlo k
  go_wp2_with fail
  refine (l7filled_calls (seed := seed) (H3.out.kept pairEl_k K6.out fun _ _ _ h => h) F3.out).mono ?_
  rintro e w7 ⟨m4, G4, rfl, hm, hg, hlo, k⟩
  have K7 := Lib.hid (K6.out.tr k)
  have B7 := Lib.hid (show w6.heap.size ≤ w7.heap.size from k.size)
  have M4 := Lib.hid (hm.wide (F' := fun b => w6.heap.size ≤ b ∧ b < w7.heap.size) fun b h hl => ⟨hg b h, hl⟩)
  have N14 := Lib.hid (show m1 ≠ m4 by have := M1.out.lt; omega)
  replace M1 := Lib.hid (M1.out.kept k fun _ _ h => h)
  have N24 := Lib.hid (show m2 ≠ m4 by have := M2.out.lt; omega)
  replace M2 := Lib.hid (M2.out.kept k fun _ _ h => h)
  have N34 := Lib.hid (show m3 ≠ m4 by have := M3.out.lt; omega)
  replace M3 := Lib.hid (M3.out.kept k fun _ _ h => h)
  clear hm hg hlo k
  have z1 := Lib.hid (Nat.le_trans (fillT_size seed l1) (fewK_iff F1.out).1)
  have E1 := Lib.hid (fillT_pairs seed l1)
  have T1 := Lib.hid (fillT_good seed l1)
  have O1 := Lib.hid (fillT_okP (seed := seed) (fewK_iff F1.out).2)
  have z2 := Lib.hid (Nat.le_trans (fillT_size seed l2) (fewK_iff F2.out).1)
  have E2 := Lib.hid (fillT_pairs seed l2)
  have T2 := Lib.hid (fillT_good seed l2)
  have O2 := Lib.hid (fillT_okP (seed := seed) (fewK_iff F2.out).2)
  have z3 := Lib.hid (Nat.le_trans (fillT_size seed l3) (fewK_iff F3.out).1)
  have E3 := Lib.hid (fillT_pairs seed l3)
  have T3 := Lib.hid (fillT_good seed l3)
  have O3 := Lib.hid (fillT_okP (seed := seed) (fewK_iff F3.out).2))
  have MS := Lib.hid (mirT_size seed T2.out T1.out)
  have XG := Lib.hid (mirT_good (t := fillT seed l1) T2.out)
  have XO := Lib.hid (mirT_ok seed T2.out T1.out O2.out O1.out)
  go_wp2_with fail
  refine (swMirror_calls (t := fillT seed l1) (u := fillT seed l2) M1.out M2.out N12.out (Tr.good_srt T2.out) O1.out (by have := z1.out; have := z2.out; have := z3.out; omega) (by have := z1.out; have := z2.out; have := z3.out; omega) (by have := z1.out; have := z2.out; have := z3.out; omega) fun b h => by have := B6.out; have := B7.out; omega).mono ?_
  rintro e w8 ⟨v8, G, rfl, s8, m8, hg, k⟩
  have K8 := Lib.hid (K7.out.trans k fun b h => .inr (by have := B3.out; have := B4.out; omega))
  have B8 := Lib.hid (show w7.heap.size ≤ w8.heap.size from k.size)
  replace M1 := Lib.hid (M1.out.kept k fun b h hh => by omega)
  replace M3 := Lib.hid (M3.out.kept k fun b h hh => by omega)
  replace M4 := Lib.hid (M4.out.kept k fun b h hh => by have := B6.out; omega)
  replace M2 := Lib.hid (show MapAt seed w8 m2 (mirT seed (fillT seed l2) (fillT seed l1)) G from m8)
  obtain ⟨x1, q1, n1, rfl⟩ := s8.slice'
  clear s8 m8 hg k
  go_wp2_with fail
  refine (swMirror_calls (t := mirT seed (fillT seed l2) (fillT seed l1)) (u := fillT seed l3) M2.out M3.out N23.out (Tr.good_srt T3.out) XO.out (by have := z1.out; have := z2.out; have := z3.out; have := MS.out; omega) (by have := z1.out; have := z2.out; have := z3.out; have := MS.out; omega) (by have := z1.out; have := z2.out; have := z3.out; have := MS.out; omega) fun b h => by have := B7.out; have := B8.out; omega).mono ?_
  rintro e w9 ⟨v9, G', rfl, s9, m9, hg, k⟩
  have K9 := Lib.hid (K8.out.trans k fun b h => .inr (by have := B3.out; have := B4.out; have := B5.out; omega))
  have B9 := Lib.hid (show w8.heap.size ≤ w9.heap.size from k.size)
  replace M1 := Lib.hid (M1.out.kept k fun b h hh => by have := B5.out; omega)
  replace M4 := Lib.hid (M4.out.kept k fun b h hh => by omega)
  replace M3 := Lib.hid (MapAt.wide (t := mirT seed (fillT seed l3) (mirT seed (fillT seed l2) (fillT seed l1))) (F' := fun b => b < w6.heap.size ∨ w8.heap.size ≤ b) m9 fun b h _ => (hg b h).elim (fun h => .inl h.2) .inr)
  obtain ⟨x2, q2, n2, rfl⟩ := s9.slice'
  clear s9 m9 hg k M2
  go_wp2_with fail
  refine (swMirror_calls (t := fillT seed l1) (u := fillT seed l3) M1.out M4.out N14.out (Tr.good_srt T3.out) O1.out (by have := z1.out; have := z2.out; have := z3.out; omega) (by have := z1.out; have := z2.out; have := z3.out; omega) (by have := z1.out; have := z2.out; have := z3.out; omega) fun b h => by have := B8.out; have := B9.out; omega).mono ?_
  rintro e wa ⟨va, G'', rfl, sa, ma, hg, k⟩
  have KA := Lib.hid (K9.out.trans k fun b h => .inr (by have := B3.out; have := B4.out; have := B5.out; have := B6.out; omega))
  replace M1 := Lib.hid (M1.out.kept k fun b h hh => by have := B5.out; have := B6.out; omega)
  replace M3 := Lib.hid (M3.out.kept k fun b h hh => by have := B8.out; omega)
  replace M4 := Lib.hid (show MapAt seed wa m4 (mirT seed (fillT seed l3) (fillT seed l1)) G'' from ma)
  obtain ⟨x3, q3, n3, rfl⟩ := sa.slice'
  clear sa ma hg k
  go_wp2_with fail
  refine (orLen_calls M1.out).mono ?_
  rintro e wb ⟨rfl, rfl⟩
  go_wp2_with fail
  refine (l7sorted_calls (H1.out.still pairEl_k KA.out) (fewK_iff F1.out).1).mono ?_
  rintro e wc ⟨vc, rfl, sc, k⟩
  rw [← E1.out] at sc
  have KC := Lib.hid (KA.out.tr k)
  replace M1 := Lib.hid (M1.out.kept k fun _ _ h => h)
  replace M3 := Lib.hid (M3.out.kept k fun _ _ h => h)
  replace M4 := Lib.hid (M4.out.kept k fun _ _ h => h)
  obtain ⟨g1, g2, rfl, _⟩ := sc
  rw [Tr.pairs_len]
  clear k
  go_wp2_with fail
  refine (l7sorted_calls (H1.out.still pairEl_k KC.out) (fewK_iff F1.out).1).mono ?_
  rintro e wd ⟨vd, rfl, s, k⟩
  rw [← E1.out] at s
  have KD := Lib.hid (KC.out.tr k)
  have KK := Lib.hid k
  have S1 := Lib.hid s
  obtain ⟨d1, d2, d3, rfl⟩ := s.slice'
  clear s k
  go_wp2_with fail
  refine (l7sorted_calls (H2.out.still pairEl_k KD.out) (fewK_iff F2.out).1).mono ?_
  rintro e we ⟨ve, rfl, s, k⟩
  rw [← E2.out] at s
  have KE := Lib.hid (KD.out.tr k)
  replace KK := Lib.hid (KK.out.tr k)
  have S2 := Lib.hid s
  replace S1 := Lib.hid (S1.out.still pairEl_k k)
  obtain ⟨e1, e2, e3, rfl⟩ := s.slice'
  clear s k
  go_wp2_with fail
  refine (l7sorted_calls (H3.out.still pairEl_k KE.out) (fewK_iff F3.out).1).mono ?_
  rintro e wf ⟨vf, rfl, s, k⟩
  rw [← E3.out] at s
  have KF := Lib.hid (KE.out.tr k)
  replace KK := Lib.hid (KK.out.tr k)
  have S3 := Lib.hid s
  replace S1 := Lib.hid (S1.out.still pairEl_k k)
  replace S2 := Lib.hid (S2.out.still pairEl_k k)
  obtain ⟨f1, f2, f3, rfl⟩ := s.slice'
  clear s k
  go_wp2_with fail
  refine (r7Mirror_calls T1.out O1.out T2.out O2.out (by have := z1.out; have := z2.out; have := z3.out; omega) S1.out S2.out).mono ?_
  rintro e wg ⟨vm, vt, rfl, sm, st, k⟩
  have KG := Lib.hid (KF.out.tr k)
  replace KK := Lib.hid (KK.out.tr k)
  have SM := Lib.hid sm
  have ST := Lib.hid st
  replace S1 := Lib.hid (S1.out.still pairEl_k k)
  replace S2 := Lib.hid (S2.out.still pairEl_k k)
  replace S3 := Lib.hid (S3.out.still pairEl_k k)
  obtain ⟨x4, y4, q4, rfl⟩ := sm.slice'
  obtain ⟨x5, y5, q5, rfl⟩ := st.slice'
  clear sm st k
  go_upto_region 11 with (fail)
  have GB := heap_alloc_new wg (talkObj (.slice x4 y4 q4) (.slice x5 y5 q5))
  have k := (Kept.refl Noneof wg).alloc (talkObj (.slice x4 y4 q4) (.slice x5 y5 q5))
  unfold talkObj at GB k
  generalize wg.alloc (.cells #[.slice x4 y4 q4, .slice x5 y5 q5] 90) = wh' at *
  replace k : Kept Noneof wg wh'.drew := k.tr (Kept.refl Noneof wh').drew
  have c0 : wh'.drew.cell? ⟨wg.heap.size, 0, none⟩ = some (.slice x4 y4 q4) := by
    show wh'.cell? _ = _
    simp [World.cell?, GB]
  have c1 : wh'.drew.cell? ⟨wg.heap.size, 1, none⟩ = some (.slice x5 y5 q5) := by
    show wh'.cell? _ = _
    simp [World.cell?, GB]
  have KH := Lib.hid (KG.out.tr k)
  replace KK := Lib.hid (KK.out.tr k)
  replace M1 := Lib.hid (M1.out.kept KK.out fun _ _ h => h)
  replace M3 := Lib.hid (M3.out.kept KK.out fun _ _ h => h)
  replace M4 := Lib.hid (M4.out.kept KK.out fun _ _ h => h)
  replace S1 := Lib.hid (S1.out.still pairEl_k k)
  replace S2 := Lib.hid (S2.out.still pairEl_k k)
  replace S3 := Lib.hid (S3.out.still pairEl_k k)
  replace SM := Lib.hid (SM.out.still msgEl_k k)
  replace ST := Lib.hid (ST.out.still pairEl_k k)
  clear KK k GB
  refine wp_region_chain 27 [4, 13, 15, 23, 25] (fun w' => w'.cell? ⟨wg.heap.size, 0, none⟩ = some (.slice x4 y4 q4) ∧ w'.cell? ⟨wg.heap.size, 1, none⟩ = some (.slice x5 y5 q5)) (by kernel_rfl) (chain_mask [0, 0, 0, 4, 15, 31, 63, 127, 63, 63, 63, 1087, 63, 7743, 15935, 32767, 65535, 131071, 262143, 262143, 262143, 262143, 262143, 7602175, 15990783, 33554431, 67108863] (by kernel_rfl)) ?_ ?_
  · exact ⟨c0, c1⟩
  refine SeqW.out ?_
  simp only [List.take_succ_cons, List.take_zero, List.drop_succ_cons, List.drop_zero]
  generalize wh'.drew = wh at *
  iterate 4 (refine SeqW.val (v := ?_) (by rfl) (by rfl) (fun wx hSw => ?_) ?_; rotate_left; (focus ((try dsimp only at hSw); go_simp; (try with_reducible rfl))); (try simp only [Act.put, List.setIfInBounds_toArray, List.set_cons_zero, List.set_cons_succ]))
  cases hm1 : (talk seed (fillT seed l2) (fillT seed l1) [] [] false).any (metB (fillT seed l1).pairs (fillT seed l2).pairs)
  rotate_left
  · refine SeqW.act (by rfl) rfl (by rfl) (by rfl) (fun K hK => ?_)
    go_simp
    refine (l7met_calls (Tr.good_srt T1.out) (Tr.good_srt T2.out) S1.out S2.out SM.out).mono ?_
    rintro e wi ⟨rfl, k⟩
    rw [hm1]
    clear hm1
    refine hK.out _ _ ⟨k.cell (fun h => h) c0, k.cell (fun h => h) c1⟩ ?_
    have c0 := k.cell (fun h => h) c0
    have c1 := k.cell (fun h => h) c1
    replace M1 := Lib.hid (M1.out.kept k fun _ _ h => h)
    replace M3 := Lib.hid (M3.out.kept k fun _ _ h => h)
    replace M4 := Lib.hid (M4.out.kept k fun _ _ h => h)
    replace S1 := Lib.hid (S1.out.still pairEl_k k)
    replace S3 := Lib.hid (S3.out.still pairEl_k k)
    replace ST := Lib.hid (ST.out.still pairEl_k k)
    have KI := Lib.hid (KH.out.tr k)
    clear K hK k
    (try simp only [Act.put, List.setIfInBounds_toArray, List.set_cons_zero, List.set_cons_succ])
    (refine SeqW.val (v := ?_) (by rfl) (by rfl) (fun wx hSw => ?_) ?_; rotate_left; (focus ((try dsimp only at hSw); go_simp; (try with_reducible rfl))); (try simp only [Act.put, List.setIfInBounds_toArray, List.set_cons_zero, List.set_cons_succ]))
    iterate 10 (refine SeqW.skip (by rfl) ?_; (try simp only [Act.put, List.setIfInBounds_toArray, List.set_cons_zero, List.set_cons_succ]))
    (refine SeqW.val (v := ?_) (by rfl) (by rfl) (fun wx hSw => ?_) ?_; rotate_left; (focus ((try dsimp only at hSw); go_simp; (try with_reducible rfl))); (try simp only [Act.put, List.setIfInBounds_toArray, List.set_cons_zero, List.set_cons_succ]))
    (refine SeqW.val (v := ?_) (by rfl) (by rfl) (fun wx hSw => ?_) ?_; rotate_left; (focus ((try dsimp only at hSw); go_simp; (try with_reducible rfl))); (try simp only [Act.put, List.setIfInBounds_toArray, List.set_cons_zero, List.set_cons_succ]))
    iterate 8 (refine SeqW.skip (by rfl) ?_; (try simp only [Act.put, List.setIfInBounds_toArray, List.set_cons_zero, List.set_cons_succ]))
    (refine SeqW.val (v := ?_) (by rfl) (by rfl) (fun wx hSw => ?_) ?_; rotate_left; (focus ((try dsimp only at hSw); go_simp; (try with_reducible rfl))); (try simp only [Act.put, List.setIfInBounds_toArray, List.set_cons_zero, List.set_cons_succ]))
    refine SeqW.nil ?_
    go_wp2
    go_ret
    exact ⟨rfl, KI.out⟩
  refine SeqW.act (by rfl) rfl (by rfl) (by rfl) (fun K hK => ?_)
  go_simp
  refine (l7met_calls (Tr.good_srt T1.out) (Tr.good_srt T2.out) S1.out S2.out SM.out).mono ?_
  rintro e wi ⟨rfl, k⟩
  rw [hm1]
  refine hK.out _ _ ⟨k.cell (fun h => h) c0, k.cell (fun h => h) c1⟩ ?_
  have c0 := k.cell (fun h => h) c0
  have c1 := k.cell (fun h => h) c1
  replace M1 := Lib.hid (M1.out.kept k fun _ _ h => h)
  replace M3 := Lib.hid (M3.out.kept k fun _ _ h => h)
  replace M4 := Lib.hid (M4.out.kept k fun _ _ h => h)
  replace S1 := Lib.hid (S1.out.still pairEl_k k)
  replace S3 := Lib.hid (S3.out.still pairEl_k k)
  replace ST := Lib.hid (ST.out.still pairEl_k k)
  have KI := Lib.hid (KH.out.tr k)
  clear K hK k
  (try simp only [Act.put, List.setIfInBounds_toArray, List.set_cons_zero, List.set_cons_succ])
  have NM := Lib.hid (not_met T1.out T2.out hm1)
  clear hm1
  iterate 8 (refine SeqW.val (v := ?_) (by rfl) (by rfl) (fun wx hSw => ?_) ?_; rotate_left; (focus ((try dsimp only at hSw); go_simp; (try with_reducible rfl))); (try simp only [Act.put, List.setIfInBounds_toArray, List.set_cons_zero, List.set_cons_succ]))
  refine SeqW.act (by rfl) rfl (by rfl) (by rfl) (fun K hK => ?_)
  go_simp
  refine (r7Mirror_calls XG.out XO.out T3.out O3.out (by have := z1.out; have := z2.out; have := z3.out; have := MS.out; omega) ST.out S3.out).mono ?_
  rintro e wj ⟨vm, vt', rfl, sm, st, k⟩
  refine hK.out _ _ ⟨k.cell (fun h => h) c0, k.cell (fun h => h) c1⟩ ?_
  have c0 := k.cell (fun h => h) c0
  have c1 := k.cell (fun h => h) c1
  replace M1 := Lib.hid (M1.out.kept k fun _ _ h => h)
  replace M3 := Lib.hid (M3.out.kept k fun _ _ h => h)
  replace M4 := Lib.hid (M4.out.kept k fun _ _ h => h)
  replace S1 := Lib.hid (S1.out.still pairEl_k k)
  replace S3 := Lib.hid (S3.out.still pairEl_k k)
  replace ST := Lib.hid (ST.out.still pairEl_k k)
  have KJ := Lib.hid (KI.out.tr k)
  have SM := Lib.hid sm
  obtain ⟨j1, j2, j3, rfl⟩ := sm.slice'
  obtain ⟨j4, j5, j6, rfl⟩ := st.slice'
  clear K hK sm st k
  (try simp only [Act.put, List.setIfInBounds_toArray, List.set_cons_zero, List.set_cons_succ])
  have hfd : ∀ w : World, (Instr.field 90 (.agg #[.slice j1 j2 j3, .slice j4 j5 j6]) 0).run Try.prog w = .ok (.slice j1 j2 j3) w := fun _ => by kernel_rfl
  (refine SeqW.val (v := ?_) (by rfl) (by rfl) (fun wx hSw => ?_) ?_; rotate_left; (focus ((try dsimp only at hSw); go_simp; (try with_reducible rfl))); (try simp only [Act.put, List.setIfInBounds_toArray, List.set_cons_zero, List.set_cons_succ]))
  clear hfd
  cases hm2 : (talk seed (fillT seed l3) (mirT seed (fillT seed l2) (fillT seed l1)) [] [] false).any (metB (mirT seed (fillT seed l2) (fillT seed l1)).pairs (fillT seed l3).pairs)
  rotate_left
  · refine SeqW.act (by rfl) rfl (by rfl) (by rfl) (fun K hK => ?_)
    go_simp
    refine (l7met_calls (Tr.good_srt XG.out) (Tr.good_srt T3.out) ST.out S3.out SM.out).mono ?_
    rintro e wk ⟨rfl, k⟩
    rw [hm2]
    clear hm2
    refine hK.out _ _ ⟨k.cell (fun h => h) c0, k.cell (fun h => h) c1⟩ ?_
    have c0 := k.cell (fun h => h) c0
    have c1 := k.cell (fun h => h) c1
    replace M1 := Lib.hid (M1.out.kept k fun _ _ h => h)
    replace M3 := Lib.hid (M3.out.kept k fun _ _ h => h)
    replace M4 := Lib.hid (M4.out.kept k fun _ _ h => h)
    replace S1 := Lib.hid (S1.out.still pairEl_k k)
    replace S3 := Lib.hid (S3.out.still pairEl_k k)
    replace ST := Lib.hid (ST.out.still pairEl_k k)
    have KK := Lib.hid (KJ.out.tr k)
    clear K hK k
    (try simp only [Act.put, List.setIfInBounds_toArray, List.set_cons_zero, List.set_cons_succ])
    (refine SeqW.val (v := ?_) (by rfl) (by rfl) (fun wx hSw => ?_) ?_; rotate_left; (focus ((try dsimp only at hSw); go_simp; (try with_reducible rfl))); (try simp only [Act.put, List.setIfInBounds_toArray, List.set_cons_zero, List.set_cons_succ]))
    (refine SeqW.val (v := ?_) (by rfl) (by rfl) (fun wx hSw => ?_) ?_; rotate_left; (focus ((try dsimp only at hSw); go_simp; (try with_reducible rfl))); (try simp only [Act.put, List.setIfInBounds_toArray, List.set_cons_zero, List.set_cons_succ]))
    iterate 8 (refine SeqW.skip (by rfl) ?_; (try simp only [Act.put, List.setIfInBounds_toArray, List.set_cons_zero, List.set_cons_succ]))
    (refine SeqW.val (v := ?_) (by rfl) (by rfl) (fun wx hSw => ?_) ?_; rotate_left; (focus ((try dsimp only at hSw); go_simp; (try with_reducible rfl))); (try simp only [Act.put, List.setIfInBounds_toArray, List.set_cons_zero, List.set_cons_succ]))
    refine SeqW.nil ?_
    go_wp2
    go_ret
    exact ⟨rfl, KK.out⟩
  refine SeqW.act (by rfl) rfl (by rfl) (by rfl) (fun K hK => ?_)
  go_simp
  refine (l7met_calls (Tr.good_srt XG.out) (Tr.good_srt T3.out) ST.out S3.out SM.out).mono ?_
  rintro e wk ⟨rfl, k⟩
  rw [hm2]
  refine hK.out _ _ ⟨k.cell (fun h => h) c0, k.cell (fun h => h) c1⟩ ?_
  have c0 := k.cell (fun h => h) c0
  have c1 := k.cell (fun h => h) c1
  replace M1 := Lib.hid (M1.out.kept k fun _ _ h => h)
  replace M3 := Lib.hid (M3.out.kept k fun _ _ h => h)
  replace M4 := Lib.hid (M4.out.kept k fun _ _ h => h)
  replace S1 := Lib.hid (S1.out.still pairEl_k k)
  replace S3 := Lib.hid (S3.out.still pairEl_k k)
  replace ST := Lib.hid (ST.out.still pairEl_k k)
  have KK := Lib.hid (KJ.out.tr k)
  clear K hK k
  (try simp only [Act.put, List.setIfInBounds_toArray, List.set_cons_zero, List.set_cons_succ])
  clear hm2
  (refine SeqW.val (v := ?_) (by rfl) (by rfl) (fun wx hSw => ?_) ?_; rotate_left; (focus ((try dsimp only at hSw); go_simp; (try with_reducible rfl))); (try simp only [Act.put, List.setIfInBounds_toArray, List.set_cons_zero, List.set_cons_succ]))
  (refine SeqW.val (v := ?_) (by rfl) (by rfl) (fun wx hSw => ?_) ?_; rotate_left; (focus ((try dsimp only at hSw); go_simp; (try with_reducible rfl))); (try simp only [Act.put, List.setIfInBounds_toArray, List.set_cons_zero, List.set_cons_succ]))
  iterate 5 (refine SeqW.val (v := ?_) (by rfl) (by rfl) (fun wx hSw => ?_) ?_; rotate_left; (focus ((try dsimp only at hSw); go_simp; (try with_reducible rfl))); (try simp only [Act.put, List.setIfInBounds_toArray, List.set_cons_zero, List.set_cons_succ]))
  refine SeqW.act (by rfl) rfl (by rfl) (by rfl) (fun K hK => ?_)
  go_simp
  refine (r7Mirror_calls T1.out O1.out T3.out O3.out (by have := z1.out; have := z2.out; have := z3.out; omega) S1.out S3.out).mono ?_
  rintro e wl ⟨vm, vt', rfl, sm, st, k⟩
  refine hK.out _ _ ⟨k.cell (fun h => h) c0, k.cell (fun h => h) c1⟩ ?_
  have c0 := k.cell (fun h => h) c0
  have c1 := k.cell (fun h => h) c1
  replace M1 := Lib.hid (M1.out.kept k fun _ _ h => h)
  replace M3 := Lib.hid (M3.out.kept k fun _ _ h => h)
  replace M4 := Lib.hid (M4.out.kept k fun _ _ h => h)
  replace S1 := Lib.hid (S1.out.still pairEl_k k)
  replace S3 := Lib.hid (S3.out.still pairEl_k k)
  replace ST := Lib.hid (ST.out.still pairEl_k k)
  have KL := Lib.hid (KK.out.tr k)
  have SM := Lib.hid sm
  obtain ⟨p1, p2, p3, rfl⟩ := sm.slice'
  obtain ⟨p4, p5, p6, rfl⟩ := st.slice'
  clear K hK sm st k
  (try simp only [Act.put, List.setIfInBounds_toArray, List.set_cons_zero, List.set_cons_succ])
  have hfd : ∀ w : World, (Instr.field 90 (.agg #[.slice p1 p2 p3, .slice p4 p5 p6]) 0).run Try.prog w = .ok (.slice p1 p2 p3) w := fun _ => by kernel_rfl
  (refine SeqW.val (v := ?_) (by rfl) (by rfl) (fun wx hSw => ?_) ?_; rotate_left; (focus ((try dsimp only at hSw); go_simp; (try with_reducible rfl))); (try simp only [Act.put, List.setIfInBounds_toArray, List.set_cons_zero, List.set_cons_succ]))
  clear hfd
  cases hm3 : (talk seed (fillT seed l3) (fillT seed l1) [] [] false).any (metB (fillT seed l1).pairs (fillT seed l3).pairs)
  rotate_left
  · refine SeqW.act (by rfl) rfl (by rfl) (by rfl) (fun K hK => ?_)
    go_simp
    refine (l7met_calls (Tr.good_srt T1.out) (Tr.good_srt T3.out) S1.out S3.out SM.out).mono ?_
    rintro e wm ⟨rfl, k⟩
    rw [hm3]
    clear hm3
    refine hK.out _ _ ⟨k.cell (fun h => h) c0, k.cell (fun h => h) c1⟩ ?_
    have c0 := k.cell (fun h => h) c0
    have c1 := k.cell (fun h => h) c1
    replace M1 := Lib.hid (M1.out.kept k fun _ _ h => h)
    replace M3 := Lib.hid (M3.out.kept k fun _ _ h => h)
    replace M4 := Lib.hid (M4.out.kept k fun _ _ h => h)
    replace S1 := Lib.hid (S1.out.still pairEl_k k)
    replace S3 := Lib.hid (S3.out.still pairEl_k k)
    replace ST := Lib.hid (ST.out.still pairEl_k k)
    have KM := Lib.hid (KL.out.tr k)
    clear K hK k
    (try simp only [Act.put, List.setIfInBounds_toArray, List.set_cons_zero, List.set_cons_succ])
    (refine SeqW.val (v := ?_) (by rfl) (by rfl) (fun wx hSw => ?_) ?_; rotate_left; (focus ((try dsimp only at hSw); go_simp; (try with_reducible rfl))); (try simp only [Act.put, List.setIfInBounds_toArray, List.set_cons_zero, List.set_cons_succ]))
    refine SeqW.nil ?_
    go_wp2
    go_ret
    exact ⟨rfl, KM.out⟩
  refine SeqW.act (by rfl) rfl (by rfl) (by rfl) (fun K hK => ?_)
  go_simp
  refine (l7met_calls (Tr.good_srt T1.out) (Tr.good_srt T3.out) S1.out S3.out SM.out).mono ?_
  rintro e wm ⟨rfl, k⟩
  rw [hm3]
  refine hK.out _ _ ⟨k.cell (fun h => h) c0, k.cell (fun h => h) c1⟩ ?_
  have c0 := k.cell (fun h => h) c0
  have c1 := k.cell (fun h => h) c1
  replace M1 := Lib.hid (M1.out.kept k fun _ _ h => h)
  replace M3 := Lib.hid (M3.out.kept k fun _ _ h => h)
  replace M4 := Lib.hid (M4.out.kept k fun _ _ h => h)
  replace S1 := Lib.hid (S1.out.still pairEl_k k)
  replace S3 := Lib.hid (S3.out.still pairEl_k k)
  replace ST := Lib.hid (ST.out.still pairEl_k k)
  have KM := Lib.hid (KL.out.tr k)
  clear K hK k
  (try simp only [Act.put, List.setIfInBounds_toArray, List.set_cons_zero, List.set_cons_succ])
  (refine SeqW.val (v := ?_) (by rfl) (by rfl) (fun wx hSw => ?_) ?_; rotate_left; (focus ((try dsimp only at hSw); go_simp; (try with_reducible rfl))); (try simp only [Act.put, List.setIfInBounds_toArray, List.set_cons_zero, List.set_cons_succ]))
  refine SeqW.nil ?_
  have NM3 := Lib.hid (not_met T1.out T3.out hm3)
  clear hm3
  replace M3 := Lib.hid (show MapAt seed wm m3 (fillT seed l1) _ by have := M3.out; rw [NM.out, NM3.out] at this; exact this)
  replace M4 := Lib.hid (show MapAt seed wm m4 (fillT seed l1) _ by have := M4.out; rw [NM3.out] at this; exact this)
  have sz := Lib.hid (show (fillT seed l1).size ≤ 100000 by have := z1.out; omega)
  clear c0 c1 S1 S3 ST H1 H2 H3
  (
  go_wp2_with fail
  refine (orImage_calls M3.out sz.out).mono ?_
  rintro e w' ⟨v', rfl, o', k⟩
  have KN := Lib.hid (KM.out.tr k)
  have I1 := Lib.hid o'.sv
  obtain ⟨i1, i2, i3, rfl⟩ := o'.slice'
  replace M1 := Lib.hid (M1.out.kept k fun _ _ h => h)
  replace M3 := Lib.hid (M3.out.kept k fun _ _ h => h)
  replace M4 := Lib.hid (M4.out.kept k fun _ _ h => h)
  clear o' k
  go_wp2_with fail
  refine (orImage_calls M4.out sz.out).mono ?_
  rintro e w'' ⟨v'', rfl, o'', k⟩
  have KO := Lib.hid (KN.out.tr k)
  have I2 := Lib.hid o''.sv
  obtain ⟨i4, i5, i6, rfl⟩ := o''.slice'
  replace I1 := Lib.hid (I1.out.still byteEl_k k)
  replace M1 := Lib.hid (M1.out.kept k fun _ _ h => h)
  replace M3 := Lib.hid (M3.out.kept k fun _ _ h => h)
  replace M4 := Lib.hid (M4.out.kept k fun _ _ h => h)
  clear o'' k
  go_wp2_with fail
  refine (r2Compare_calls I1.out I2.out).mono ?_
  rintro e w3' ⟨rfl, dd⟩
  rw [cmpB_self]
  have k := (Kept.refl Noneof w'').drewn dd
  have KP := Lib.hid (KO.out.tr k)
  replace M1 := Lib.hid (M1.out.kept k fun _ _ h => h)
  replace M3 := Lib.hid (M3.out.kept k fun _ _ h => h)
  replace M4 := Lib.hid (M4.out.kept k fun _ _ h => h)
  clear dd k I1 I2)
  (
  go_wp2_with fail
  refine (orImage_calls M1.out sz.out).mono ?_
  rintro e w' ⟨v', rfl, o', k⟩
  have KQ := Lib.hid (KP.out.tr k)
  have I1 := Lib.hid o'.sv
  obtain ⟨i1, i2, i3, rfl⟩ := o'.slice'
  replace M1 := Lib.hid (M1.out.kept k fun _ _ h => h)
  replace M3 := Lib.hid (M3.out.kept k fun _ _ h => h)
  replace M4 := Lib.hid (M4.out.kept k fun _ _ h => h)
  clear o' k
  go_wp2_with fail
  refine (orImage_calls M4.out sz.out).mono ?_
  rintro e w'' ⟨v'', rfl, o'', k⟩
  have KR := Lib.hid (KQ.out.tr k)
  have I2 := Lib.hid o''.sv
  obtain ⟨i4, i5, i6, rfl⟩ := o''.slice'
  replace I1 := Lib.hid (I1.out.still byteEl_k k)
  replace M1 := Lib.hid (M1.out.kept k fun _ _ h => h)
  replace M3 := Lib.hid (M3.out.kept k fun _ _ h => h)
  replace M4 := Lib.hid (M4.out.kept k fun _ _ h => h)
  clear o'' k
  go_wp2_with fail
  refine (r2Compare_calls I1.out I2.out).mono ?_
  rintro e w3' ⟨rfl, dd⟩
  rw [cmpB_self]
  have k := (Kept.refl Noneof w'').drewn dd
  have KS := Lib.hid (KR.out.tr k)
  replace M1 := Lib.hid (M1.out.kept k fun _ _ h => h)
  replace M3 := Lib.hid (M3.out.kept k fun _ _ h => h)
  replace M4 := Lib.hid (M4.out.kept k fun _ _ h => h)
  clear dd k I1 I2)
  go_wp2
  go_ret
  exact ⟨rfl, KS.out⟩
end Go.Proofs.Ytaopjdjbpamhhaa
/- Proved: the law SwapChain returns true for all its arguments, and each argument reads afterwards as it read before. No condition beyond the statement's own. -/
namespace Go.Proofs.Ytaopjdjbpamhhaa.swapChain
open Go.ChangeShapes Go.WideShapes Go.ChangeAt Go.RowKit
set_option linter.unusedVariables false
theorem opensPair : Opens Try.prog 70 pairEl := opens_pair (t := 31) (e := 5) (Try.underlying70) rfl rfl rfl rfl (by kernel_rfl) (by kernel_rfl) Try.underlying31 Try.underlying5 (by kernel_rfl) (of_decide_eq_true (by kernel_rfl))
set_option maxRecDepth 100000 in
theorem lifted (os : Os) (started : os.Started) (H : Type) (enc : TypeId × Value → H) :
    ReturnsInHanded {} Try.checked os 13 .any (Rows.swapChainSpec.pre6 enc Try.prog Try.f13 Rows.swapChainRow.domain false) (Rows.swapChainSpec.post enc Try.prog Try.f13 false true false false) := by
  refine returnsInHanded_of_change_sized (C := Try.checked) Facts.own started (by kernel_rfl) Try.func13
    (ChangeSpec.witness6 (enc := enc) (C := Try.checked) false ⟨#[], #[.int .u64 0, .slice none 0 0, .slice none 0 0, .slice none 0 0], []⟩ 8 (by kernel_rfl) (by kernel_rfl) (by kernel_rfl) (by kernel_rfl)) ?_
  intro W base args ds gs before hval0 hW hcnd hsz0 _
  have hsz : (DataW.weightsEach Try.prog (Try.f13.params.toList ++ Rows.swapChainSpec.plain.varTypes Try.prog) (ds ++ gs)).all (· ≤ reachBytes) = true := hsz0
  have hval : ∀ (j : Nat) t v, Try.f13.params[j]? = some t → args[j]? = some v → Value.okWide Try.prog W .any base t v := hval0
  have hW' := hW
  obtain ⟨p, q, hA0, hV, rfl, hfz, hnd⟩ := hW
  have hA : DataW.TrodAll enc Try.prog W 0 (fun _ => true) true Try.f13.params.toList args.toList ds p := hA0
  rw [Try.params13] at hA hval hsz
  obtain ⟨v0, vs0, d0, ds0, p0, q0, hargs, rfl, rfl, h0, r0⟩ := trodAll_cons hA
  obtain ⟨v1, vs1, d1, ds1, p1, q1, rfl, rfl, rfl, h1, r1⟩ := trodAll_cons r0
  obtain ⟨v2, vs2, d2, ds2, p2, q2, rfl, rfl, rfl, h2, r2⟩ := trodAll_cons r1
  obtain ⟨v3, vs3, d3, ds3, p3, q3, rfl, rfl, rfl, h3, r3⟩ := trodAll_cons r2
  obtain ⟨rfl, rfl, rfl⟩ := trodAll_nil r3
  obtain rfl : args = #[v0, v1, v2, v3] := by cases args; simp_all
  obtain ⟨rfl, rfl⟩ := trodVars_none hV
  obtain ⟨a0, rfl, rfl, rfl, w0⟩ := open_int Try.underlying22 (hval 0 22 v0 rfl rfl) h0
  obtain ⟨a1, len1, cap1, rfl⟩ := okWide_slice Try.underlying65 (hval 1 65 v1 rfl rfl)
  obtain ⟨a2, len2, cap2, rfl⟩ := okWide_slice Try.underlying65 (hval 2 65 v2 rfl rfl)
  obtain ⟨a3, len3, cap3, rfl⟩ := okWide_slice Try.underlying65 (hval 3 65 v3 rfl rfl)
  have k1 := h1
  have lt1 : ∀ x ∈ p1, x.block < W.heap.size := by obtain ⟨m, hm⟩ := k1; exact DataW.trod_lt m _ _ _ hm
  have k2 := h2
  have lt2 : ∀ x ∈ p2, x.block < W.heap.size := by obtain ⟨m, hm⟩ := k2; exact DataW.trod_lt m _ _ _ hm
  have k3 := h3
  have lt3 : ∀ x ∈ p3, x.block < W.heap.size := by obtain ⟨m, hm⟩ := k3; exact DataW.trod_lt m _ _ _ hm
  obtain ⟨l1, s1⟩ := open_arg (E := pairEl) (j := 1) pairEl_k opensPair Try.underlying65 (by kernel_rfl) (of_decide_eq_true (by kernel_rfl)) h1 rfl hsz rfl rfl
  obtain ⟨l2, s2⟩ := open_arg (E := pairEl) (j := 2) pairEl_k opensPair Try.underlying65 (by kernel_rfl) (of_decide_eq_true (by kernel_rfl)) h2 rfl hsz rfl rfl
  obtain ⟨l3, s3⟩ := open_arg (E := pairEl) (j := 3) pairEl_k opensPair Try.underlying65 (by kernel_rfl) (of_decide_eq_true (by kernel_rfl)) h3 rfl hsz rfl rfl
  clear hA0 hval0 hsz0
  refine (swapChain_walk (seed := a0) s1 s2 s3).mono fun e W' ⟨he, kw⟩ => ?_
  have bel : Below W.heap.size W W' := kw.below (Nat.le_refl _) fun _ h => h.elim
  subst he
  exact ⟨_, rfl, _, _, _, [], _, [], hW', trodAll_mk1 (shut_bool Try.underlying4 _), (trodAll_cons_mk (shut_int Try.underlying22 w0) (trodAll_cons_mk (Below.trod Facts.laid (by kernel_rfl) (of_decide_eq_true (by kernel_rfl)) k1 bel lt1) (trodAll_cons_mk (Below.trod Facts.laid (by kernel_rfl) (of_decide_eq_true (by kernel_rfl)) k2 bel lt2) (trodAll_cons_mk (Below.trod Facts.laid (by kernel_rfl) (of_decide_eq_true (by kernel_rfl)) k3 bel lt3) trodAll_mk0)))), rfl, bel.frame _, fun h => by cases h⟩
set_option maxHeartbeats 4000000 in
theorem closed : joinedFacts Try.prog 13 Try.f13 Rows.swapChainSpec Rows.swapChainRow = true := by
  refine Facts.joined 13 Try.f13 Rows.swapChainSpec Rows.swapChainRow ?_ ?_ ?_ ?_ ?_ ?_ ?_ ?_ ?_ ?_ ?_ ?_ ?_ ?_ ?_ ?_ ?_ ?_ ?_ ?_ ?_ ?_ ?_ ?_ ?_ ?_ ?_ <;> exact (by as_aux_lemma => kernel_rfl)
set_option maxHeartbeats 4000000 in
theorem over : Rows.swapChainRow.holds Try.pinned (OpenSpec.ofChange Rows.swapChainSpec) :=
  OpenClaim.holds_of_wide 13 Try.f13 rfl rfl rfl rfl rfl rfl rfl ⟨rfl, rfl, rfl, rfl, rfl⟩ rfl rfl rfl rfl rfl (by as_aux_lemma => kernel_rfl) Try.func13 closed
    (of_decide_eq_true (by as_aux_lemma => kernel_rfl)) (by unfold Func.isWrapper; first | (rw [if_pos (by decide +kernel)]; kernel_rfl) | (rw [if_neg (by decide +kernel)]; exact ⟨rfl, rfl⟩))
    (fun os started H enc _ => lifted os started H enc)
theorem proved : Rows.SwapChainSaid := over
end Go.Proofs.Ytaopjdjbpamhhaa.swapChain
namespace Go.Proofs.Ytaopjdjbpamhhaa
theorem swapChain_holds : Rows.SwapChainSaid := swapChain.proved
#print axioms swapChain_holds
end Go.Proofs.Ytaopjdjbpamhhaa
