/- Proved: contracts of the map's functions part and SpanDigest. Conditions: maps in memory, of pairs of lengths that are allowed. -/
import Derived.Test.YtaopjdjbpamhhaaMap3
namespace Go.Proofs.Ytaopjdjbpamhhaa
open Go Go.RowKit
set_option linter.unusedVariables false
set_option linter.unusedSimpArgs false

/-- The tree of the pairs from low on (if fr is set) and below high (if tt is set). -/
def Tr.cut : Tr → Bts → Bool → Bts → Bool → Tr
  | nil, _, _, _, _ => nil
  | nd l k v r, low, fr, high, tt => if fr = false ∧ tt = false then nd l k v r else if fr = true ∧ cmpB k low < 0 then r.cut low fr high tt else if tt = true ∧ ¬ cmpB k high < 0 then l.cut low fr high tt else nd (l.cut low fr [] false) k v (r.cut [] false high tt)
theorem Tr.cut_size : ∀ (t : Tr) (low : Bts) (fr : Bool) (high : Bts) (tt : Bool), (t.cut low fr high tt).size ≤ t.size
  | nil, _, _, _, _ => by simp [Tr.cut]
  | nd l k v r, low, fr, high, tt => by
    have h1 := cut_size l low fr high tt
    have h2 := cut_size r low fr high tt
    have h3 := cut_size l low fr [] false
    have h4 := cut_size r [] false high tt
    rw [Tr.cut]
    split
    · exact Nat.le_refl _
    · split
      · simp only [Tr.size]; omega
      · split
        · simp only [Tr.size]; omega
        · simp only [Tr.size]; omega
theorem BV.nil (D : Nat → Prop) (w : World) : BV D w (.slice none 0 0) [] := ⟨none, 0, rfl, ⟨by simp, fun _ => rfl⟩, by simp, Rd.nil _ _ _ _⟩

set_option maxRecDepth 100000 in
set_option maxHeartbeats 4000000 in
theorem orpart_calls {seed : Int} {D : Nat → Prop} {m : Nat} : ∀ (t : Tr) (p : Option Nat) (S : List Nat) (D1 D2 : Nat → Prop) (lo hi : Value) (low high : Bts) (fr tt : Bool) (w : World), TreeAt seed D w t p S → w.cell? ⟨m, 1, none⟩ = some (.int .u64 seed) → t.ok → t.size ≤ 500000000 → BV D1 w lo low → BV D2 w hi high →
    Calls Try.prog 160 #[.pointer (some ⟨m, 0, none⟩), ptr p, lo, .bool fr, hi, .bool tt] w fun e w' => e = .returned (.tuple #[.int .i64 ((t.cut low fr high tt).size : Int), .int .u64 ((t.cut low fr high tt).dg seed)]) ∧ Kept Noneof w w' := by
  intro t
  induction t with
  | nil =>
    intro p S D1 D2 lo hi low high fr tt w ht hm ok sz h1 h2
    obtain ⟨rfl, rfl⟩ := ht
    obtain ⟨a1, c1, rfl, _, _, _⟩ := h1
    obtain ⟨a2, c2, rfl, _, _, _⟩ := h2
    go_enter Try.func160, Try.ntmps160
    go_wp2_with fail
    refine (orcount_calls (p := none) (n := 0) (d := 0) ⟨rfl, rfl⟩).mono ?_
    rintro e w ⟨rfl, rfl⟩
    go_wp2_with fail
    refine (orsum_calls (p := none) (n := 0) (d := 0) ⟨rfl, rfl⟩).mono ?_
    rintro e w ⟨rfl, rfl⟩
    go_wp2
    go_ret2
    exact ⟨rfl, Kept.refl _ _⟩
  | nd l k v r il ir =>
    intro p S D1 D2 lo hi low high fr tt w ht hm ok sz h1 h2
    have IL := Lib.hid il
    have IR := Lib.hid ir
    have HT := Lib.hid ht
    have HM := Lib.hid hm
    have OK := Lib.hid ok
    have SZ := Lib.hid sz
    have H1 := Lib.hid h1
    have H2 := Lib.hid h2
    obtain ⟨b, pl, pr, Sl, Sr, kv, vv, rfl, rfl, ho, hkv, hvv, hl, hr⟩ := ht
    obtain ⟨a1, c1', rfl, _, _, _⟩ := h1
    obtain ⟨a2, c2', rfl, _, _, _⟩ := h2
    obtain ⟨c0, c1, _, c3, c4, c5, c6, _⟩ := NodeAt.of ho
    have KV := Lib.hid hkv
    have VV := Lib.hid hvv
    have L := Lib.hid hl
    have R := Lib.hid hr
    have SZL := Lib.hid (show l.size ≤ 500000000 by simp only [Tr.size] at sz; omega)
    have SZR := Lib.hid (show r.size ≤ 500000000 by simp only [Tr.size] at sz; omega)
    clear ho hkv hvv hl hr ok sz il ir c5 c6
    change Calls _ _ #[.pointer (some ⟨m, 0, none⟩), .pointer (some ⟨b, 0, none⟩), _, _, _, _] _ _
    cases fr with
    | false =>
      cases tt with
      | false =>
        clear c0 c1 c3 c4 hm
        go_enter Try.func160, Try.ntmps160
        go_wp2_with fail
        refine (orcount_calls (HT.out.child)).mono ?_
        rintro e w ⟨rfl, rfl⟩
        go_wp2_with fail
        refine (orsum_calls (HT.out.child)).mono ?_
        rintro e w ⟨rfl, rfl⟩
        go_wp2
        go_ret2
        exact ⟨rfl, Kept.refl _ _⟩
      | true =>
        by_cases hc : cmpB k high < 0
        · have T2 := Lib.hid (show (decide (0 ≤ cmpS k high)) = false from decide_eq_false (by have := cmpS_lt hc; omega))
          have CUT := Lib.hid (show (Tr.nd l k v r).cut low false high true = .nd (l.cut low false [] false) k v (r.cut [] false high true) by simp [Tr.cut, hc])
          clear hc
          go_enter Try.func160, Try.ntmps160
          go_wp2_with fail
          refine (byCompare_calls KV.out H2.out).mono ?_
          rintro e w ⟨rfl, rfl⟩
          have tT2 := T2.out
          go_wp2_with fail
          (
      refine (IL.out pl Sl D1 Noneof _ _ low [] _ false w L.out HM.out OK.out.1 SZL.out (by exact H1.out) (BV.nil _ _)).mono ?_
      rintro e w1 ⟨rfl, k1⟩
      have K1 := Lib.hid k1
      have d0 := k1.cell (p := ⟨b, 0, none⟩) (fun h => h) c0
      have d1 := k1.cell (p := ⟨b, 1, none⟩) (fun h => h) c1
      have d4 := k1.cell (p := ⟨b, 4, none⟩) (fun h => h) c4
      clear c0 c1 c3 c4 k1
      go_wp2_with fail
      refine (IR.out pr Sr Noneof D2 _ _ [] high false _ w1 (R.out.kept K1.out (fun _ _ _ h => h) fun _ _ h => h) (K1.out.cell (fun h => h) HM.out) OK.out.2.2 SZR.out (BV.nil _ _) (by exact H2.out.kept byteEl_k K1.out fun _ _ _ h => h)).mono ?_
      rintro e w2 ⟨rfl, k2⟩
      have K2 := Lib.hid (K1.out.tr k2)
      have e0 := k2.cell (p := ⟨b, 0, none⟩) (fun h => h) d0
      have e1 := k2.cell (p := ⟨b, 1, none⟩) (fun h => h) d1
      have em := K2.out.cell (p := ⟨m, 1, none⟩) (fun h => h) HM.out
      clear d0 d1 d4 k2 hm
      go_wp2
      refine wp_region_kept 21 [(18, .con (.int .u64 (mark seed ((l.cut low false [] false).dg seed) k v ((r.cut [] false high true).dg seed))))] Noneof (by kernel_rfl) (by kernel_rfl) (by kernel_rfl) ?_; simp only [List.take_succ_cons, List.take_zero, List.drop_succ_cons, List.drop_zero]
      have hS : ∀ w', Kept Noneof w2 w' → w'.cell? ⟨m, 1, none⟩ = some (.int .u64 seed) ∧ w'.cell? ⟨b, 0, none⟩ = some kv ∧ w'.cell? ⟨b, 1, none⟩ = some vv := fun w' k => ⟨k.cell (fun h => h) em, k.cell (fun h => h) e0, k.cell (fun h => h) e1⟩
      iterate 18 (refine SeqL.val (v := ?_) hS rfl (by rfl) (fun wx hSw => ?_) ?_; rotate_left; (focus ((try dsimp only at hSw); go_simp; (try with_reducible rfl))); (try simp only [Act.put, List.setIfInBounds_toArray, List.set_cons_zero, List.set_cons_succ]))
      refine SeqL.con rfl rfl (by rfl) (by rfl) (fun wx hx hh K hK => ?_) ?_
      · go_simp
        refine (ordigestOf_calls (seed := seed) (Tr.dg_u64 _ _) (Tr.dg_u64 _ _) (by exact (KV.out.kept byteEl_k (K2.out.tr hx) fun _ _ _ h => h)) (by exact (VV.out.kept byteEl_k (K2.out.tr hx) fun _ _ _ h => h)) OK.out.2.1.2.1 OK.out.2.1.2.2).mono ?_
        rintro e w3 ⟨rfl, k3⟩
        exact hK.out _ k3
      (try simp only [Act.put, List.setIfInBounds_toArray, List.set_cons_zero, List.set_cons_succ])
      repeat (refine SeqL.val (v := ?_) hS rfl (by rfl) (fun wx hSw => ?_) ?_; rotate_left; (focus ((try dsimp only at hSw); go_simp; (try with_reducible rfl))); (try simp only [Act.put, List.setIfInBounds_toArray, List.set_cons_zero, List.set_cons_succ]))
      refine SeqL.nil fun wz hz hh => ?_
      have KZ := Lib.hid (K2.out.tr hz)
      clear hh hS e0 e1 em hz
      go_wp2
      go_ret2
      refine ⟨?_, KZ.out⟩
      rw [CUT.out]
      have z1 := Tr.cut_size l low false [] false
      have z2 := Tr.cut_size r [] false high true
      have z3 := SZ.out
      simp only [Tr.size] at z3
      have e1 : IntKind.i64.wrap (IntKind.i64.wrap (((l.cut low false [] false).size : Int) + 1) + ((r.cut [] false high true).size : Int)) = (((Tr.nd (l.cut low false [] false) k v (r.cut [] false high true)).size : Nat) : Int) := by
        rw [IntWalk.i64_in (_ + 1) ⟨by omega, by omega⟩, IntWalk.i64_in _ ⟨by omega, by omega⟩]
        simp only [Tr.size]
        omega
      rw [← e1]
      rfl)
        · have T2 := Lib.hid (show (decide (0 ≤ cmpS k high)) = true from decide_eq_true (cmpS_ge hc))
          have CUT := Lib.hid (show (Tr.nd l k v r).cut low false high true = l.cut low false high true by simp [Tr.cut, hc])
          clear hc
          go_enter Try.func160, Try.ntmps160
          go_wp2_with fail
          refine (byCompare_calls KV.out H2.out).mono ?_
          rintro e w ⟨rfl, rfl⟩
          have tT2 := T2.out
          go_wp2_with fail
          refine (IL.out pl Sl D1 D2 _ _ low high false true w L.out HM.out OK.out.1 SZL.out (by exact H1.out) (by exact H2.out)).mono ?_
          rintro e w1 ⟨rfl, k1⟩
          go_wp2
          go_ret2
          exact ⟨by rw [CUT.out]; rfl, k1⟩
    | true =>
      by_cases hd : cmpB k low < 0
      · have T1 := Lib.hid (show (decide (cmpS k low < 0)) = true from decide_eq_true (cmpS_lt hd))
        cases tt with
        | false =>
          have CUT := Lib.hid (show (Tr.nd l k v r).cut low true high false = r.cut low true high false by simp [Tr.cut, hd])
          clear hd
          go_enter Try.func160, Try.ntmps160
          go_wp2_with fail
          refine (byCompare_calls KV.out H1.out).mono ?_
          rintro e w ⟨rfl, rfl⟩
          have tT1 := T1.out
          go_wp2_with fail
          refine (IR.out pr Sr D1 D2 _ _ low high true false w R.out HM.out OK.out.2.2 SZR.out (by exact H1.out) (by exact H2.out)).mono ?_
          rintro e w1 ⟨rfl, k1⟩
          go_wp2
          go_ret2
          exact ⟨by rw [CUT.out]; rfl, k1⟩
        | true =>
          have CUT := Lib.hid (show (Tr.nd l k v r).cut low true high true = r.cut low true high true by simp [Tr.cut, hd])
          clear hd
          go_enter Try.func160, Try.ntmps160
          go_wp2_with fail
          refine (byCompare_calls KV.out H1.out).mono ?_
          rintro e w ⟨rfl, rfl⟩
          have tT1 := T1.out
          go_wp2_with fail
          refine (IR.out pr Sr D1 D2 _ _ low high true true w R.out HM.out OK.out.2.2 SZR.out (by exact H1.out) (by exact H2.out)).mono ?_
          rintro e w1 ⟨rfl, k1⟩
          go_wp2
          go_ret2
          exact ⟨by rw [CUT.out]; rfl, k1⟩
      · have T1 := Lib.hid (show (decide (cmpS k low < 0)) = false from decide_eq_false (by have := cmpS_ge hd; omega))
        cases tt with
        | false =>
          have CUT := Lib.hid (show (Tr.nd l k v r).cut low true high false = .nd (l.cut low true [] false) k v (r.cut [] false high false) by simp [Tr.cut, hd])
          clear hd
          go_enter Try.func160, Try.ntmps160
          go_wp2_with fail
          refine (byCompare_calls KV.out H1.out).mono ?_
          rintro e w ⟨rfl, rfl⟩
          have tT1 := T1.out
          go_wp2_with fail
          (
      refine (IL.out pl Sl D1 Noneof _ _ low [] _ false w L.out HM.out OK.out.1 SZL.out (by exact H1.out) (BV.nil _ _)).mono ?_
      rintro e w1 ⟨rfl, k1⟩
      have K1 := Lib.hid k1
      have d0 := k1.cell (p := ⟨b, 0, none⟩) (fun h => h) c0
      have d1 := k1.cell (p := ⟨b, 1, none⟩) (fun h => h) c1
      have d4 := k1.cell (p := ⟨b, 4, none⟩) (fun h => h) c4
      clear c0 c1 c3 c4 k1
      go_wp2_with fail
      refine (IR.out pr Sr Noneof D2 _ _ [] high false _ w1 (R.out.kept K1.out (fun _ _ _ h => h) fun _ _ h => h) (K1.out.cell (fun h => h) HM.out) OK.out.2.2 SZR.out (BV.nil _ _) (by exact H2.out.kept byteEl_k K1.out fun _ _ _ h => h)).mono ?_
      rintro e w2 ⟨rfl, k2⟩
      have K2 := Lib.hid (K1.out.tr k2)
      have e0 := k2.cell (p := ⟨b, 0, none⟩) (fun h => h) d0
      have e1 := k2.cell (p := ⟨b, 1, none⟩) (fun h => h) d1
      have em := K2.out.cell (p := ⟨m, 1, none⟩) (fun h => h) HM.out
      clear d0 d1 d4 k2 hm
      go_wp2
      refine wp_region_kept 21 [(18, .con (.int .u64 (mark seed ((l.cut low true [] false).dg seed) k v ((r.cut [] false high false).dg seed))))] Noneof (by kernel_rfl) (by kernel_rfl) (by kernel_rfl) ?_; simp only [List.take_succ_cons, List.take_zero, List.drop_succ_cons, List.drop_zero]
      have hS : ∀ w', Kept Noneof w2 w' → w'.cell? ⟨m, 1, none⟩ = some (.int .u64 seed) ∧ w'.cell? ⟨b, 0, none⟩ = some kv ∧ w'.cell? ⟨b, 1, none⟩ = some vv := fun w' k => ⟨k.cell (fun h => h) em, k.cell (fun h => h) e0, k.cell (fun h => h) e1⟩
      iterate 18 (refine SeqL.val (v := ?_) hS rfl (by rfl) (fun wx hSw => ?_) ?_; rotate_left; (focus ((try dsimp only at hSw); go_simp; (try with_reducible rfl))); (try simp only [Act.put, List.setIfInBounds_toArray, List.set_cons_zero, List.set_cons_succ]))
      refine SeqL.con rfl rfl (by rfl) (by rfl) (fun wx hx hh K hK => ?_) ?_
      · go_simp
        refine (ordigestOf_calls (seed := seed) (Tr.dg_u64 _ _) (Tr.dg_u64 _ _) (by exact (KV.out.kept byteEl_k (K2.out.tr hx) fun _ _ _ h => h)) (by exact (VV.out.kept byteEl_k (K2.out.tr hx) fun _ _ _ h => h)) OK.out.2.1.2.1 OK.out.2.1.2.2).mono ?_
        rintro e w3 ⟨rfl, k3⟩
        exact hK.out _ k3
      (try simp only [Act.put, List.setIfInBounds_toArray, List.set_cons_zero, List.set_cons_succ])
      repeat (refine SeqL.val (v := ?_) hS rfl (by rfl) (fun wx hSw => ?_) ?_; rotate_left; (focus ((try dsimp only at hSw); go_simp; (try with_reducible rfl))); (try simp only [Act.put, List.setIfInBounds_toArray, List.set_cons_zero, List.set_cons_succ]))
      refine SeqL.nil fun wz hz hh => ?_
      have KZ := Lib.hid (K2.out.tr hz)
      clear hh hS e0 e1 em hz
      go_wp2
      go_ret2
      refine ⟨?_, KZ.out⟩
      rw [CUT.out]
      have z1 := Tr.cut_size l low true [] false
      have z2 := Tr.cut_size r [] false high false
      have z3 := SZ.out
      simp only [Tr.size] at z3
      have e1 : IntKind.i64.wrap (IntKind.i64.wrap (((l.cut low true [] false).size : Int) + 1) + ((r.cut [] false high false).size : Int)) = (((Tr.nd (l.cut low true [] false) k v (r.cut [] false high false)).size : Nat) : Int) := by
        rw [IntWalk.i64_in (_ + 1) ⟨by omega, by omega⟩, IntWalk.i64_in _ ⟨by omega, by omega⟩]
        simp only [Tr.size]
        omega
      rw [← e1]
      rfl)
        | true =>
          by_cases hc : cmpB k high < 0
          · have T2 := Lib.hid (show (decide (0 ≤ cmpS k high)) = false from decide_eq_false (by have := cmpS_lt hc; omega))
            have CUT := Lib.hid (show (Tr.nd l k v r).cut low true high true = .nd (l.cut low true [] false) k v (r.cut [] false high true) by simp [Tr.cut, hc, hd])
            clear hc hd
            go_enter Try.func160, Try.ntmps160
            go_wp2_with fail
            refine (byCompare_calls KV.out H1.out).mono ?_
            rintro e w ⟨rfl, rfl⟩
            have tT1 := T1.out
            go_wp2_with fail
            refine (byCompare_calls KV.out H2.out).mono ?_
            rintro e w ⟨rfl, rfl⟩
            have tT2 := T2.out
            go_wp2_with fail
            
            (
      refine (IL.out pl Sl D1 Noneof _ _ low [] _ false w L.out HM.out OK.out.1 SZL.out (by exact H1.out) (BV.nil _ _)).mono ?_
      rintro e w1 ⟨rfl, k1⟩
      have K1 := Lib.hid k1
      have d0 := k1.cell (p := ⟨b, 0, none⟩) (fun h => h) c0
      have d1 := k1.cell (p := ⟨b, 1, none⟩) (fun h => h) c1
      have d4 := k1.cell (p := ⟨b, 4, none⟩) (fun h => h) c4
      clear c0 c1 c3 c4 k1
      go_wp2_with fail
      refine (IR.out pr Sr Noneof D2 _ _ [] high false _ w1 (R.out.kept K1.out (fun _ _ _ h => h) fun _ _ h => h) (K1.out.cell (fun h => h) HM.out) OK.out.2.2 SZR.out (BV.nil _ _) (by exact H2.out.kept byteEl_k K1.out fun _ _ _ h => h)).mono ?_
      rintro e w2 ⟨rfl, k2⟩
      have K2 := Lib.hid (K1.out.tr k2)
      have e0 := k2.cell (p := ⟨b, 0, none⟩) (fun h => h) d0
      have e1 := k2.cell (p := ⟨b, 1, none⟩) (fun h => h) d1
      have em := K2.out.cell (p := ⟨m, 1, none⟩) (fun h => h) HM.out
      clear d0 d1 d4 k2 hm
      go_wp2
      refine wp_region_kept 21 [(18, .con (.int .u64 (mark seed ((l.cut low true [] false).dg seed) k v ((r.cut [] false high true).dg seed))))] Noneof (by kernel_rfl) (by kernel_rfl) (by kernel_rfl) ?_; simp only [List.take_succ_cons, List.take_zero, List.drop_succ_cons, List.drop_zero]
      have hS : ∀ w', Kept Noneof w2 w' → w'.cell? ⟨m, 1, none⟩ = some (.int .u64 seed) ∧ w'.cell? ⟨b, 0, none⟩ = some kv ∧ w'.cell? ⟨b, 1, none⟩ = some vv := fun w' k => ⟨k.cell (fun h => h) em, k.cell (fun h => h) e0, k.cell (fun h => h) e1⟩
      iterate 18 (refine SeqL.val (v := ?_) hS rfl (by rfl) (fun wx hSw => ?_) ?_; rotate_left; (focus ((try dsimp only at hSw); go_simp; (try with_reducible rfl))); (try simp only [Act.put, List.setIfInBounds_toArray, List.set_cons_zero, List.set_cons_succ]))
      refine SeqL.con rfl rfl (by rfl) (by rfl) (fun wx hx hh K hK => ?_) ?_
      · go_simp
        refine (ordigestOf_calls (seed := seed) (Tr.dg_u64 _ _) (Tr.dg_u64 _ _) (by exact (KV.out.kept byteEl_k (K2.out.tr hx) fun _ _ _ h => h)) (by exact (VV.out.kept byteEl_k (K2.out.tr hx) fun _ _ _ h => h)) OK.out.2.1.2.1 OK.out.2.1.2.2).mono ?_
        rintro e w3 ⟨rfl, k3⟩
        exact hK.out _ k3
      (try simp only [Act.put, List.setIfInBounds_toArray, List.set_cons_zero, List.set_cons_succ])
      repeat (refine SeqL.val (v := ?_) hS rfl (by rfl) (fun wx hSw => ?_) ?_; rotate_left; (focus ((try dsimp only at hSw); go_simp; (try with_reducible rfl))); (try simp only [Act.put, List.setIfInBounds_toArray, List.set_cons_zero, List.set_cons_succ]))
      refine SeqL.nil fun wz hz hh => ?_
      have KZ := Lib.hid (K2.out.tr hz)
      clear hh hS e0 e1 em hz
      go_wp2
      go_ret2
      refine ⟨?_, KZ.out⟩
      rw [CUT.out]
      have z1 := Tr.cut_size l low true [] false
      have z2 := Tr.cut_size r [] false high true
      have z3 := SZ.out
      simp only [Tr.size] at z3
      have e1 : IntKind.i64.wrap (IntKind.i64.wrap (((l.cut low true [] false).size : Int) + 1) + ((r.cut [] false high true).size : Int)) = (((Tr.nd (l.cut low true [] false) k v (r.cut [] false high true)).size : Nat) : Int) := by
        rw [IntWalk.i64_in (_ + 1) ⟨by omega, by omega⟩, IntWalk.i64_in _ ⟨by omega, by omega⟩]
        simp only [Tr.size]
        omega
      rw [← e1]
      rfl)
          · have T2 := Lib.hid (show (decide (0 ≤ cmpS k high)) = true from decide_eq_true (cmpS_ge hc))
            have CUT := Lib.hid (show (Tr.nd l k v r).cut low true high true = l.cut low true high true by simp [Tr.cut, hc, hd])
            clear hc hd
            go_enter Try.func160, Try.ntmps160
            go_wp2_with fail
            refine (byCompare_calls KV.out H1.out).mono ?_
            rintro e w ⟨rfl, rfl⟩
            have tT1 := T1.out
            go_wp2_with fail
            refine (byCompare_calls KV.out H2.out).mono ?_
            rintro e w ⟨rfl, rfl⟩
            have tT2 := T2.out
            go_wp2_with fail
            refine (IL.out pl Sl D1 D2 _ _ low high true true w L.out HM.out OK.out.1 SZL.out (by exact H1.out) (by exact H2.out)).mono ?_
            rintro e w1 ⟨rfl, k1⟩
            go_wp2
            go_ret2
            exact ⟨by rw [CUT.out]; rfl, k1⟩

theorem orSpanDigest_calls {seed : Int} {w : World} {m : Nat} {t : Tr} {F D1 D2 : Nat → Prop} {lo hi : Value} {low high : Bts} {tt : Bool} (h : MapAt seed w m t F) (h1 : BV D1 w lo low) (h2 : BV D2 w hi high) :
    Calls Try.prog 118 #[.pointer (some ⟨m, 0, none⟩), lo, hi, .bool tt] w fun e w' => e = .returned (.tuple #[.int .i64 ((t.cut low true high tt).size : Int), .int .u64 ((t.cut low true high tt).dg seed)]) ∧ Kept Noneof w w' := by
  have H := Lib.hid h
  have H1 := Lib.hid h1
  have H2 := Lib.hid h2
  obtain ⟨p, S, D, hm⟩ := h
  have c2 := hm.c2
  have HM := Lib.hid hm
  obtain ⟨a1, c1', rfl, _, _, _⟩ := h1
  obtain ⟨a2, c2', rfl, _, _, _⟩ := h2
  clear hm
  go_enter Try.func118, Try.ntmps118
  go_wp2_with fail
  refine (orreal_calls H.out).mono ?_
  rintro e w ⟨rfl, rfl⟩
  go_wp2_with fail
  refine (orpart_calls t p S D1 D2 _ _ low high true tt w HM.out.ht HM.out.c1 HM.out.ok (by have := HM.out.sz; omega) (by exact H1.out) (by exact H2.out)).mono ?_
  rintro e w1 ⟨rfl, k1⟩
  go_wp2
  go_ret2
  exact ⟨rfl, k1⟩
end Go.Proofs.Ytaopjdjbpamhhaa
