/- Proved: contract of the reference 07's Tall. Conditions: pairs in memory, those of a treap. -/
import Derived.Test.YtaopjdjbpamhhaaSl4
namespace Go.Proofs.Ytaopjdjbpamhhaa
open Go Go.RowKit
set_option linter.unusedVariables false
set_option linter.unusedSimpArgs false

theorem Tr.tall_size : ∀ t : Tr, t.tall ≤ t.size
  | .nil => Nat.le_refl _
  | .nd l k v r => by
    have h1 := tall_size l
    have h2 := tall_size r
    simp only [Tr.tall, Tr.size]
    omega
set_option maxRecDepth 100000 in
set_option maxHeartbeats 2000000 in
theorem r7Tall_calls {seed : Int} {D : Nat → Prop} : ∀ (t : Tr), t.good seed → t.size ≤ 1000000 → ∀ (v : Value) (w : World), SV pairEl D w v t.pairs →
    Calls Try.prog 133 #[.int .u64 seed, v] w fun e w' => e = .returned (.int .i64 t.tall) ∧ Kept Noneof w w' := by
  intro t
  induction t with
  | nil =>
    intro hg hs v w h
    have H := Lib.hid h
    obtain ⟨a, c, rfl, _⟩ := h
    go_enter Try.func133, Try.ntmps133
    go_wp2_with fail
    refine (r2Top_calls H.out).mono ?_
    rintro e w1 ⟨rfl, dw⟩
    have e0 : topI seed Tr.nil.pairs = -1 := rfl
    rw [e0]
    go_wp2
    go_ret
    exact ⟨rfl, (Kept.refl _ _).drewn dw⟩
  | nd l k v r il ir =>
    intro hg hs vv w h
    have H := Lib.hid h
    obtain ⟨a, c, rfl, ⟨hlc, _⟩, _⟩ := h
    have IL := Lib.hid (il hg.1 (by simp only [Tr.size] at hs; omega))
    have IR := Lib.hid (ir hg.2.1 (by simp only [Tr.size] at hs; omega))
    have e0 := Tr.top_pairs hg
    have hlen : (Tr.nd l k v r).pairs.length = l.size + 1 + r.size := by rw [Tr.pairs_len]; simp only [Tr.size]; omega
    have HL := Lib.hid (show SV pairEl D w (.slice a l.size c) l.pairs by
      have := H.out.take (n := l.size) (by omega)
      rwa [show (Tr.nd l k v r).pairs.take l.size = l.pairs by simp only [Tr.pairs]; rw [← Tr.pairs_len l]; exact List.take_left] at this)
    have HR := Lib.hid (show SV pairEl D w (.slice (if c = l.size + 1 then a else Option.map (fun x => x.add ((l.size + 1) * 2)) a) r.size (c - (l.size + 1))) r.pairs by
      have := H.out.drop (n := l.size + 1) (d := (l.size + 1) * 2) (by omega) rfl
      rwa [hlen, show l.size + 1 + r.size - (l.size + 1) = r.size by omega, show (Tr.nd l k v r).pairs.drop (l.size + 1) = r.pairs by simp only [Tr.pairs]; rw [← Tr.pairs_len l, List.drop_append]; simp] at this)
    rw [hlen] at hlc H ⊢
    have hc1 : l.size ≤ c := by omega
    have hc2 : l.size + 1 ≤ c := by omega
    have SZ := Lib.hid hs
    have E0 := Lib.hid e0
    have TL := Lib.hid (Nat.le_trans (Tr.tall_size l) (show l.size ≤ 1000000 by simp only [Tr.size] at hs; omega))
    have TR := Lib.hid (Nat.le_trans (Tr.tall_size r) (show r.size ≤ 1000000 by simp only [Tr.size] at hs; omega))
    have hls : l.size ≤ 1000000 := by simp only [Tr.size] at hs; omega
    clear il ir hlc e0 hs hlen
    go_enter Try.func133, Try.ntmps133
    go_wp2_with fail
    refine (r2Top_calls H.out).mono ?_
    rintro e w1 ⟨rfl, dw⟩
    rw [E0.out]
    have DW := Lib.hid dw
    clear dw
    go_wp2_with fail
    refine wp_region_chain 13 [4, 10] (fun _ => True) (by kernel_rfl) (by kernel_rfl) ?_ ?_
    · exact trivial
    simp only [List.take_succ_cons, List.take_zero, List.drop_succ_cons, List.drop_zero]
    iterate 4 (refine SeqY.val (v := ?_) (by rfl) (by rfl) (fun wx hSw => ?_) ?_; rotate_left; (focus ((try dsimp only at hSw); go_simp; (try with_reducible rfl))); (try simp only [Act.put, List.setIfInBounds_toArray, List.set_cons_zero, List.set_cons_succ]))
    refine SeqY.act (by rfl) rfl (by rfl) (by rfl) (fun K hK => ?_)
    go_simp
    refine (IL.out _ w1.drew (HL.out.at (by exact DW.out.heap))).mono ?_
    rintro e w2 ⟨rfl, k2⟩
    refine hK.out _ _ trivial ?_
    have K2 := Lib.hid (((Kept.refl Noneof w).drewn DW.out).drew.tr k2)
    clear K hK k2
    have q1 : IntKind.i64.wrap ((l.size : Int) + 1) = (l.size : Int) + 1 := IntWalk.i64_in _ ⟨by omega, by omega⟩
    have q2 : ((l.size : Int) + 1).toNat = l.size + 1 := by omega
    have q3 : (0 : Int) ≤ (l.size : Int) + 1 := by omega
    have q4 : (l.size : Int) + 1 ≤ (l.size : Int) + 1 + (r.size : Int) := by omega
    (try simp only [Act.put, List.setIfInBounds_toArray, List.set_cons_zero, List.set_cons_succ])
    iterate 5 (refine SeqY.val (v := ?_) (by rfl) (by rfl) (fun wx hSw => ?_) ?_; rotate_left; (focus ((try dsimp only at hSw); go_simp; (try with_reducible rfl))); (try simp only [Act.put, List.setIfInBounds_toArray, List.set_cons_zero, List.set_cons_succ]))
    clear q1 q2 q3 q4
    refine SeqY.act (by rfl) rfl (by rfl) (by rfl) (fun K hK => ?_)
    go_simp
    refine (IR.out _ w2 (by exact HR.out.kept pairEl_k K2.out fun _ _ _ h => h)).mono ?_
    rintro e w3 ⟨rfl, k3⟩
    refine hK.out _ _ trivial ?_
    have K3 := Lib.hid (K2.out.tr k3)
    clear K hK k3
    have t1 : (l.tall : Int) ≤ 1000000 := by have := TL.out; omega
    have t2 : (r.tall : Int) ≤ 1000000 := by have := TR.out; omega
    have w1 : IntKind.i64.wrap (1 + (l.tall : Int)) = 1 + (l.tall : Int) := IntWalk.i64_in _ ⟨by omega, by omega⟩
    have w2 : IntKind.i64.wrap (1 + (r.tall : Int)) = 1 + (r.tall : Int) := IntWalk.i64_in _ ⟨by omega, by omega⟩
    (try simp only [Act.put, List.setIfInBounds_toArray, List.set_cons_zero, List.set_cons_succ])
    (refine SeqY.val (v := ?_) (by rfl) (by rfl) (fun wx hSw => ?_) ?_; rotate_left; (focus ((try dsimp only at hSw); go_simp; (try with_reducible rfl))); (try simp only [Act.put, List.setIfInBounds_toArray, List.set_cons_zero, List.set_cons_succ]))
    (refine SeqY.val (v := ?_) (by rfl) (by rfl) (fun wx hSw => ?_) ?_; rotate_left; (focus ((try dsimp only at hSw); go_simp; (try with_reducible rfl))); (try simp only [Act.put, List.setIfInBounds_toArray, List.set_cons_zero, List.set_cons_succ]))
    refine SeqY.nil ?_
    go_wp2
    all_goals
      go_ret
      exact ⟨ret_int (by simp only [Tr.tall]; omega), K3.out⟩
end Go.Proofs.Ytaopjdjbpamhhaa
