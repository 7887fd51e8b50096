/- Proved: contracts of swap's span.has and span.parts. Conditions: bytes in memory. -/
import Derived.Test.YtaopjdjbpamhhaaMapB
import Derived.Test.YtaopjdjbpamhhaaLaw2
namespace Go.Proofs.Ytaopjdjbpamhhaa
open Go Go.RowKit
set_option linter.unusedVariables false
set_option linter.unusedSimpArgs false

set_option maxHeartbeats 1000000 in
theorem swspan_has_calls {D1 D2 D3 : Nat → Prop} {lo hi kv : Value} {low high key : Bts} {bd : Bool} {w : World} (h1 : BV D1 w lo low) (h2 : BV D2 w hi high) (h3 : BV D3 w kv key) :
    Calls Try.prog 162 #[.agg #[lo, hi, .bool bd], kv] w fun e w' => e = .returned (.bool (inS low true high bd (key, []))) ∧ Kept Noneof w w' := by
  have H1 := Lib.hid h1
  have H2 := Lib.hid h2
  have H3 := Lib.hid h3
  obtain ⟨a1, c1, rfl, _⟩ := h1
  obtain ⟨a2, c2, rfl, _⟩ := h2
  obtain ⟨a3, c3, rfl, _⟩ := h3
  have e1 : decide (0 ≤ cmpS key low) = !decide (cmpB key low < 0) := by
    by_cases h : cmpB key low < 0
    · have := cmpS_lt h; simp [h]; omega
    · have := cmpS_ge h; simp [h, this]
  have e2 : decide (cmpS key high < 0) = decide (cmpB key high < 0) := by
    by_cases h : cmpB key high < 0
    · have := cmpS_lt h; simp [h, this]
    · have := cmpS_ge h; simp [h]; omega
  have E1 := Lib.hid e1
  have E2 := Lib.hid e2
  clear e1 e2
  go_enter Try.func162, Try.ntmps162
  go_wp2_with fail
  have G1 := heap_alloc_new w (.cells #[.slice a1 low.length c1, .slice a2 high.length c2, .bool bd] 170)
  have K1 := Lib.hid ((Kept.refl Noneof w).alloc (.cells #[.slice a1 low.length c1, .slice a2 high.length c2, .bool bd] 170))
  generalize w.alloc (.cells #[.slice a1 low.length c1, .slice a2 high.length c2, .bool bd] 170) = w1 at *
  have d1 : w1.cell? ⟨w.heap.size, 1, none⟩ = some (.slice a2 high.length c2) := by simp [World.cell?, G1]
  have d2 : w1.cell? ⟨w.heap.size, 2, none⟩ = some (.bool bd) := by simp [World.cell?, G1]
  clear G1
  refine (byCompare_calls (H3.out.kept byteEl_k K1.out fun _ _ _ h => h) (H1.out.kept byteEl_k K1.out fun _ _ _ h => h)).mono ?_
  rintro e w2 ⟨rfl, rfl⟩
  by_cases hc : cmpB key low < 0
  · have t1 : decide (0 ≤ cmpS key low) = false := by rw [E1.out]; simp [hc]
    go_wp2
    go_ret
    exact ⟨by simp [inS, hc], K1.out⟩
  · have t1 : decide (0 ≤ cmpS key low) = true := by rw [E1.out]; simp [hc]
    cases bd with
    | false =>
      go_wp2
      go_ret
      exact ⟨by simp [inS, hc], K1.out⟩
    | true =>
      go_wp2_with fail
      refine (byCompare_calls (H3.out.kept byteEl_k K1.out fun _ _ _ h => h) (H2.out.kept byteEl_k K1.out fun _ _ _ h => h)).mono ?_
      rintro e w2 ⟨rfl, rfl⟩
      have t2 := E2.out
      go_wp2
      go_ret
      exact ⟨by simp [inS, hc], K1.out⟩

end Go.Proofs.Ytaopjdjbpamhhaa
