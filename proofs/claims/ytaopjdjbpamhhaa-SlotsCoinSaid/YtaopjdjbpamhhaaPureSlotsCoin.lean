/- Proved: the coin of the program equals the coin of the reference for every seed, every tag and all bytes of length at most 100,000, and the coin of no bytes at seed 0 and tag 1 is 0x6E789E6AA1B965F4. No condition beyond the statement's own. -/
import Derived.Test.YtaopjdjbpamhhaaPSlotsCoinx1
namespace Go.Proofs.Ytaopjdjbpamhhaa.Pure
open Go.RowKit Go.Proofs.Ytaopjdjbpamhhaa.PSlotsCoin Go.Proofs.YtaopjdjbpamhhaaW.PrintWords Go.Proofs.YtaopjdjbpamhhaaW.PrintLast

theorem wrap_up {i : Int} {n : Nat} (h0 : 0 ≤ i) (h : i < (n : Int)) (hn : n ≤ 100000) : wrap64 (i + 1) = i + 1 := by
  unfold wrap64
  omega

theorem loops (l : List Int) (hn : l.length ≤ 100000) (d : Nat) : ∀ (k : Nat) (h i : Int), 0 ≤ i → i ≤ l.length → (l.length : Int) - i = d → d < k →
    ∃ r, slots_Coin.l0 k l h l (l.length : Int) i = some r ∧ amnestyref01_Coin.l0 k l h i = some r := by
  induction d with
  | zero =>
    intro k h i h0 h1 hd hk
    obtain ⟨k, rfl⟩ : ∃ m, k = m + 1 := ⟨k - 1, by omega⟩
    have hge : ¬ i < (l.length : Int) := by omega
    simp only [slots_Coin.l0, amnestyref01_Coin.l0]
    rw [if_neg hge, if_neg hge]
    exact ⟨_, rfl, rfl⟩
  | succ d ih =>
    intro k h i h0 h1 hd hk
    obtain ⟨k, rfl⟩ : ∃ m, k = m + 1 := ⟨k - 1, by omega⟩
    have hlt : i < (l.length : Int) := by omega
    simp only [slots_Coin.l0, amnestyref01_Coin.l0]
    rw [if_pos hlt, if_pos h0, if_pos hlt, if_pos hlt, if_pos h0, wrap_up h0 hlt hn]
    exact ih k _ (i + 1) (by omega) (by omega) (by omega) (by omega)

theorem empty_coin (k : Nat) : slots_Coin.f (k + 1) 0 1 ([] : List Int) = some 7960286522194355700 := by
  unfold slots_Coin.f
  simp only [slots_Coin.l0]
  rw [if_neg (by decide)]
  decide +kernel

theorem SlotsCoin : amnestylaw01_SlotsCoin.Pure := by
  intro a0 a1 l2 _ _ _ _ _
  refine ⟨l2.length + 1, ?_⟩
  unfold amnestylaw01_SlotsCoin.f
  by_cases hn : (l2.length : Int) > 100000
  · rw [if_pos hn]
  · rw [if_neg hn]
    obtain ⟨r, h1, h2⟩ := loops l2 (by omega) l2.length (l2.length + 1) (IntKind.u64.wrap (a0 + (IntKind.u64.wrap ((IntKind.u64.wrap ((IntKind.u64.wrap (a1)) + 1)) * 11400714819323198485)))) 0 (by omega) (by omega) (by omega) (by omega)
    have e1 : slots_Coin.f (l2.length + 1) a0 a1 l2 = some r := h1
    have e2 : amnestyref01_Coin.f (l2.length + 1) a0 a1 l2 = some r := h2
    rw [e1, e2, empty_coin]
    simp

end Go.Proofs.Ytaopjdjbpamhhaa.Pure
