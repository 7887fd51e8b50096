/- Proved: contract of layer 7's law function filled. Conditions: few pairs in memory. -/
import Derived.Test.YtaopjdjbpamhhaaSl2
namespace Go.Proofs.Ytaopjdjbpamhhaa
open Go Go.RowKit
set_option linter.unusedVariables false
set_option linter.unusedSimpArgs false

theorem fewK_iff {l : List (Bts × Bts)} (h : fewK l = true) : l.length ≤ 60 ∧ ∀ p ∈ l, allowedK p.1 p.2 = true := by
  simp only [fewK, Bool.and_eq_true, decide_eq_true_eq, List.all_eq_true] at h
  exact h
set_option maxRecDepth 100000 in
set_option maxHeartbeats 1000000 in
theorem l7filled_calls {seed : Int} {D : Nat → Prop} {w : World} {v : Value} {l : List (Bts × Bts)} (h : SV pairEl D w v l) (hf : fewK l = true) :
    Calls Try.prog 55 #[.int .u64 seed, v] w fun e w' => ∃ m F, e = .returned (bp m) ∧ MapAt seed w' m (putAll seed .nil l) F ∧ (∀ b, F b → w.heap.size ≤ b) ∧ w.heap.size ≤ m ∧ Kept Noneof w w' := by
  obtain ⟨a, c, rfl, _, m, rd⟩ := h
  have RD := Lib.hid rd
  have HF := Lib.hid (fewK_iff hf)
  clear rd hf
  go_enter Try.func55, Try.ntmps55
  go_wp2_with fail
  refine (orNew_calls (seed := seed)).mono ?_
  rintro e w1 ⟨rfl, hm, k1, hs1⟩
  have HM := Lib.hid hm
  have K1 := Lib.hid k1
  clear hm k1 hs1
  go_wp2
  go_loopw [12] (fun i wr => ∃ (n : Nat) (F : Nat → Prop), n ≤ l.length ∧ i = .int .i64 n ∧ Hid (MapAt seed wr w.heap.size (putAll seed .nil (l.take n)) F) ∧ Hid (∀ b, F b → w.heap.size ≤ b) ∧ Hid (Kept Noneof w wr)) (fun i _ => l.length - (intOf i).toNat)
  case atStart => exact ⟨0, _, Nat.zero_le _, rfl, HM, Lib.hid (fun b h => by have h : b = w.heap.size := h; omega), K1⟩
  case round =>
    obtain ⟨n, F, hn, rfl, hm, hF, kw⟩ := hrel
    by_cases hl : n < l.length
    · have rd := RD.out.kept pairEl_k kw.out fun _ _ _ h => h
      obtain ⟨b1, o1, uk, uv, rfl, hDb, g0, g1, hkv, hvv⟩ := Rd.pair rd hl
      have HKV := Lib.hid hkv
      have HVV := Lib.hid hvv
      obtain ⟨a7, c7, rfl, _⟩ := id hkv
      obtain ⟨a8, c8, rfl, _⟩ := id hvv
      have KA := Lib.hid ((Kept.refl Noneof wr).alloc (.cells #[.slice a7 l[n].1.length c7, .slice a8 l[n].2.length c8] 70))
      have hps : (putAll seed .nil (l.take n)).size < 100000 := by
        have h1 := putAll_size seed (l.take n) .nil
        have h2 := HF.out.1
        rw [List.length_take] at h1
        simp only [Tr.size] at h1
        omega
      have HPS := Lib.hid hps
      clear rd hkv hvv hps
      go_wp2_with fail
      refine (orMapPut_ok (hm.out.kept KA.out fun _ _ h => h) (HKV.out.kept byteEl_k KA.out fun _ _ _ h => h) (HVV.out.kept byteEl_k KA.out fun _ _ _ h => h) (HF.out.2 _ (List.getElem_mem hl)) HPS.out).mono ?_
      rintro e w7 ⟨rfl, F7, hm7, k7, hF7⟩
      have hM7 := Lib.hid hm7
      have hs := kw.out.size
      have hFF := Lib.hid (show ∀ b, F7 b → w.heap.size ≤ b from fun b h => (hF7 b h).elim (hF.out b) fun h => by have := KA.out.size; omega)
      have hKK := Lib.hid (show Kept Noneof w w7 from (kw.out.tr KA.out).trans k7 fun b h => .inr (hF.out b h))
      clear hm7 hF7 k7
      go_wp2
      go_roundw
      case rel => exact ⟨n + 1, F7, by omega, by go_num, by rw [putAll_succ seed .nil l n hl]; exact hM7, hFF, hKK⟩
      case measure => simp [intOf]; omega
    · obtain rfl : n = l.length := by omega
      go_wp2
      go_ret
      exact ⟨_, F, rfl, by have := hm.out; rwa [List.take_length] at this, hF.out, Nat.le_refl _, kw.out⟩
end Go.Proofs.Ytaopjdjbpamhhaa
