/- Proved: contract of layer 7's law function sorted. Conditions: few pairs in memory. -/
import Derived.Test.YtaopjdjbpamhhaaSl3
namespace Go.Proofs.Ytaopjdjbpamhhaa
open Go Go.RowKit
set_option linter.unusedVariables false
set_option linter.unusedSimpArgs false

theorem ins_len : ∀ (l : List (Bts × Bts)) (k v : Bts), (ins l k v).length ≤ l.length + 1
  | [], _, _ => by simp [ins]
  | p :: l, k, v => by
    have h := ins_len l k v
    rw [ins]
    split
    · simp only [List.length_cons]; omega
    · split <;> simp
theorem sortedL_len (l : List (Bts × Bts)) : ∀ n, n ≤ l.length → (sortedL (l.take n)).length ≤ n
  | 0, _ => by simp [sortedL]
  | n + 1, h => by
    have ih := sortedL_len l n (by omega)
    rw [sortedL_succ l n (by omega), putK_ins]
    exact Nat.le_trans (ins_len _ _ _) (by omega)
set_option maxRecDepth 100000 in
set_option maxHeartbeats 1000000 in
theorem l7sorted_calls {D : Nat → Prop} {w : World} {v : Value} {l : List (Bts × Bts)} (h : SV pairEl D w v l) (hf : l.length ≤ 60) :
    Calls Try.prog 58 #[v] w fun e w' => ∃ v', e = .returned v' ∧ SV pairEl (fun b => w.heap.size ≤ b) w' v' (sortedL l) ∧ Kept Noneof w w' := by
  obtain ⟨a, c, rfl, _, m, rd⟩ := h
  have RD := Lib.hid rd
  have HF := Lib.hid hf
  clear rd hf
  go_enter Try.func58, Try.ntmps58
  go_wp2
  go_loopw [3, 8] (fun o i wr => ∃ n : Nat, n ≤ l.length ∧ i = .int .i64 n ∧ SV pairEl (fun b => w.heap.size ≤ b) wr o (sortedL (l.take n)) ∧ Hid (Kept Noneof w wr)) (fun _ i _ => l.length - (intOf i).toNat)
  case atStart => exact ⟨0, Nat.zero_le _, rfl, ⟨none, 0, rfl, ⟨Nat.le_refl _, fun _ => rfl⟩, by simp [sortedL], Rd.nil _ _ _ _⟩, Lib.hid (Kept.refl _ _)⟩
  case round =>
    obtain ⟨n, hn, rfl, ho, kw⟩ := hrel
    have HO := Lib.hid ho
    obtain ⟨ao, co, hov, _⟩ := id ho
    subst hov
    clear ho
    by_cases hl : n < l.length
    · have rd := RD.out.kept pairEl_k kw.out fun _ _ _ h => h
      obtain ⟨b1, o1, uk, uv, rfl, hDb, g0, g1, hkv, hvv⟩ := Rd.pair rd hl
      have HKV := Lib.hid hkv
      have HVV := Lib.hid hvv
      obtain ⟨a7, c7, rfl, _⟩ := id hkv
      obtain ⟨a8, c8, rfl, _⟩ := id hvv
      have KA := Lib.hid ((Kept.refl Noneof wr).alloc (.cells #[.slice a7 l[n].1.length c7, .slice a8 l[n].2.length c8] 70))
      have hps : (sortedL (l.take n)).length ≤ 100000000 := by have := sortedL_len l n hn; have := HF.out; omega
      have HPS := Lib.hid hps
      generalize hL : sortedL (l.take n) = L at *
      clear rd hkv hvv hps
      go_wp2_with fail
      refine (r2Put_calls (HO.out.kept pairEl_k KA.out fun _ _ _ h => h) (HKV.out.kept byteEl_k KA.out fun _ _ _ h => h) (HVV.out.kept byteEl_k KA.out fun _ _ _ h => h) HPS.out).mono ?_
      rintro e w7 ⟨v7, rfl, o7, k7⟩
      have hs := kw.out.size
      have S7 := o7.sv.wide (D' := fun b => w.heap.size ≤ b) pairEl_k fun b h _ => by have := KA.out.size; omega
      have K7 := Lib.hid ((kw.out.tr KA.out).tr k7)
      have HS7 := Lib.hid (show SV pairEl (fun b => w.heap.size ≤ b) w7 v7 (sortedL (l.take (n + 1))) by rw [sortedL_succ l n hl, hL]; exact S7)
      obtain ⟨a9, n9, c9, rfl⟩ := o7.slice'
      clear o7 k7 S7
      go_wp2
      go_roundw
      case rel => exact ⟨n + 1, by omega, by go_num, HS7.out, K7⟩
      case measure => simp [intOf]; omega
    · obtain rfl : n = l.length := by omega
      rw [List.take_length] at *
      go_wp2
      go_ret
      exact ⟨_, rfl, HO.out, kw.out⟩
end Go.Proofs.Ytaopjdjbpamhhaa
