/- Proved: contracts of layer 7's law functions few, sorted, filled. Conditions: pairs in memory. -/
import Derived.Test.YtaopjdjbpamhhaaSwp8
namespace Go.Proofs.Ytaopjdjbpamhhaa
open Go Go.RowKit
set_option linter.unusedVariables false
set_option linter.unusedSimpArgs false

def fewK (l : List (Bts × Bts)) : Bool := decide (l.length ≤ 60) && l.all fun p => allowedK p.1 p.2
set_option maxRecDepth 100000 in
set_option maxHeartbeats 1000000 in
theorem l7few_calls {D : Nat → Prop} {w : World} {v : Value} {l : List (Bts × Bts)} (h : SV pairEl D w v l) :
    Calls Try.prog 54 #[v] w fun e w' => e = .returned (.bool (fewK l)) ∧ Kept Noneof w w' := by
  obtain ⟨a, c, rfl, _, m, rd⟩ := h
  have RD := Lib.hid rd
  clear rd
  go_enter Try.func54, Try.ntmps54
  by_cases h60 : l.length ≤ 60
  · go_wp2
    go_loopw [10] (fun i wr => ∃ n : Nat, n ≤ l.length ∧ i = .int .i64 n ∧ Hid (∀ p ∈ l.take n, allowedK p.1 p.2 = true) ∧ Hid (Kept Noneof w wr)) (fun i _ => l.length - (intOf i).toNat)
    case atStart => exact ⟨0, Nat.zero_le _, rfl, Lib.hid (by simp), Lib.hid (Kept.refl _ _)⟩
    case round =>
      obtain ⟨n, hn, rfl, ha, kw⟩ := hrel
      by_cases hl : n < l.length
      · have rd := RD.out.kept pairEl_k kw.out fun _ _ _ h => h
        obtain ⟨b1, o1, uk, uv, rfl, hDb, g0, g1, hkv, hvv⟩ := Rd.pair rd hl
        have HKV := Lib.hid hkv
        have HVV := Lib.hid hvv
        obtain ⟨a7, c7, rfl, _⟩ := id hkv
        obtain ⟨a8, c8, rfl, _⟩ := id hvv
        have KA := Lib.hid ((Kept.refl Noneof wr).alloc (.cells #[.slice a7 l[n].1.length c7, .slice a8 l[n].2.length c8] 70))
        clear rd hkv hvv
        go_wp2_with fail
        refine (r2Allowed_calls (HKV.out.kept byteEl_k KA.out fun _ _ _ h => h) (HVV.out.kept byteEl_k KA.out fun _ _ _ h => h)).mono ?_
        rintro e w7 ⟨rfl, hw⟩
        have kw7 := Lib.hid ((kw.out.tr KA.out).drewn hw)
        clear hw
        cases hal : allowedK l[n].1 l[n].2
        · go_wp2
          go_ret
          exact ⟨ret_bool (by
            have : l.all (fun p => allowedK p.1 p.2) = false := by
              rw [List.all_eq_false]
              exact ⟨l[n], List.getElem_mem hl, by rw [hal]; simp⟩
            simp [fewK, this]), kw7.out⟩
        · have ha2 := Lib.hid (show ∀ p ∈ l.take (n + 1), allowedK p.1 p.2 = true from fun p hp => by
            rw [List.take_add_one, List.getElem?_eq_getElem hl] at hp
            simp only [Option.toList_some, List.mem_append, List.mem_singleton] at hp
            rcases hp with hp | rfl
            · exact ha.out p hp
            · exact hal)
          go_wp2
          go_roundw
          case rel => exact ⟨n + 1, by omega, by go_num, ha2, kw7⟩
          case measure => simp [intOf]; omega
      · obtain rfl : n = l.length := by omega
        go_wp2
        go_ret
        exact ⟨ret_bool (by have := ha.out; rw [List.take_length] at this; simp [fewK, h60, List.all_eq_true.2 this]), kw.out⟩
  · go_wp2
    go_ret
    exact ⟨ret_bool (by simp [fewK, h60]), Kept.refl _ _⟩

/-- The pairs of a map into which some were put. -/
def sortedL (l : List (Bts × Bts)) : List (Bts × Bts) := l.foldl (fun out p => putK out p.1 p.2) []
theorem sortedL_succ (l : List (Bts × Bts)) (n : Nat) (h : n < l.length) : sortedL (l.take (n + 1)) = putK (sortedL (l.take n)) l[n].1 l[n].2 := by
  unfold sortedL
  rw [List.take_add_one, List.getElem?_eq_getElem h, List.foldl_append]
  rfl
end Go.Proofs.Ytaopjdjbpamhhaa
