/- Proved: texts of the families over slots, order and swap, joined: laws of memory and regions, contracts of functions, plain facts. Conditions: as each theorem says. -/
import Derived.Test.YtaopjdjbpamhhaaPkA
import Derived.Test.YtaopjdjbpamhhaaProg
import Derived.StillTailTactics
import Derived.Deep.RegionHeld3
import Derived.Lib.BytesEntry
import Derived.Laws.Externs
import Derived.RangeFuncNested
import Derived.RangeFuncBound
import Derived.RangeFuncCalls
import Derived.RangeFuncLeaves
import Derived.Shelf.Abstract
import Derived.Shelf.RegionOpen
import Derived.OwnWalkIn
import Derived.TacticsInMore
import Derived.LoopNIn
import Derived.LoopIn
/- Proved: contracts of the reference's functions Compare, Rank, Has, Allowed, Get, Span on lists of pairs (they only read). Conditions: what is read lies in memory. -/
namespace Go.Proofs.Ytaopjdjbpamhhaa
open Go Go.RowKit
set_option linter.unusedVariables false
set_option linter.unusedSimpArgs false

set_option maxHeartbeats 400000 in
theorem r2Compare_calls {D1 D2 : Nat → Prop} {v1 v2 : Value} {la lb : Bts} {w : World} (h1 : BV D1 w v1 la) (h2 : BV D2 w v2 lb) :
    Calls Try.prog 61 #[v1, v2] w fun e w' => e = .returned (.int .i64 (cmpB la lb)) ∧ Drew w w' := by
  obtain ⟨a1, c1, rfl, _, m1, h1⟩ := h1
  obtain ⟨a2, c2, rfl, _, m2, h2⟩ := h2
  have H1 := Lib.hid h1
  have H2 := Lib.hid h2
  clear h1 h2
  go_enter Try.func61, Try.ntmps61
  go_wp2
  go_loopw [5] (fun i w' => ∃ k : Nat, k ≤ la.length ∧ k ≤ lb.length ∧ i = .int .i64 k ∧ Hid (cmpB la lb = cmpB (la.drop k) (lb.drop k)) ∧ Drew w w') (fun i _ => la.length - (intOf i).toNat)
  case atStart => exact ⟨0, by omega, by omega, rfl, rfl, Drew.refl _⟩
  case round =>
    obtain ⟨k, hk1, hk2, rfl, HK, ⟨n, rfl⟩⟩ := hrel
    by_cases hl1 : k < la.length
    · by_cases hl2 : k < lb.length
      · obtain ⟨b1, o1, rfl, _, g1⟩ := Rd.byte H1.out hl1
        obtain ⟨b2, o2, rfl, _, g2⟩ := Rd.byte H2.out hl2
        have x1 := u8_lt la[k]
        have x2 := u8_lt lb[k]
        by_cases he : la[k] = lb[k]
        · have e1 := u8_eq he
          have HE := Lib.hid he
          clear he
          go_wp2
          go_quiet (fail)
          go_wp2
          go_roundw
          case rel => exact ⟨k + 1, by omega, by omega, by go_num, by show _ = _; rw [HK.out, cmpB_step hl1 hl2, if_pos HE.out], (by repeat (first | exact Drew.refl _ | exact ⟨_, rfl⟩ | apply Drew.step | apply Drew.one))⟩
          case measure => simp [intOf]; omega
        · have e1 := u8_ne he
          have HE := Lib.hid he
          clear he
          go_wp2
          go_quiet (fail)
          go_wp2
          go_quiet (fail)
          go_wp2
          go_ret
          exact ⟨ret_int (by rw [HK.out, cmpB_step hl1 hl2, if_neg HE.out]), (by repeat (first | exact Drew.refl _ | exact ⟨_, rfl⟩ | apply Drew.step | apply Drew.one))⟩
      · go_wp2
        go_ret
        exact ⟨ret_int (by rw [HK.out, cmpB_end hk1 hk2 (by omega)]), (by repeat (first | exact Drew.refl _ | exact ⟨_, rfl⟩ | apply Drew.step | apply Drew.one))⟩
    · go_wp2
      go_ret
      exact ⟨ret_int (by rw [HK.out, cmpB_end hk1 hk2 (by omega)]), (by repeat (first | exact Drew.refl _ | exact ⟨_, rfl⟩ | apply Drew.step | apply Drew.one))⟩

/-- How many keys at the head of a list are less than a key. -/
def rank (l : List (Bts × Bts)) (key : Bts) : Nat := (l.takeWhile fun p => decide (cmpB p.1 key < 0)).length
theorem rank_le (l : List (Bts × Bts)) (key : Bts) : rank l key ≤ l.length := by
  unfold rank
  exact List.IsPrefix.length_le (List.takeWhile_prefix _)
theorem rank_end {l : List (Bts × Bts)} {key : Bts} {k : Nat} (hk : k ≤ l.length) (h : ∀ i, i < k → ∀ hi : i < l.length, cmpB l[i].1 key < 0) (he : k = l.length ∨ ∃ hi : k < l.length, ¬ cmpB l[k].1 key < 0) : rank l key = k := by
  unfold rank
  induction l generalizing k with
  | nil => simp at hk; simp [hk]
  | cons x t ih =>
    cases k with
    | zero =>
      rcases he with he | ⟨_, he⟩
      · simp at he
      · simp at he
        simp [List.takeWhile_cons, he]
    | succ k =>
      have h0 := h 0 (by omega) (by simp)
      simp only [List.getElem_cons_zero] at h0
      have := ih (k := k) (by simpa using hk) (fun i hi hl => by have := h (i + 1) (by omega) (by simpa using hl); simpa using this)
        (by rcases he with he | ⟨h1, h2⟩
            · exact .inl (by simpa using he)
            · exact .inr ⟨by simpa using h1, by simpa using h2⟩)
      simp [List.takeWhile_cons, h0, this]

set_option maxHeartbeats 400000 in
theorem r2Rank_calls {D1 D2 : Nat → Prop} {v1 v2 : Value} {l : List (Bts × Bts)} {key : Bts} {w : World} (h1 : SV pairEl D1 w v1 l) (h2 : BV D2 w v2 key) :
    Calls Try.prog 140 #[v1, v2] w fun e w' => e = .returned (.int .i64 (rank l key)) ∧ Drew w w' := by
  have H2 := Lib.hid h2
  obtain ⟨a1, c1, rfl, _, m1, h1⟩ := h1
  have H1 := Lib.hid h1
  clear h1 h2
  go_enter Try.func140, Try.ntmps140
  go_wp2
  go_loopw [5] (fun i w' => ∃ k : Nat, k ≤ l.length ∧ i = .int .i64 k ∧ Hid (∀ i, i < k → ∀ hi : i < l.length, cmpB l[i].1 key < 0) ∧ Drew w w') (fun i _ => l.length - (intOf i).toNat)
  case atStart => exact ⟨0, by omega, rfl, fun i hi => absurd hi (by omega), Drew.refl _⟩
  case round =>
    obtain ⟨k, hk1, rfl, HK, ⟨n, rfl⟩⟩ := hrel
    by_cases hl1 : k < l.length
    · obtain ⟨b1, o1, u, v, rfl, _, g1, _, hk', _⟩ := Rd.pair H1.out hl1
      have HX := Lib.hid hk'
      clear hk'
      by_cases hc : cmpB l[k].1 key < 0
      · have HK2 := Lib.hid (show ∀ i, i < k + 1 → ∀ hi : i < l.length, cmpB l[i].1 key < 0 from fun i hi hl => by
          rcases Nat.lt_or_ge i k with h | h
          · exact HK.out i h hl
          · obtain rfl : i = k := by omega
            exact hc)
        go_wp2_with fail
        refine (r2Compare_calls (by exact SV.at HX.out rfl) (by exact SV.at H2.out rfl)).mono ?_
        rintro e w1 ⟨rfl, n1, rfl⟩
        go_wp2
        go_roundw
        case rel => exact ⟨k + 1, by omega, by go_num, HK2, (by repeat (first | exact Drew.refl _ | exact ⟨_, rfl⟩ | apply Drew.step | apply Drew.one))⟩
        case measure => simp [intOf]; omega
      · go_wp2_with fail
        refine (r2Compare_calls (by exact SV.at HX.out rfl) (by exact SV.at H2.out rfl)).mono ?_
        rintro e w1 ⟨rfl, n1, rfl⟩
        go_wp2
        go_ret
        exact ⟨ret_int (by rw [rank_end hk1 HK.out (.inr ⟨hl1, by omega⟩)]), (by repeat (first | exact Drew.refl _ | exact ⟨_, rfl⟩ | apply Drew.step | apply Drew.one))⟩
    · go_wp2
      go_ret
      exact ⟨ret_int (by rw [rank_end hk1 HK.out (.inl (by omega))]), (by repeat (first | exact Drew.refl _ | exact ⟨_, rfl⟩ | apply Drew.step | apply Drew.one))⟩

/-- Whether a key is there. -/
def hasK (l : List (Bts × Bts)) (key : Bts) : Bool := match l[rank l key]? with | some p => cmpB p.1 key == 0 | none => false
theorem hasK_lt {l : List (Bts × Bts)} {key : Bts} (h : hasK l key = true) : rank l key < l.length := by
  unfold hasK at h
  rcases Nat.lt_or_ge (rank l key) l.length with h1 | h1
  · exact h1
  · rw [List.getElem?_eq_none h1] at h; cases h
theorem hasK_at {l : List (Bts × Bts)} {key : Bts} (h : rank l key < l.length) : hasK l key = (cmpB l[rank l key].1 key == 0) := by
  unfold hasK
  rw [List.getElem?_eq_getElem h]
theorem hasK_none {l : List (Bts × Bts)} {key : Bts} (h : ¬ rank l key < l.length) : hasK l key = false := by
  unfold hasK
  rw [List.getElem?_eq_none (by omega)]

set_option maxHeartbeats 400000 in
theorem r2Has_calls {D1 D2 : Nat → Prop} {v1 v2 : Value} {l : List (Bts × Bts)} {key : Bts} {w : World} (h1 : SV pairEl D1 w v1 l) (h2 : BV D2 w v2 key) :
    Calls Try.prog 74 #[v1, v2] w fun e w' => e = .returned (.bool (hasK l key)) ∧ Drew w w' := by
  have H2 := Lib.hid h2
  have HS := Lib.hid h1
  obtain ⟨a1, c1, rfl, _, m1, h1⟩ := h1
  have H1 := Lib.hid h1
  clear h1 h2
  have hr := rank_le l key
  go_enter Try.func74, Try.ntmps74
  go_wp2_with fail
  refine (r2Rank_calls (by exact SV.at HS.out rfl) (by exact SV.at H2.out rfl)).mono ?_
  rintro e w1 ⟨rfl, n1, rfl⟩
  by_cases hl1 : rank l key < l.length
  · obtain ⟨b1, o1, u, v, rfl, _, g1, _, hk', _⟩ := Rd.pair H1.out hl1
    have HX := Lib.hid hk'
    clear hk'
    go_wp2_with fail
    refine (r2Compare_calls (by exact SV.at HX.out rfl) (by exact SV.at H2.out rfl)).mono ?_
    rintro e w1 ⟨rfl, n1, rfl⟩
    go_wp2
    go_ret
    exact ⟨ret_bool (hasK_at hl1).symm, (by repeat (first | exact Drew.refl _ | exact ⟨_, rfl⟩ | apply Drew.step | apply Drew.one))⟩
  · go_wp2
    go_ret
    exact ⟨ret_bool (hasK_none hl1).symm, (by repeat (first | exact Drew.refl _ | exact ⟨_, rfl⟩ | apply Drew.step | apply Drew.one))⟩

/-- Whether a key and a value have lengths that are allowed. -/
def allowedK (key value : Bts) : Bool := decide (1 ≤ key.length) && decide (key.length ≤ 64) && decide (value.length ≤ 1000)
theorem r2Allowed_calls {D1 D2 : Nat → Prop} {v1 v2 : Value} {key value : Bts} {w : World} (h1 : BV D1 w v1 key) (h2 : BV D2 w v2 value) :
    Calls Try.prog 114 #[v1, v2] w fun e w' => e = .returned (.bool (allowedK key value)) ∧ Drew w w' := by
  obtain ⟨a1, c1, rfl, _, _, _⟩ := h1
  obtain ⟨a2, c2, rfl, _, _, _⟩ := h2
  go_enter Try.func114, Try.ntmps114
  go_wp2
  all_goals
    go_ret
    refine ⟨ret_bool ?_, (by repeat (first | exact Drew.refl _ | exact ⟨_, rfl⟩ | apply Drew.step | apply Drew.one))⟩
    unfold allowedK
    rw [Bool.eq_iff_iff]
    simp
    try omega

/-! ### Coins -/
def coinStep (h : Int) (c : UInt8) : Int := IntKind.u64.wrap ((Go.bits .xor .u64 h ((c.toNat : Nat) : Int)) * 1099511628211)
def coinStart (seed tag : Int) : Int := IntKind.u64.wrap (seed + IntKind.u64.wrap (IntKind.u64.wrap (IntKind.u64.wrap tag + 1) * 11400714819323198485))
def coinEnd (n : Nat) (h : Int) : Int :=
  let a := Go.bits .xor .u64 h (n : Int)
  let b := IntKind.u64.wrap (Go.bits .xor .u64 a (a / 1073741824) * 13787848793156543929)
  let c := IntKind.u64.wrap (Go.bits .xor .u64 b (b / 134217728) * 10723151780598845931)
  Go.bits .xor .u64 c (c / 2147483648)
def coin (seed tag : Int) (l : Bts) : Int := coinEnd l.length (l.foldl coinStep (coinStart seed tag))
theorem coin_nat (x : UInt8) : IntKind.u64.wrap ((x.toNat : Nat) : Int) = ((x.toNat : Nat) : Int) := by
  have := x.toNat_lt
  exact IntWalk.u64_in _ ⟨by omega, by omega⟩

set_option maxHeartbeats 1000000 in
theorem slCoin_calls {D : Nat → Prop} {v : Value} {seed tag : Int} {l : Bts} {w : World} (h : BV D w v l) :
    Calls Try.prog 35 #[.int .u64 seed, .int .i64 tag, v] w fun e w' => e = .returned (.int .u64 (coin seed tag l)) ∧ Drew w w' := by
  obtain ⟨a, c, rfl, _, m, h⟩ := h
  have H := Lib.hid h
  clear h
  go_enter Try.func35, Try.ntmps35
  go_wp2
  go_loopw [7, 18] (fun v i w' => ∃ k : Nat, k ≤ l.length ∧ i = .int .i64 k ∧ v = .int .u64 ((l.take k).foldl coinStep (coinStart seed tag)) ∧ Drew w w') (fun _ i _ => l.length - (intOf i).toNat)
  case atStart => exact ⟨0, by omega, rfl, rfl, Drew.refl _⟩
  case round =>
    obtain ⟨k, hk, rfl, rfl, ⟨n, rfl⟩⟩ := hrel
    by_cases hlt : k < l.length
    · obtain ⟨b, o, rfl, _, g⟩ := Rd.byte H.out hlt
      have x1 := u8_lt l[k]
      generalize hv : (l.take k).foldl coinStep (coinStart seed tag) = v
      have HV := Lib.hid hv
      clear hv
      go_wp2
      go_roundw
      case rel => exact ⟨k + 1, by omega, by go_num, by rw [List.take_succ_eq_append_getElem hlt, List.foldl_append, HV.out]; simp only [List.foldl_cons, List.foldl_nil, coinStep, coin_nat], (by repeat (first | exact Drew.refl _ | exact ⟨_, rfl⟩ | apply Drew.step | apply Drew.one))⟩
      case measure => simp [intOf]; omega
    · have hk' : k = l.length := by omega
      subst hk'
      rw [List.take_length]
      generalize hv : l.foldl coinStep (coinStart seed tag) = v
      have HV := Lib.hid hv
      clear hv
      go_wp2
      go_ret
      refine ⟨ret_int ?_, (by repeat (first | exact Drew.refl _ | exact ⟨_, rfl⟩ | apply Drew.step | apply Drew.one))⟩
      unfold coin
      rw [HV.out]
      simp only [coinEnd]
set_option maxHeartbeats 1000000 in
theorem r1Coin_calls {D : Nat → Prop} {v : Value} {seed tag : Int} {l : Bts} {w : World} (h : BV D w v l) :
    Calls Try.prog 36 #[.int .u64 seed, .int .i64 tag, v] w fun e w' => e = .returned (.int .u64 (coin seed tag l)) ∧ Drew w w' := by
  obtain ⟨a, c, rfl, _, m, h⟩ := h
  have H := Lib.hid h
  clear h
  go_enter Try.func36, Try.ntmps36
  go_wp2
  go_loopw [7, 8] (fun v i w' => ∃ k : Nat, k ≤ l.length ∧ i = .int .i64 k ∧ v = .int .u64 ((l.take k).foldl coinStep (coinStart seed tag)) ∧ Drew w w') (fun _ i _ => l.length - (intOf i).toNat)
  case atStart => exact ⟨0, by omega, rfl, rfl, Drew.refl _⟩
  case round =>
    obtain ⟨k, hk, rfl, rfl, ⟨n, rfl⟩⟩ := hrel
    by_cases hlt : k < l.length
    · obtain ⟨b, o, rfl, _, g⟩ := Rd.byte H.out hlt
      have x1 := u8_lt l[k]
      generalize hv : (l.take k).foldl coinStep (coinStart seed tag) = v
      have HV := Lib.hid hv
      clear hv
      go_wp2
      go_roundw
      case rel => exact ⟨k + 1, by omega, by go_num, by rw [List.take_succ_eq_append_getElem hlt, List.foldl_append, HV.out]; simp only [List.foldl_cons, List.foldl_nil, coinStep, coin_nat], (by repeat (first | exact Drew.refl _ | exact ⟨_, rfl⟩ | apply Drew.step | apply Drew.one))⟩
      case measure => simp [intOf]; omega
    · have hk' : k = l.length := by omega
      subst hk'
      rw [List.take_length]
      generalize hv : l.foldl coinStep (coinStart seed tag) = v
      have HV := Lib.hid hv
      clear hv
      go_wp2
      go_ret
      refine ⟨ret_int ?_, (by repeat (first | exact Drew.refl _ | exact ⟨_, rfl⟩ | apply Drew.step | apply Drew.one))⟩
      unfold coin
      rw [HV.out]
      simp only [coinEnd]

theorem r2Height_calls {D : Nat → Prop} {v : Value} {seed : Int} {l : Bts} {w : World} (h : BV D w v l) :
    Calls Try.prog 189 #[.int .u64 seed, v] w fun e w' => e = .returned (.int .u64 (coin seed 3 l)) ∧ Drew w w' := by
  have H := Lib.hid h
  clear h
  go_enter Try.func189, Try.ntmps189
  go_wp2_with fail
  refine (r1Coin_calls H.out).mono ?_
  rintro e w1 ⟨rfl, n1, rfl⟩
  go_wp2
  go_ret
  exact ⟨rfl, (by repeat (first | exact Drew.refl _ | exact ⟨_, rfl⟩ | apply Drew.step | apply Drew.one))⟩
end Go.Proofs.Ytaopjdjbpamhhaa
/- Proved: contracts of the reference's functions that make new lists: Copy, Little, Told, Mark, Put, Drop, Get, Span. Conditions: what is read lies in memory. -/
namespace Go.Proofs.Ytaopjdjbpamhhaa
open Go Go.RowKit
set_option linter.unusedVariables false
set_option linter.unusedSimpArgs false

theorem tBytes : SlT Try.prog 31 5 1 1 (.int .u8 0) := SlT.of (by kernel_rfl) (by kernel_rfl) rfl (by decide)
theorem tPairs : SlT Try.prog 65 70 2 48 (.agg #[.slice none 0 0, .slice none 0 0]) := SlT.of (by kernel_rfl) (by kernel_rfl) rfl (by decide)

set_option maxHeartbeats 400000 in
theorem r2Copy_calls {D : Nat → Prop} {v : Value} {l : Bts} {w : World} (h : BV D w v l) :
    Calls Try.prog 163 #[v] w fun e w' => ∃ v', e = .returned v' ∧ Own 5 byteEl Noneof w.heap.size w' v' l ∧ Kept Noneof w w' := by
  have HS := Lib.hid h
  obtain ⟨a, c, rfl, _, m, _⟩ := h
  go_enter Try.func163, Try.ntmps163
  go_wp2_with (at_make; refine wl_make (E := byteEl) rfl _ _ _ rfl tBytes Noneof w.heap.size l.length .i64 .i64 _ _ rfl rfl rfl rfl 0 (fun _ => rfl) ?b1 ?b2 ?b3 ?_)
  case b1 => omega
  case b2 => omega
  case b3 => exact Nat.le_refl _
  intro w1 g hown hk hg
  have HS1 := Lib.hid (HS.out.kept byteEl_k hk fun _ _ _ h => h.elim)
  clear HS
  go_wp2_with (refine wl_copy rfl (.tmp 7) (.tmp 8) 31 rfl tBytes g l.length l.length _ rfl hown (by simp) _ l rfl HS1.out rfl ?_)
  intro w2 hown2 hk2
  go_wp2
  go_ret
  exact ⟨_, rfl, hown2, hk.trans hk2 (fun n hn => .inr (hn ▸ hg))⟩
/-- A number's bytes, the least one first. -/
def leI (x : Int) : Nat → Bts
  | 0 => []
  | n + 1 => UInt8.ofNat (x % 256).toNat :: leI (x / 256) n
theorem leI_len : ∀ (n : Nat) (x : Int), (leI x n).length = n
  | 0, _ => rfl
  | n + 1, x => by rw [leI, List.length_cons, leI_len n]
theorem leI_snoc : ∀ (n : Nat) (x : Int), leI x (n + 1) = leI x n ++ [UInt8.ofNat (x / 2 ^ (8 * n) % 256).toNat]
  | 0, x => by simp [leI]
  | n + 1, x => by
    rw [leI, leI_snoc n, leI, List.cons_append]
    congr 4
    rw [Int.ediv_ediv_of_nonneg (by decide), Nat.mul_add, Int.pow_add, Int.mul_comm]
    rfl
theorem u8_of (x : Int) (h : 0 ≤ x) : (((UInt8.ofNat (x % 256).toNat).toNat : Nat) : Int) = x % 256 := by
  rw [UInt8.toNat_ofNat']
  have := Int.emod_lt_of_pos x (show (0 : Int) < 256 by decide)
  have := Int.emod_nonneg x (show (256 : Int) ≠ 0 by decide)
  omega

set_option maxHeartbeats 400000 in
theorem r2Little_calls {x : Int} {n : Nat} {w : World} (h0 : 0 ≤ x) (h1 : x ≤ 18446744073709551615) (hn : n ≤ 8) :
    Calls Try.prog 173 #[.int .u64 x, .int .i64 n] w fun e w' => ∃ v', e = .returned v' ∧ Own 5 byteEl Noneof w.heap.size w' v' (leI x n) ∧ Kept Noneof w w' := by
  go_enter Try.func173, Try.ntmps173
  go_wp2
  go_loopw [5, 6] (fun v i wr => ∃ k : Nat, k ≤ n ∧ i = .int .i64 k ∧ Own 5 byteEl Noneof w.heap.size wr v (leI x k) ∧ Kept Noneof w wr) (fun _ i _ => n - (intOf i).toNat)
  case atStart => exact ⟨0, by omega, rfl, Own.nil _ _ _ _ _, Kept.refl _ _⟩
  case round =>
    obtain ⟨k, hk, rfl, hown, hkept⟩ := hrel
    by_cases hlt : k < n
    · have hx : 0 ≤ x / 2 ^ (8 * k) := Int.ediv_nonneg h0 (Int.pow_nonneg (by decide))
      have hl := leI_len k x
      go_wp2_with (at_builtin; refine wl_app_one (E := byteEl) (D := Noneof) (D' := Noneof) rfl (.tmp 12) (.tmp 18) _ rfl tBytes _ _ rfl (hown.alloc _) wr.heap.size [.int .u8 (x / 2 ^ (8 * k) % 256)] (UInt8.ofNat (x / 2 ^ (8 * k) % 256).toNat) rfl ?c1 ?c2 ?c3 ?c4 ?c5 ?c6 ?_)
      case c1 => exact ⟨_, _, heap_alloc_new _ _⟩
      case c2 => show _ = _; rw [u8_of _ hx]
      case c3 => exact fun _ h => h.elim
      case c4 => omega
      case c5 => omega
      case c6 => have := hkept.size; simp; omega
      intro v' w1 hown1 hk1 _
      rw [← leI_snoc] at hown1
      have hkw : Kept Noneof w w1 := (hkept.alloc _).trans hk1 (fun b hb => .inr (hown.lt b hb).1)
      clear hown hkept hk1 hl
      go_wp2
      go_roundw
      case rel => exact ⟨k + 1, by omega, by go_num, hown1, hkw⟩
      case measure => simp [intOf]; omega
    · obtain rfl : k = n := by omega
      go_wp2
      go_ret
      exact ⟨_, rfl, hown, hkept⟩
/-- The bytes of a pair: the length of its key, that of its value, the key, the value. -/
def told (k v : Bts) : Bts := leI k.length 1 ++ leI v.length 2 ++ k ++ v
set_option maxHeartbeats 400000 in
theorem r2Told_calls {D1 D2 : Nat → Prop} {v1 v2 : Value} {k v : Bts} {w : World} (h1 : BV D1 w v1 k) (h2 : BV D2 w v2 v) (hs : k.length + v.length ≤ 100000000) :
    Calls Try.prog 175 #[v1, v2] w fun e w' => ∃ v', e = .returned v' ∧ Own 5 byteEl Noneof w.heap.size w' v' (told k v) ∧ Kept Noneof w w' := by
  have H1 := Lib.hid h1
  have H2 := Lib.hid h2
  obtain ⟨a1, c1, rfl, _, _, _⟩ := h1
  obtain ⟨a2, c2, rfl, _, _, _⟩ := h2
  have q1 := leI_len 1 k.length
  have q2 := leI_len 2 v.length
  go_enter Try.func175, Try.ntmps175
  go_wp2_with fail
  refine (r2Little_calls (x := k.length) (n := 1) (by omega) (by omega) (by omega)).mono ?_
  rintro e w1 ⟨x1, rfl, o1, e1⟩
  have E1 := Lib.hid e1
  have O1 := Lib.hid o1
  clear e1 o1
  go_wp2_with fail
  refine (r2Little_calls (x := v.length) (n := 2) (by omega) (by omega) (by omega)).mono ?_
  rintro e w2 ⟨x2, rfl, o2, e2⟩
  have O2 := Lib.hid (O1.out.kept e2 fun _ h => h.elim)
  have E2 := Lib.hid (E1.out.trans e2 fun _ h => h.elim)
  have S2 := Lib.hid o2.sv
  clear O1 E1 o2 e2
  go_wp2_with (at_builtin; refine wl_app_bytes rfl (.tmp 10) (.tmp 14) _ rfl tBytes _ _ rfl O2.out _ _ rfl S2.out ?c4 ?c6 ?_)
  case c4 => omega
  case c6 => exact E2.out.size
  intro x3 w3 o3 e3 _
  have O3 := Lib.hid o3
  have E3 := Lib.hid (E2.out.trans e3 fun b hb => .inr (O2.out.lt b hb).1)
  clear o3 e3 O2 E2 S2
  go_wp2_with (at_builtin; refine wl_app_bytes rfl (.tmp 16) (.tmp 17) _ rfl tBytes _ _ rfl O3.out _ _ rfl (H1.out.kept byteEl_k E3.out fun _ _ _ h => h) ?c4 ?c6 ?_)
  case c4 => simp; omega
  case c6 => exact E3.out.size
  intro x4 w4 o4 e4 _
  have O4 := Lib.hid o4
  have E4 := Lib.hid (E3.out.trans e4 fun b hb => .inr (O3.out.lt b hb).1)
  clear o4 e4 O3 E3
  go_wp2_with (at_builtin; refine wl_app_bytes rfl (.tmp 19) (.tmp 20) _ rfl tBytes _ _ rfl O4.out _ _ rfl (H2.out.kept byteEl_k E4.out fun _ _ _ h => h) ?c4 ?c6 ?_)
  case c4 => simp; omega
  case c6 => exact E4.out.size
  intro x5 w5 o5 e5 _
  go_wp2
  go_ret
  exact ⟨_, rfl, o5, E4.out.trans e5 fun b hb => .inr (O4.out.lt b hb).1⟩

/-- The pairs with a pair, in the place of one with its key. -/
def putK (l : List (Bts × Bts)) (k v : Bts) : List (Bts × Bts) := l.take (rank l k) ++ [(k, v)] ++ l.drop (if hasK l k then rank l k + 1 else rank l k)

set_option maxHeartbeats 400000 in
theorem r2Put_calls {D D1 D2 : Nat → Prop} {v0 v1 v2 : Value} {l : List (Bts × Bts)} {k v : Bts} {w : World} (h0 : SV pairEl D w v0 l) (h1 : BV D1 w v1 k) (h2 : BV D2 w v2 v) (hs : l.length ≤ 100000000) :
    Calls Try.prog 123 #[v0, v1, v2] w fun e w' => ∃ v', e = .returned v' ∧ Own 70 pairEl (fun b => D b ∨ w.heap.size ≤ b) w.heap.size w' v' (putK l k v) ∧ Kept Noneof w w' := by
  have H0 := Lib.hid (h0.bd pairEl_k)
  have H1 := Lib.hid h1
  have H2 := Lib.hid h2
  have hr := rank_le l k
  obtain ⟨a0, c0, rfl, ⟨hlc, _⟩, _, _⟩ := h0
  go_enter Try.func123, Try.ntmps123
  go_wp2_with fail
  refine (r2Rank_calls (by exact SV.at H0.out rfl) (by exact SV.at H1.out rfl)).mono ?_
  rintro e w1 ⟨rfl, n1, rfl⟩
  have HD := Lib.hid (show ∀ b, (D b ∧ b < w.heap.size) → (D b ∨ w.heap.size ≤ b) from fun b h => .inl h.1)
  have hrc : rank l k ≤ c0 := by omega
  go_wp2_with (at_builtin; refine wl_app_list (E := pairEl) (D := fun b => D b ∨ w.heap.size ≤ b) rfl (.tmp 12) (.tmp 15) _ rfl tPairs _ [] rfl (Own.nil 70 pairEl _ w.heap.size _) _ _ rfl (H0.out.at rfl |>.take hr) ?c3 ?c4 ?c5 ?c6 ?_)
  case c3 => exact fun b hb hlt => ⟨HD.out b hb, fun h => by cases h⟩
  case c4 => simp; omega
  case c5 => omega
  case c6 => exact Nat.le_refl _
  intro x2 w2 o2 e2 _
  have O2 := Lib.hid o2
  have E2 := Lib.hid (show Kept Noneof w w2 from ((Kept.refl _ w).drewN n1).trans e2 fun b h => by cases h)
  clear o2 e2
  go_wp2_with fail
  refine (r2Copy_calls (H1.out.kept byteEl_k E2.out fun _ _ _ h => h)).mono ?_
  rintro e w3 ⟨x3, rfl, o3, e3⟩
  obtain ⟨a3, c3, rfl⟩ := o3.slice
  have E3 := Lib.hid (E2.out.trans e3 fun _ h => .inl h)
  have O3 := Lib.hid o3
  have O2' := Lib.hid (O2.out.kept e3 fun _ h => h.elim)
  have L2 := Lib.hid O2.out.lt
  have S3 := e3.size
  have S2 := E2.out.size
  clear o3 e3 O2
  go_wp2_with fail
  refine (r2Copy_calls (H2.out.kept byteEl_k E3.out fun _ _ _ h => h)).mono ?_
  rintro e w4 ⟨x4, rfl, o4, e4⟩
  obtain ⟨a4, c4, rfl⟩ := o4.slice
  have E4 := Lib.hid (E3.out.trans e4 fun _ h => .inl h)
  have O4 := Lib.hid o4
  have O3' := Lib.hid (O3.out.kept e4 fun _ h => h.elim)
  have O2 := Lib.hid (O2'.out.kept e4 fun _ h => h.elim)
  have S4 := e4.size
  clear o4 e4 O3 O2'
  go_wp2_with (at_builtin; refine wl_app_one (E := pairEl) (D := fun b => D b ∨ w.heap.size ≤ b) (D' := fun b => w2.heap.size ≤ b) rfl (.tmp 17) (.tmp 23) _ rfl tPairs _ _ rfl (O2.out.alloc _) w4.heap.size [.slice a3 k.length c3, .slice a4 v.length c4] (k, v) rfl ?c1 ?c2 ?c3 ?c4 ?c5 ?c6 ?_)
  case c1 => exact ⟨_, _, heap_alloc_new _ _⟩
  case c2 => exact ⟨_, _, rfl, (O3'.out.alloc _).sv.wide byteEl_k fun b hb _ => by simpa [Noneof] using hb, (O4.out.alloc _).sv.wide byteEl_k fun b hb _ => by simp [Noneof] at hb; omega⟩
  case c3 => exact fun b hb _ => ⟨.inr (by omega), fun h => by have := L2.out b h; omega⟩
  case c4 => simp; omega
  case c5 => omega
  case c6 => simp; omega
  intro x5 w5 o5 e5 _
  have O5 := Lib.hid o5
  have E5 := Lib.hid (show Kept Noneof w w5 from (E4.out.alloc _).trans e5 fun b h => .inr (L2.out b h).1)
  clear o5 e5 O2 O3' O4 E4
  go_wp2_with fail
  refine (r2Has_calls (H0.out.kept pairEl_k E5.out fun _ _ _ h => h) (H1.out.kept byteEl_k E5.out fun _ _ _ h => h)).mono ?_
  rintro e w6 ⟨rfl, n6, rfl⟩
  have L5 := Lib.hid O5.out.lt
  cases hk : hasK l k
  · have HK := Lib.hid hk
    clear hk
    go_wp2_with (at_builtin; refine wl_app_list (E := pairEl) rfl (.tmp 30) (.tmp 33) _ rfl tPairs _ _ rfl (O5.out.at rfl) _ _ rfl (((H0.out.kept pairEl_k E5.out fun _ _ _ h => h).at rfl).drop hr rfl) ?c3 ?c4 ?c5 ?c6 ?_; (case c3 => exact fun b hb hlt => ⟨HD.out b hb, fun h => by have := L5.out b h; have := hb.2; omega⟩); (case c4 => simp; omega); (case c5 => omega); (case c6 => exact E5.out.size))
    all_goals
      intro x7 w7 o7 e7 _
      go_wp2
      go_ret
      exact ⟨_, rfl, by simpa [putK, HK.out] using o7, (E5.out.drewN _).trans e7 fun b h => .inr (L5.out b h).1⟩
  · have hlt := hasK_lt hk
    have HK := Lib.hid hk
    clear hk
    go_wp2_with (at_builtin; refine wl_app_list (E := pairEl) rfl (.tmp 30) (.tmp 33) _ rfl tPairs _ _ rfl (O5.out.at rfl) _ _ rfl (((H0.out.kept pairEl_k E5.out fun _ _ _ h => h).at rfl).drop (n := rank l k + 1) (by omega) rfl) ?c3 ?c4 ?c5 ?c6 ?_; (case c3 => exact fun b hb hlt => ⟨HD.out b hb, fun h => by have := L5.out b h; have := hb.2; omega⟩); (case c4 => simp; omega); (case c5 => omega); (case c6 => exact E5.out.size))
    all_goals
      intro x7 w7 o7 e7 _
      go_wp2
      go_ret
      exact ⟨_, rfl, by simpa [putK, HK.out] using o7, (E5.out.drewN _).trans e7 fun b h => .inr (L5.out b h).1⟩
end Go.Proofs.Ytaopjdjbpamhhaa
/- Proved: contracts of the reference's functions Drop, Mark, Top, SamePairs, Get, Span. Conditions: what is read lies in memory. -/
namespace Go.Proofs.Ytaopjdjbpamhhaa
open Go Go.RowKit
set_option linter.unusedVariables false
set_option linter.unusedSimpArgs false

/-- The pairs without a key. -/
def dropK (l : List (Bts × Bts)) (k : Bts) : List (Bts × Bts) := if hasK l k then l.take (rank l k) ++ l.drop (rank l k + 1) else l
set_option maxHeartbeats 400000 in
theorem r2Drop_calls {D D1 : Nat → Prop} {v0 v1 : Value} {l : List (Bts × Bts)} {k : Bts} {w : World} (h0 : SV pairEl D w v0 l) (h1 : BV D1 w v1 k) (hs : l.length ≤ 100000000) :
    Calls Try.prog 144 #[v0, v1] w fun e w' => ∃ v', e = .returned v' ∧ SV pairEl (fun b => D b ∨ w.heap.size ≤ b) w' v' (dropK l k) ∧ Kept Noneof w w' := by
  have H0 := Lib.hid (h0.bd pairEl_k)
  have H1 := Lib.hid h1
  have hr := rank_le l k
  obtain ⟨a0, c0, rfl, ⟨hlc, _⟩, _, _⟩ := h0
  have HD := Lib.hid (show ∀ b, (D b ∧ b < w.heap.size) → (D b ∨ w.heap.size ≤ b) from fun b h => .inl h.1)
  go_enter Try.func144, Try.ntmps144
  go_wp2_with fail
  refine (r2Has_calls (by exact SV.at H0.out rfl) (by exact SV.at H1.out rfl)).mono ?_
  rintro e w1 ⟨rfl, n1, rfl⟩
  cases hk : hasK l k
  · have HK := Lib.hid hk
    clear hk
    go_wp2
    go_ret
    exact ⟨_, rfl, by simp only [dropK, HK.out]; exact (H0.out.at rfl).wide pairEl_k fun b hb _ => .inl hb.1, (Kept.refl _ w).drewN _⟩
  · have hlt := hasK_lt hk
    have HK := Lib.hid hk
    clear hk
    go_wp2_with fail
    refine (r2Rank_calls (by exact SV.at H0.out rfl) (by exact SV.at H1.out rfl)).mono ?_
    rintro e w2 ⟨rfl, n2, rfl⟩
    have hrc : rank l k ≤ c0 := by omega
    go_wp2_with (at_builtin; refine wl_app_list (E := pairEl) (D := fun b => D b ∨ w.heap.size ≤ b) rfl (.tmp 15) (.tmp 18) _ rfl tPairs _ [] rfl (Own.nil 70 pairEl _ w.heap.size _) _ _ rfl (H0.out.at rfl |>.take hr) ?c3 ?c4 ?c5 ?c6 ?_; (case c3 => exact fun b hb hlt => ⟨HD.out b hb, fun h => by cases h⟩); (case c4 => simp; omega); (case c5 => omega); (case c6 => exact Nat.le_refl _))
    intro x2 w2 o2 e2 _
    have O2 := Lib.hid o2
    have E2 := Lib.hid (show Kept Noneof w w2 from ((Kept.refl _ w).drewN _).trans e2 fun b h => by cases h)
    have L2 := Lib.hid o2.lt
    clear o2 e2
    go_wp2_with (at_builtin; refine wl_app_list (E := pairEl) rfl (.tmp 20) (.tmp 24) _ rfl tPairs _ _ rfl O2.out _ _ rfl ((H0.out.kept pairEl_k E2.out fun _ _ _ h => h).drop (n := rank l k + 1) (by omega) rfl) ?c3 ?c4 ?c5 ?c6 ?_; (case c3 => exact fun b hb hlt => ⟨HD.out b hb, fun h => by have := L2.out b h; have := hb.2; omega⟩); (case c4 => simp; omega); (case c5 => omega); (case c6 => exact E2.out.size))
    all_goals
      intro x7 w7 o7 e7 _
      go_wp2
      go_ret
      exact ⟨_, rfl, by simp only [dropK, HK.out]; exact o7.rd (fun _ h => h) fun b hb => .inr (o7.lt b hb).1, E2.out.trans e7 fun b h => .inr (L2.out b h).1⟩

/-- The bytes of which a node's digest is the coin; the digest. -/
def markB (left : Int) (k v : Bts) (right : Int) : Bts := leI left 8 ++ leI k.length 1 ++ k ++ leI v.length 2 ++ v ++ leI right 8
def mark (seed left : Int) (k v : Bts) (right : Int) : Int := coin seed 4 (markB left k v right)
abbrev isU64 (x : Int) : Prop := 0 ≤ x ∧ x ≤ 18446744073709551615

set_option maxHeartbeats 800000 in
theorem r2Mark_calls {D1 D2 : Nat → Prop} {seed left right : Int} {v1 v2 : Value} {k v : Bts} {w : World} (hl : isU64 left) (hr : isU64 right) (h1 : BV D1 w v1 k) (h2 : BV D2 w v2 v) (hs : k.length + v.length ≤ 100000000) :
    Calls Try.prog 202 #[.int .u64 seed, .int .u64 left, v1, v2, .int .u64 right] w fun e w' => e = .returned (.int .u64 (mark seed left k v right)) ∧ Kept Noneof w w' := by
  have H1 := Lib.hid h1
  have H2 := Lib.hid h2
  obtain ⟨a1, c1, rfl, _, _, _⟩ := h1
  obtain ⟨a2, c2, rfl, _, _, _⟩ := h2
  have q1 := leI_len 1 k.length
  have q2 := leI_len 2 v.length
  have q3 := leI_len 8 left
  have q4 := leI_len 8 right
  go_enter Try.func202, Try.ntmps202
  go_wp2_with fail
  refine (r2Little_calls (x := left) (n := 8) hl.1 hl.2 (by omega)).mono ?_
  rintro e w1 ⟨x1, rfl, o1, e1⟩
  have E1 := Lib.hid e1
  have O1 := Lib.hid o1
  clear e1 o1
  go_wp2_with fail
  refine (r2Little_calls (x := k.length) (n := 1) (by omega) (by omega) (by omega)).mono ?_
  rintro e w2 ⟨x2, rfl, o2, e2⟩
  have O2 := Lib.hid (O1.out.kept e2 fun _ h => h.elim)
  have E2 := Lib.hid (E1.out.trans e2 fun _ h => h.elim)
  have S2 := Lib.hid o2.sv
  clear O1 E1 o2 e2
  go_wp2_with (at_builtin; refine wl_app_bytes rfl (.tmp 14) (.tmp 18) _ rfl tBytes _ _ rfl O2.out _ _ rfl S2.out ?c4 ?c6 ?_; (case c4 => omega); (case c6 => exact E2.out.size))
  intro x3 w3 o3 e3 _
  have O3 := Lib.hid o3
  have E3 := Lib.hid (E2.out.trans e3 fun b hb => .inr (O2.out.lt b hb).1)
  clear o3 e3 O2 E2 S2
  go_wp2_with (at_builtin; refine wl_app_bytes rfl (.tmp 20) (.tmp 21) _ rfl tBytes _ _ rfl O3.out _ _ rfl (H1.out.kept byteEl_k E3.out fun _ _ _ h => h) ?c4 ?c6 ?_; (case c4 => simp; omega); (case c6 => exact E3.out.size))
  intro x4 w4 o4 e4 _
  have O4 := Lib.hid o4
  have E4 := Lib.hid (E3.out.trans e4 fun b hb => .inr (O3.out.lt b hb).1)
  clear o4 e4 O3 E3
  go_wp2_with fail
  refine (r2Little_calls (x := v.length) (n := 2) (by omega) (by omega) (by omega)).mono ?_
  rintro e w5 ⟨x5, rfl, o5, e5⟩
  have O5 := Lib.hid (O4.out.kept e5 fun _ h => h.elim)
  have E5 := Lib.hid (E4.out.trans e5 fun _ h => h.elim)
  have S5 := Lib.hid o5.sv
  clear O4 E4 o5 e5
  go_wp2_with (at_builtin; refine wl_app_bytes rfl (.tmp 23) (.tmp 27) _ rfl tBytes _ _ rfl O5.out _ _ rfl S5.out ?c4 ?c6 ?_; (case c4 => simp; omega); (case c6 => exact E5.out.size))
  intro x6 w6 o6 e6 _
  have O6 := Lib.hid o6
  have E6 := Lib.hid (E5.out.trans e6 fun b hb => .inr (O5.out.lt b hb).1)
  clear o6 e6 O5 E5 S5
  go_wp2_with (at_builtin; refine wl_app_bytes rfl (.tmp 29) (.tmp 30) _ rfl tBytes _ _ rfl O6.out _ _ rfl (H2.out.kept byteEl_k E6.out fun _ _ _ h => h) ?c4 ?c6 ?_; (case c4 => simp; omega); (case c6 => exact E6.out.size))
  intro x7 w7 o7 e7 _
  have O7 := Lib.hid o7
  have E7 := Lib.hid (E6.out.trans e7 fun b hb => .inr (O6.out.lt b hb).1)
  clear o7 e7 O6 E6
  go_wp2_with fail
  refine (r2Little_calls (x := right) (n := 8) hr.1 hr.2 (by omega)).mono ?_
  rintro e w8 ⟨x8, rfl, o8, e8⟩
  have O8 := Lib.hid (O7.out.kept e8 fun _ h => h.elim)
  have E8 := Lib.hid (E7.out.trans e8 fun _ h => h.elim)
  have S8 := Lib.hid o8.sv
  clear O7 E7 o8 e8
  go_wp2_with (at_builtin; refine wl_app_bytes rfl (.tmp 32) (.tmp 34) _ rfl tBytes _ _ rfl O8.out _ _ rfl S8.out ?c4 ?c6 ?_; (case c4 => simp; omega); (case c6 => exact E8.out.size))
  intro x9 w9 o9 e9 _
  have E9 := Lib.hid (E8.out.trans e9 fun b hb => .inr (O8.out.lt b hb).1)
  have O9 := Lib.hid o9.sv
  clear o9 e9 O8 E8 S8
  go_wp2_with fail
  refine (r1Coin_calls O9.out).mono ?_
  rintro e w10 ⟨rfl, n10, rfl⟩
  go_wp2
  go_ret
  exact ⟨ret_int (by simp [mark, markB]), E9.out.drewN _⟩

/-- The place of the pair at the root: the first of those of greatest height; -1 if there is none. Behind some pairs: the place, and the height. -/
def topStep (seed : Int) (i : Nat) (k : Bts) (s : Int × Int) : Int × Int := if s.1 < 0 ∨ s.2 < coin seed 3 k then ((i : Int), coin seed 3 k) else s
def topTo (seed : Int) (l : List (Bts × Bts)) : Nat → Int × Int
  | 0 => (-1, 0)
  | n + 1 => match l[n]? with | some p => topStep seed n p.1 (topTo seed l n) | none => topTo seed l n
def topI (seed : Int) (l : List (Bts × Bts)) : Int := (topTo seed l l.length).1
theorem topTo_succ {seed : Int} {l : List (Bts × Bts)} {n : Nat} (h : n < l.length) : topTo seed l (n + 1) = topStep seed n l[n].1 (topTo seed l n) := by
  rw [topTo, List.getElem?_eq_getElem h]
theorem topTo_lt (seed : Int) (l : List (Bts × Bts)) : ∀ n, -1 ≤ (topTo seed l n).1 ∧ (topTo seed l n).1 < n
  | 0 => by simp [topTo]
  | n + 1 => by
    have := topTo_lt seed l n
    rw [topTo]
    split
    · rw [topStep]; split <;> simp <;> omega
    · omega

set_option maxHeartbeats 400000 in
theorem r2Top_calls {D : Nat → Prop} {seed : Int} {v0 : Value} {l : List (Bts × Bts)} {w : World} (h0 : SV pairEl D w v0 l) :
    Calls Try.prog 166 #[.int .u64 seed, v0] w fun e w' => e = .returned (.int .i64 (topI seed l)) ∧ Drew w w' := by
  obtain ⟨a0, c0, rfl, ⟨hlc, _⟩, hm, h0⟩ := h0
  have H0 := Lib.hid h0
  clear h0
  go_enter Try.func166, Try.ntmps166
  go_wp2
  go_loopw [5, 6, 7] (fun b h i w' => ∃ (k : Nat) (s : Int × Int), k ≤ l.length ∧ i = .int .i64 k ∧ b = .int .i64 s.1 ∧ h = .int .u64 s.2 ∧ Hid (topTo seed l k = s) ∧ Drew w w') (fun _ _ i _ => l.length - (intOf i).toNat)
  case atStart => exact ⟨0, (-1, 0), by omega, rfl, rfl, rfl, rfl, Drew.refl _⟩
  case round =>
    obtain ⟨k, s, hk, rfl, rfl, rfl, HS, ⟨n, rfl⟩⟩ := hrel
    by_cases hlt : k < l.length
    · obtain ⟨b1, o1, u, v, rfl, _, g1, _, hk', _⟩ := Rd.pair H0.out hlt
      have HX := Lib.hid hk'
      have hb := topTo_lt seed l k
      rw [HS.out] at hb
      have HT := Lib.hid (topTo_succ (seed := seed) hlt)
      clear hk'
      go_wp2_with fail
      refine (r2Height_calls (by exact SV.at HX.out rfl)).mono ?_
      rintro e w1 ⟨rfl, n1, rfl⟩
      by_cases c1 : s.1 < 0
      · go_wp2
        go_roundw
        case rel => exact ⟨k + 1, ((k : Int), coin seed 3 l[k].1), by omega, by go_num, rfl, rfl, by show _ = _; rw [HT.out, topStep, HS.out, if_pos (.inl c1)], (by repeat (first | exact Drew.refl _ | exact ⟨_, rfl⟩ | apply Drew.step | apply Drew.one))⟩
        case measure => simp [intOf]; omega
      · by_cases c2 : s.2 < coin seed 3 l[k].1
        · go_wp2
          go_roundw
          case rel => exact ⟨k + 1, ((k : Int), coin seed 3 l[k].1), by omega, by go_num, rfl, rfl, by show _ = _; rw [HT.out, topStep, HS.out, if_pos (.inr c2)], (by repeat (first | exact Drew.refl _ | exact ⟨_, rfl⟩ | apply Drew.step | apply Drew.one))⟩
          case measure => simp [intOf]; omega
        · go_wp2
          go_roundw
          case rel => exact ⟨k + 1, s, by omega, by go_num, rfl, rfl, by show _ = _; rw [HT.out, topStep, HS.out, if_neg (by omega)], (by repeat (first | exact Drew.refl _ | exact ⟨_, rfl⟩ | apply Drew.step | apply Drew.one))⟩
          case measure => simp [intOf]; omega
    · obtain rfl : k = l.length := by omega
      go_wp2
      go_ret
      exact ⟨ret_int (by unfold topI; rw [HS.out]), (by repeat (first | exact Drew.refl _ | exact ⟨_, rfl⟩ | apply Drew.step | apply Drew.one))⟩

/-- Whether two lists have the same pairs. -/
def sameP (a b : List (Bts × Bts)) : Bool := a.length == b.length && (a.zip b).all fun p => cmpB p.1.1 p.2.1 == 0 && cmpB p.1.2 p.2.2 == 0
theorem sameP_upto {a b : List (Bts × Bts)} (hl : a.length = b.length) (h : ∀ i (h1 : i < a.length) (h2 : i < b.length), cmpB a[i].1 b[i].1 = 0 ∧ cmpB a[i].2 b[i].2 = 0) : sameP a b = true := by
  simp only [sameP, hl, beq_self_eq_true, Bool.true_and, List.all_eq_true, Bool.and_eq_true, beq_iff_eq]
  intro p hp
  obtain ⟨i, hi, rfl⟩ := List.getElem_of_mem hp
  rw [List.getElem_zip]
  have hi' : i < min a.length b.length := by simpa using hi
  exact h i (by omega) (by omega)
theorem sameP_not {a b : List (Bts × Bts)} {i : Nat} (h1 : i < a.length) (h2 : i < b.length) (h : ¬ (cmpB a[i].1 b[i].1 = 0 ∧ cmpB a[i].2 b[i].2 = 0)) : sameP a b = false := by
  rw [Bool.eq_false_iff]
  intro hs
  simp only [sameP, Bool.and_eq_true, List.all_eq_true, beq_iff_eq] at hs
  refine h (hs.2 (a[i], b[i]) ?_)
  rw [← List.getElem_zip (h := by simp; omega)]
  exact List.getElem_mem _

set_option maxHeartbeats 1000000 in
theorem r2SamePairs_calls {D1 D2 : Nat → Prop} {v1 v2 : Value} {la lb : List (Bts × Bts)} {w : World} (h1 : SV pairEl D1 w v1 la) (h2 : SV pairEl D2 w v2 lb) :
    Calls Try.prog 125 #[v1, v2] w fun e w' => e = .returned (.bool (sameP la lb)) ∧ Drew w w' := by
  obtain ⟨a1, c1, rfl, ⟨_, _⟩, m1, h1⟩ := h1
  obtain ⟨a2, c2, rfl, ⟨_, _⟩, m2, h2⟩ := h2
  have H1 := Lib.hid h1
  have H2 := Lib.hid h2
  clear h1 h2
  by_cases hl : la.length = lb.length
  case neg =>
    have hne : ((la.length : Int) != (lb.length : Int)) = true := by rw [bne_iff_ne]; omega
    have HR := Lib.hid (show sameP la lb = false by simp [sameP, hl])
    have HL := Lib.hid hl
    clear hl
    go_enter Try.func125, Try.ntmps125
    go_wp2
    go_ret
    exact ⟨ret_bool HR.out.symm, (by repeat (first | exact Drew.refl _ | exact ⟨_, rfl⟩ | apply Drew.step | apply Drew.one))⟩
  case pos =>
    have hne : ((la.length : Int) != (lb.length : Int)) = false := by rw [bne_eq_false_iff_eq]; omega
    have HL := Lib.hid hl
    clear hl
    go_enter Try.func125, Try.ntmps125
    go_wp2
    go_loopw [5] (fun i w' => ∃ k : Nat, k ≤ la.length ∧ i = .int .i64 k ∧ Hid (∀ i, i < k → ∀ (h1 : i < la.length) (h2 : i < lb.length), cmpB la[i].1 lb[i].1 = 0 ∧ cmpB la[i].2 lb[i].2 = 0) ∧ Drew w w') (fun i _ => la.length - (intOf i).toNat)
    case atStart => exact ⟨0, by omega, rfl, fun i hi => absurd hi (by omega), Drew.refl _⟩
    case round =>
      obtain ⟨k, hk, rfl, HK, ⟨n, rfl⟩⟩ := hrel
      by_cases hlt : k < la.length
      · have hlt2 : k < lb.length := by have := HL.out; omega
        obtain ⟨b1, o1, u1, x1, rfl, _, g1, g1', q1, r1⟩ := Rd.pair H1.out hlt
        obtain ⟨b2, o2, u2, x2, rfl, _, g2, g2', q2, r2⟩ := Rd.pair H2.out hlt2
        have Q1 := Lib.hid q1
        have R1 := Lib.hid r1
        have Q2 := Lib.hid q2
        have R2 := Lib.hid r2
        clear q1 r1 q2 r2
        by_cases hc : cmpB la[k].1 lb[k].1 = 0
        · have e1 : (cmpB la[k].1 lb[k].1 != 0) = false := by rw [bne_eq_false_iff_eq]; exact hc
          have HC := Lib.hid hc
          clear hc
          by_cases hd : cmpB la[k].2 lb[k].2 = 0
          · have e2 : (cmpB la[k].2 lb[k].2 != 0) = false := by rw [bne_eq_false_iff_eq]; exact hd
            have HK2 := Lib.hid (show ∀ i, i < k + 1 → ∀ (h1 : i < la.length) (h2 : i < lb.length), cmpB la[i].1 lb[i].1 = 0 ∧ cmpB la[i].2 lb[i].2 = 0 from fun i hi h1 h2 => by
              rcases Nat.lt_or_ge i k with h | h
              · exact HK.out i h h1 h2
              · obtain rfl : i = k := by omega
                exact ⟨HC.out, hd⟩)
            clear hd
            go_wp2
            go_quiet (first | ((go_at_call 61; first | exact Drew.q (r2Compare_calls (Q1.out.at rfl) (Q2.out.at rfl)) | exact Drew.qa (r2Compare_calls (Q1.out.at rfl) (Q2.out.at rfl)))) | ((go_at_call 61; first | exact Drew.q (r2Compare_calls (R1.out.at rfl) (R2.out.at rfl)) | exact Drew.qa (r2Compare_calls (R1.out.at rfl) (R2.out.at rfl)))))
            go_wp2
            go_roundw
            case rel => exact ⟨k + 1, by omega, by go_num, HK2, (by repeat (first | exact Drew.refl _ | exact ⟨_, rfl⟩ | apply Drew.step | apply Drew.one))⟩
            case measure => simp [intOf]; omega
          · have e2 : (cmpB la[k].2 lb[k].2 != 0) = true := by rw [bne_iff_ne]; exact hd
            have HR := Lib.hid (sameP_not hlt hlt2 fun h => hd h.2)
            clear hd
            go_wp2
            go_quiet (first | ((go_at_call 61; first | exact Drew.q (r2Compare_calls (Q1.out.at rfl) (Q2.out.at rfl)) | exact Drew.qa (r2Compare_calls (Q1.out.at rfl) (Q2.out.at rfl)))) | ((go_at_call 61; first | exact Drew.q (r2Compare_calls (R1.out.at rfl) (R2.out.at rfl)) | exact Drew.qa (r2Compare_calls (R1.out.at rfl) (R2.out.at rfl)))))
            go_wp2
            go_ret
            exact ⟨ret_bool HR.out.symm, (by repeat (first | exact Drew.refl _ | exact ⟨_, rfl⟩ | apply Drew.step | apply Drew.one))⟩
        · have e1 : (cmpB la[k].1 lb[k].1 != 0) = true := by rw [bne_iff_ne]; exact hc
          have HR := Lib.hid (sameP_not hlt hlt2 fun h => hc h.1)
          clear hc
          go_wp2
          go_quiet (first | ((go_at_call 61; first | exact Drew.q (r2Compare_calls (Q1.out.at rfl) (Q2.out.at rfl)) | exact Drew.qa (r2Compare_calls (Q1.out.at rfl) (Q2.out.at rfl)))))
          go_wp2
          go_ret
          exact ⟨ret_bool HR.out.symm, (by repeat (first | exact Drew.refl _ | exact ⟨_, rfl⟩ | apply Drew.step | apply Drew.one))⟩
      · have HR := Lib.hid (sameP_upto HL.out fun i h1 h2 => HK.out i (by omega) h1 h2)
        go_wp2
        go_ret
        exact ⟨ret_bool HR.out.symm, (by repeat (first | exact Drew.refl _ | exact ⟨_, rfl⟩ | apply Drew.step | apply Drew.one))⟩
end Go.Proofs.Ytaopjdjbpamhhaa
/- Proved: contracts of the map's small functions: little, digestOf, count, sum, fresh, above, side, and bytes.Compare, over nodes in memory. Conditions: keys of at most 64 bytes and values of at most 1000. -/
namespace Go.Proofs.Ytaopjdjbpamhhaa
open Go Go.RowKit
set_option linter.unusedVariables false
set_option linter.unusedSimpArgs false

/-! ### Nodes in memory -/
/-- A node with what lies below it. -/
inductive Tr where
  | nil
  | nd (l : Tr) (k v : Bts) (r : Tr)
def Tr.size : Tr → Nat
  | nil => 0
  | nd l _ _ r => 1 + l.size + r.size
def Tr.dg (seed : Int) : Tr → Int
  | nil => 0
  | nd l k v r => mark seed (l.dg seed) k v (r.dg seed)
/-- Every pair is of a length that is allowed. -/
def Tr.ok : Tr → Prop
  | nil => True
  | nd l k v r => l.ok ∧ (1 ≤ k.length ∧ k.length ≤ 64 ∧ v.length ≤ 1000) ∧ r.ok
def adr : Option Nat → Option Addr
  | none => none
  | some b => some ⟨b, 0, none⟩
abbrev ptr (p : Option Nat) : Value := .pointer (adr p)
/-- The block of a node. -/
def nodeObj (kv vv : Value) (h : Int) (l r : Option Nat) (sz dg : Int) : Obj := .cells #[kv, vv, .int .u64 h, ptr l, ptr r, .int .i64 sz, .int .u64 dg] 184
structure NodeAt (w : World) (b : Nat) (kv vv : Value) (h : Int) (l r : Option Nat) (sz dg : Int) : Prop where
  c0 : w.cell? ⟨b, 0, none⟩ = some kv
  c1 : w.cell? ⟨b, 1, none⟩ = some vv
  c2 : w.cell? ⟨b, 2, none⟩ = some (.int .u64 h)
  c3 : w.cell? ⟨b, 3, none⟩ = some (ptr l)
  c4 : w.cell? ⟨b, 4, none⟩ = some (ptr r)
  c5 : w.cell? ⟨b, 5, none⟩ = some (.int .i64 sz)
  c6 : w.cell? ⟨b, 6, none⟩ = some (.int .u64 dg)
  fr : ∀ j, w.frozen? ⟨b, j, none⟩ = false
theorem NodeAt.of {w : World} {b : Nat} {kv vv : Value} {h : Int} {l r : Option Nat} {sz dg : Int} (hb : w.heap[b]? = some (nodeObj kv vv h l r sz dg)) : NodeAt w b kv vv h l r sz dg := by
  unfold nodeObj at hb
  refine ⟨?_, ?_, ?_, ?_, ?_, ?_, ?_, fun j => ?_⟩
  all_goals simp [World.cell?, World.frozen?, hb]
theorem setCell_obj {w : World} {b j : Nat} {cs : Array Value} {t : TypeId} {f : Nat × Nat} (h : w.heap[b]? = some (.cells cs t f)) (v : Value) : (w.setCell ⟨b, j, none⟩ v).heap[b]? = some (.cells (cs.setIfInBounds j v) t f) := by
  have hlt := block_lt h
  have hv := (Array.getElem?_eq_some_iff.1 h).2
  simp only [World.setCell]
  rw [Array.getElem?_eq_getElem (by simpa using hlt), Array.getElem_modify]
  simp [hv]

theorem cell_other {w : World} {b j : Nat} {v u : Value} {p : Addr} (h : p.block ≠ b ∨ p.off ≠ j) (hc : w.cell? p = some u) : (w.setCell ⟨b, j, none⟩ v).cell? p = some u := by
  by_cases hb : p.block = b
  · have hj := h.resolve_left fun k => k hb
    subst hb
    unfold World.cell? at hc ⊢
    split at hc
    · rename_i c e f hh
      rw [setCell_obj hh]
      simp only
      by_cases hs : p.spot.isSome
      · rw [if_pos hs] at hc; cases hc
      · rw [if_neg hs] at hc ⊢
        rw [Array.getElem?_setIfInBounds_ne (Ne.symm hj)]
        exact hc
    · cases hc
  · rw [World.cell?_of_block (w := w) (Below.heap_setCell _ _ _ _ hb)]
    exact hc

/-! ### Coins lie in 64 bits -/
theorem wrap_u64 (n : Int) : isU64 (IntKind.u64.wrap n) := by
  rw [IntKind.wrap_u64]
  have := Int.emod_lt_of_pos n (show (0 : Int) < 18446744073709551616 by decide)
  have := Int.emod_nonneg n (show (18446744073709551616 : Int) ≠ 0 by decide)
  exact ⟨by omega, by omega⟩
theorem coin_u64 (seed tag : Int) (l : Bts) : isU64 (coin seed tag l) := wrap_u64 _
theorem Tr.dg_u64 (seed : Int) : ∀ t : Tr, isU64 (t.dg seed)
  | nil => by unfold Tr.dg; exact ⟨by decide, by decide⟩
  | nd l k v r => coin_u64 _ _ _

theorem byte_nat (n : Nat) (h : n < 256) : IntKind.u8.wrap (n : Int) = (n : Int) := IntWalk.u8_in _ ⟨by omega, by omega⟩
set_option maxHeartbeats 400000 in
theorem orlittle_calls {B : Nat} {v : Value} {l : Bts} {x : Int} {n : Nat} {w : World} (hown : Own 5 byteEl Noneof B w v l) (h0 : 0 ≤ x) (h1 : x ≤ 18446744073709551615) (hn : n ≤ 8) (hl : l.length ≤ 100000000) (hB : B ≤ w.heap.size) :
    Calls Try.prog 129 #[v, .int .u64 x, .int .i64 n] w fun e w' => ∃ v', e = .returned v' ∧ Own 5 byteEl Noneof B w' v' (l ++ leI x n) ∧ Kept (fun k => v.ownBlock = some k) w w' := by
  have O := Lib.hid hown
  clear hown
  go_enter Try.func129, Try.ntmps129
  go_wp2
  go_loopw [0, 1, 8] (fun s y i wr => ∃ k : Nat, k ≤ n ∧ i = .int .i64 k ∧ y = .int .u64 (x / 2 ^ (8 * k)) ∧ Hid (Own 5 byteEl Noneof B wr s (l ++ leI x k)) ∧ Hid (Kept (fun k => v.ownBlock = some k) w wr) ∧ Hid (∀ b, s.ownBlock = some b → v.ownBlock = some b ∨ w.heap.size ≤ b)) (fun _ _ i _ => n - (intOf i).toNat)
  case atStart => exact ⟨0, by omega, rfl, by simp, by show Own _ _ _ _ _ _ _; simpa [leI] using O.out, Kept.refl _ _, fun b h => .inl h⟩
  case round =>
    obtain ⟨k, hk, rfl, rfl, hown, hkept, hrow⟩ := hrel
    by_cases hlt : k < n
    · have hx : 0 ≤ x / 2 ^ (8 * k) := Int.ediv_nonneg h0 (Int.pow_nonneg (by decide))
      have hx2 : x / 2 ^ (8 * k) ≤ 18446744073709551615 := Int.le_trans (Int.ediv_le_self _ h0) h1
      have hl2 := leI_len k x
      have hs := hkept.out.size
      go_wp2_with (at_builtin; refine wl_app_one (E := byteEl) (D := Noneof) (D' := Noneof) rfl (.tmp 10) (.tmp 13) _ rfl tBytes _ _ rfl (hown.out.alloc _) _ [.int .u8 (x / 2 ^ (8 * k) % 256)] (UInt8.ofNat (x / 2 ^ (8 * k) % 256).toNat) rfl ?c1 ?c2 ?c3 ?c4 ?c5 ?c6 ?_; (case c1 => exact ⟨_, _, heap_alloc_new _ _⟩); (case c2 => show _ = _; rw [u8_of _ hx]); (case c3 => exact fun _ h => h.elim); (case c4 => simp; omega); (case c5 => omega); (case c6 => simp; omega))
      intro v' w1 hown1 hk1 hf1
      have O1 := Lib.hid (show Own 5 byteEl Noneof B w1 v' (l ++ leI x (k + 1)) by rw [leI_snoc]; exact hown1)
      have K1 := Lib.hid ((hkept.out.alloc _).trans hk1 fun b hb => hrow.out b hb)
      have R1 := Lib.hid (show ∀ b, v'.ownBlock = some b → v.ownBlock = some b ∨ w.heap.size ≤ b from fun b hb => (hf1 b hb).elim (hrow.out b) fun h => .inr (by have := hkept.out.size; omega))
      have he : x / 2 ^ (8 * k) / 256 = x / 2 ^ (8 * (k + 1)) := by rw [Int.ediv_ediv_of_nonneg (Int.pow_nonneg (by decide)), Nat.mul_add, Int.pow_add]; rfl
      have HE := Lib.hid he
      clear he hown1 hk1 hf1 hown hkept hrow hl2
      go_wp2
      go_roundw
      case rel => exact ⟨k + 1, by omega, by go_num, by rw [← HE.out], O1, K1, R1⟩
      case measure => simp [intOf]; omega
    · obtain rfl : k = n := by omega
      go_wp2
      go_ret
      exact ⟨_, rfl, hown.out, hkept.out⟩

set_option maxHeartbeats 400000 in
theorem ordigestOf_calls {D1 D2 : Nat → Prop} {seed left right : Int} {v1 v2 : Value} {k v : Bts} {w : World} (hl : isU64 left) (hr : isU64 right) (h1 : BV D1 w v1 k) (h2 : BV D2 w v2 v) (hk : k.length ≤ 64) (hv : v.length ≤ 1000) :
    Calls Try.prog 185 #[.int .u64 seed, .int .u64 left, v1, v2, .int .u64 right] w fun e w' => e = .returned (.int .u64 (mark seed left k v right)) ∧ Kept Noneof w w' := by
  have H1 := Lib.hid h1
  have H2 := Lib.hid h2
  obtain ⟨a1, c1, rfl, _, _, _⟩ := h1
  obtain ⟨a2, c2, rfl, _, _, _⟩ := h2
  have q1 := leI_len 1 k.length
  have q2 := leI_len 2 v.length
  have q3 := leI_len 8 left
  have q4 := leI_len 8 right
  go_enter Try.func185, Try.ntmps185
  go_wp2_with (at_make; refine wl_make0 (E := byteEl) rfl _ _ _ rfl tBytes Noneof w.heap.size (19 + k.length + v.length) .i64 .i64 _ rfl rfl (by omega) ?b1 ?b2 ?b3 ?_; (case b1 => omega); (case b2 => omega); (case b3 => exact Nat.le_refl _))
  intro w1 g o1 e1 hg
  have E1 := Lib.hid e1
  have O1 := Lib.hid o1
  have s1 := e1.size
  clear o1 e1
  go_wp2_with fail
  refine (orlittle_calls (x := left) (n := 8) O1.out hl.1 hl.2 (by omega) (by simp) (by omega)).mono ?_
  rintro e w2 ⟨x2, rfl, o2, e2⟩
  have O2 := Lib.hid (show Own 5 byteEl Noneof w.heap.size w2 x2 (leI left 8) by simpa using o2)
  have E2 := Lib.hid (E1.out.trans e2 fun b hb => .inr (O1.out.lt b hb).1)
  have s2 := e2.size
  clear O1 E1 o2 e2
  have hb := byte_nat k.length (by omega)
  go_wp2_with (at_builtin; refine wl_app_one (E := byteEl) (D := Noneof) (D' := Noneof) rfl (.tmp 22) (.tmp 26) _ rfl tBytes _ _ rfl (O2.out.alloc _) _ [.int .u8 (k.length : Int)] (UInt8.ofNat ((k.length : Int) % 256).toNat) rfl ?c1 ?c2 ?c3 ?c4 ?c5 ?c6 ?_; (case c1 => exact ⟨_, _, heap_alloc_new _ _⟩); (case c2 => show _ = _; rw [u8_of _ (by omega), Int.emod_eq_of_lt (by omega) (by omega)]); (case c3 => exact fun _ h => h.elim); (case c4 => simp; omega); (case c5 => omega); (case c6 => simp; omega))
  intro x3 w3 o3 e3 _
  have O3 := Lib.hid o3
  have E3 := Lib.hid ((E2.out.alloc _).trans e3 fun b hb => .inr (O2.out.lt b hb).1)
  have s3 := e3.size
  clear o3 e3 O2 E2
  go_wp2_with (at_builtin; refine wl_app_bytes rfl (.tmp 27) (.tmp 28) _ rfl tBytes _ _ rfl O3.out _ _ rfl (H1.out.kept byteEl_k E3.out fun _ _ _ h => h) ?c4 ?c6 ?_; (case c4 => simp; omega); (case c6 => exact E3.out.size))
  intro x4 w4 o4 e4 _
  have O4 := Lib.hid o4
  have E4 := Lib.hid (E3.out.trans e4 fun b hb => .inr (O3.out.lt b hb).1)
  clear o4 e4 O3 E3
  go_wp2_with fail
  refine (orlittle_calls (x := v.length) (n := 2) O4.out (by omega) (by omega) (by omega) (by simp; omega) E4.out.size).mono ?_
  rintro e w5 ⟨x5, rfl, o5, e5⟩
  have O5 := Lib.hid o5
  have E5 := Lib.hid (E4.out.trans e5 fun b hb => .inr (O4.out.lt b hb).1)
  clear O4 E4 o5 e5
  go_wp2_with (at_builtin; refine wl_app_bytes rfl (.tmp 34) (.tmp 35) _ rfl tBytes _ _ rfl O5.out _ _ rfl (H2.out.kept byteEl_k E5.out fun _ _ _ h => h) ?c4 ?c6 ?_; (case c4 => simp; omega); (case c6 => exact E5.out.size))
  intro x6 w6 o6 e6 _
  have O6 := Lib.hid o6
  have E6 := Lib.hid (E5.out.trans e6 fun b hb => .inr (O5.out.lt b hb).1)
  clear o6 e6 O5 E5
  go_wp2_with fail
  refine (orlittle_calls (x := right) (n := 8) O6.out hr.1 hr.2 (by omega) (by simp; omega) E6.out.size).mono ?_
  rintro e w7 ⟨x7, rfl, o7, e7⟩
  have O7 := Lib.hid o7.sv
  have E7 := Lib.hid (E6.out.trans e7 fun b hb => .inr (O6.out.lt b hb).1)
  clear O6 E6 o7 e7
  go_wp2_with fail
  refine (slCoin_calls O7.out).mono ?_
  rintro e w10 ⟨rfl, n10, rfl⟩
  go_wp2
  go_ret
  exact ⟨ret_int (by simp [mark, markB, leI]), E7.out.drewN _⟩

/-- What a child's pointer says of the number of nodes below it, and of their digest. -/
def childAt (w : World) (p : Option Nat) (n d : Int) : Prop := match p with | none => n = 0 ∧ d = 0 | some b => w.cell? ⟨b, 5, none⟩ = some (.int .i64 n) ∧ w.cell? ⟨b, 6, none⟩ = some (.int .u64 d)
theorem childAt.at {w w' : World} {p : Option Nat} {n d : Int} (h : childAt w p n d) (e : w'.heap = w.heap) : childAt w' p n d := by
  cases p with
  | none => exact h
  | some b => exact ⟨by rw [World.cell?_of_block (w := w) (by rw [e])]; exact h.1, by rw [World.cell?_of_block (w := w) (by rw [e])]; exact h.2⟩
theorem orcount_calls {p : Option Nat} {n d : Int} {w : World} (h : childAt w p n d) :
    Calls Try.prog 122 #[ptr p] w fun e w' => e = .returned (.int .i64 n) ∧ w' = w := by
  cases p with
  | none =>
    obtain ⟨rfl, rfl⟩ : n = 0 ∧ d = 0 := h
    show Calls Try.prog 122 #[.pointer none] w _
    go_enter Try.func122, Try.ntmps122
    go_wp2
    go_ret
    exact ⟨rfl, rfl⟩
  | some b =>
    have h5 : w.cell? ⟨b, 5, none⟩ = some (.int .i64 n) := h.1
    clear h
    show Calls Try.prog 122 #[.pointer (some ⟨b, 0, none⟩)] w _
    go_enter Try.func122, Try.ntmps122
    go_wp2
    go_ret
    exact ⟨rfl, rfl⟩
theorem orsum_calls {p : Option Nat} {n d : Int} {w : World} (h : childAt w p n d) :
    Calls Try.prog 131 #[ptr p] w fun e w' => e = .returned (.int .u64 d) ∧ w' = w := by
  cases p with
  | none =>
    obtain ⟨rfl, rfl⟩ : n = 0 ∧ d = 0 := h
    show Calls Try.prog 131 #[.pointer none] w _
    go_enter Try.func131, Try.ntmps131
    go_wp2
    go_ret
    exact ⟨rfl, rfl⟩
  | some b =>
    have h6 : w.cell? ⟨b, 6, none⟩ = some (.int .u64 d) := h.2
    clear h
    show Calls Try.prog 131 #[.pointer (some ⟨b, 0, none⟩)] w _
    go_enter Try.func131, Try.ntmps131
    go_wp2
    go_ret
    exact ⟨rfl, rfl⟩

theorem childAt.kept {S : Nat → Prop} {w w' : World} {p : Option Nat} {n d : Int} (h : childAt w p n d) (k : Kept S w w') (hS : ∀ b, p = some b → ¬ S b) : childAt w' p n d := by
  cases p with
  | none => exact h
  | some b => exact ⟨k.cell (p := ⟨b, 5, none⟩) (hS b rfl) h.1, k.cell (p := ⟨b, 6, none⟩) (hS b rfl) h.2⟩

set_option maxRecDepth 100000 in
set_option maxHeartbeats 1000000 in
theorem orfresh_calls {D1 D2 : Nat → Prop} {seed h : Int} {m b : Nat} {kv vv : Value} {k v : Bts} {pl pr : Option Nat} {nl nr dl dr s0 d0 : Int} {w : World}
    (hm : w.cell? ⟨m, 1, none⟩ = some (.int .u64 seed)) (hb : w.heap[b]? = some (nodeObj kv vv h pl pr s0 d0)) (hmb : m ≠ b) (hl : childAt w pl nl dl) (hr : childAt w pr nr dr) (hk : BV D1 w kv k) (hv : BV D2 w vv v)
    (hD1 : ¬ D1 b) (hD2 : ¬ D2 b) (hkl : k.length ≤ 64) (hvl : v.length ≤ 1000) (ul : isU64 dl) (ur : isU64 dr) (n1 : 0 ≤ nl) (n2 : 0 ≤ nr) (n3 : nl + nr ≤ 1000000000) (hpl : pl ≠ some b) (hpr : pr ≠ some b) :
    Calls Try.prog 169 #[.pointer (some ⟨m, 0, none⟩), .pointer (some ⟨b, 0, none⟩)] w fun e w' => e = .returned (.pointer (some ⟨b, 0, none⟩)) ∧ w'.heap[b]? = some (nodeObj kv vv h pl pr (1 + nl + nr) (mark seed dl k v dr)) ∧ Kept (fun x => x = b) w w' := by
  obtain ⟨c0, c1, c2, c3, c4, c5, c6, fr⟩ := NodeAt.of hb
  have HB := Lib.hid hb
  have HL := Lib.hid hl
  have HR := Lib.hid hr
  have HK := Lib.hid hk
  have HV := Lib.hid hv
  have FR := Lib.hid fr
  have f5 := fr 5
  clear hb hl hr hk hv fr c0 c1 c2
  go_enter Try.func169, Try.ntmps169
  go_wp2
  refine wp_region_still_tail 15 (by kernel_rfl) (by kernel_rfl) ?_
  simp only [List.take_succ_cons, List.take_zero, List.drop_succ_cons, List.drop_zero]
  repeat still_step
  still_call (orcount_calls (by exact HL.out.at rfl))
  repeat still_step
  still_call (orcount_calls (by exact HR.out.at rfl))
  repeat still_step
  try refine wpStill_nil ?_
  change wpList _ _ _ _ _ w.drew
  go_wp2
  have hsz : IntKind.i64.wrap (IntKind.i64.wrap (1 + nl) + nr) = 1 + nl + nr := by rw [IntWalk.i64_in (1 + nl) ⟨by omega, by omega⟩, IntWalk.i64_in _ ⟨by omega, by omega⟩]
  have HB1 := Lib.hid (show ((w.setCell ⟨b, 5, none⟩ (.int .i64 (1 + nl + nr))).drew).heap[b]? = some (nodeObj kv vv h pl pr (1 + nl + nr) d0) from setCell_obj HB.out _)
  have K1 := Lib.hid (((Kept.refl (fun x => x = b) w).setCell (p := ⟨b, 5, none⟩) (.inl rfl) (.int .i64 (1 + nl + nr))).drew)
  generalize (w.setCell ⟨b, 5, none⟩ (.int .i64 (1 + nl + nr))).drew = w1 at *
  obtain ⟨d0, d1, d2, d3, d4, d5, d6, dfr⟩ := NodeAt.of HB1.out
  have hm1 := K1.out.cell (p := ⟨m, 1, none⟩) (by simpa using hmb) hm
  have HL1 := Lib.hid (HL.out.kept K1.out (by intro x hx; rintro rfl; exact hpl hx))
  have HR1 := Lib.hid (HR.out.kept K1.out (by intro x hx; rintro rfl; exact hpr hx))
  have HK1 := Lib.hid (HK.out.kept byteEl_k K1.out (by rintro x hx _ rfl; exact hD1 hx))
  have HV1 := Lib.hid (HV.out.kept byteEl_k K1.out (by rintro x hx _ rfl; exact hD2 hx))
  have f6 := dfr 6
  clear hm c3 c4 c5 c6 HB HL HR HK HV FR f5 d2 d5 dfr hsz
  go_region_held3 (fun w' => w'.cell? ⟨m, 1, none⟩ = some (.int .u64 seed) ∧ w'.cell? ⟨b, 0, none⟩ = some kv ∧ w'.cell? ⟨b, 1, none⟩ = some vv ∧ w'.cell? ⟨b, 3, none⟩ = some (ptr pl) ∧ w'.cell? ⟨b, 4, none⟩ = some (ptr pr)) (first | exact ⟨hm1, d0, d1, d3, d4⟩ | exact ⟨e2.cell (fun h => h) hm1, e2.cell (fun h => h) d0, e2.cell (fun h => h) d1, e2.cell (fun h => h) d3, e2.cell (fun h => h) d4⟩ | exact ⟨cell_other (.inl hmb) (e2.cell (fun h => h) hm1), cell_other (.inr (by simp)) (e2.cell (fun h => h) d0), cell_other (.inr (by simp)) (e2.cell (fun h => h) d1), cell_other (.inr (by simp)) (e2.cell (fun h => h) d3), cell_other (.inr (by simp)) (e2.cell (fun h => h) d4)⟩) (first | (go_at_call 131; refine (orsum_calls (by exact HL1.out.at rfl)).mono ?_; rintro e w' ⟨rfl, rfl⟩) | (go_at_call 131; refine (orsum_calls (by exact HR1.out.at rfl)).mono ?_; rintro e w' ⟨rfl, rfl⟩) | (go_at_call 185; refine (ordigestOf_calls ul ur (by exact HK1.out.at rfl) (by exact HV1.out.at rfl) hkl hvl).mono ?_; rintro e w2 ⟨rfl, e2⟩; have g6 := e2.cell (p := ⟨b, 6, none⟩) (fun h => h) d6; have fr6 : w2.frozen? ⟨b, 6, none⟩ = false := (NodeAt.of (e2.obj (fun h => h) HB1.out)).fr 6; have HB2 := Lib.hid (e2.obj (fun h => h) HB1.out); have K2 := Lib.hid ((K1.out.drew).trans e2 fun _ h => h.elim)))
  go_wp2
  go_ret
  exact ⟨rfl, setCell_obj HB2.out _, K2.out.setCell (.inl rfl) _⟩
end Go.Proofs.Ytaopjdjbpamhhaa
/- Proved: the contract of bytes.Compare: below 0, 0 or above 0 as the bytes stand to each other. Conditions: what is read lies in memory. -/
namespace Go.Proofs.Ytaopjdjbpamhhaa
open Go Go.RowKit
set_option linter.unusedVariables false
set_option linter.unusedSimpArgs false

/-- -1, 0 or 1 as the first bytes stand ahead of the others, are the same, or stand behind them. -/
def cmpS (a b : Bts) : Int := if cmpB a b < 0 then -1 else if 0 < cmpB a b then 1 else 0
theorem cmpB_gt (x : UInt8) (t : Bts) : 0 < cmpB (x :: t) [] := by
  rw [cmpB]
  omega
def cmpF (a b : Bts) : Int :=
  match (List.range (min a.length b.length)).find? fun i => a[i]! != b[i]! with
  | some i => if a[i]! < b[i]! then -1 else 1
  | none => if a.length < b.length then -1 else if b.length < a.length then 1 else 0
theorem cmpF_cons (x y : UInt8) (t u : Bts) : cmpF (x :: t) (y :: u) = if x = y then cmpF t u else if x < y then -1 else 1 := by
  unfold cmpF
  simp only [List.length_cons, Nat.add_min_add_right, List.range_succ_eq_map, List.find?_cons, List.find?_map]
  by_cases h : x = y
  · subst h
    simp only [List.getElem!_cons_zero, bne_self_eq_false, if_true]
    have e : ((fun i => (x :: t)[i]! != (x :: u)[i]!) ∘ Nat.succ) = fun i => t[i]! != u[i]! := by
      funext i
      simp
    rw [e]
    cases (List.range (min t.length u.length)).find? fun i => t[i]! != u[i]! <;> simp
  · have hb : (x != y) = true := by simpa using h
    simp [hb, h]
theorem cmpF_eq : ∀ a b : Bts, cmpF a b = cmpS a b
  | [], [] => by simp [cmpF, cmpS, cmpB]
  | [], y :: u => by
    have h : cmpB [] (y :: u) < 0 := by rw [cmpB, List.length_cons]; omega
    rw [cmpS, if_pos h]
    simp [cmpF]
  | x :: t, [] => by
    have := cmpB_gt x t
    simp [cmpF, cmpS]
    omega
  | x :: t, y :: u => by
    rw [cmpF_cons, cmpF_eq t u, cmpS, cmpS, cmpB]
    by_cases h : x = y
    · rw [if_pos h, if_pos h]
    · rw [if_neg h, if_neg h]
      have hx := x.toNat_lt
      have hy := y.toNat_lt
      have hne : x.toNat ≠ y.toNat := fun e => h (UInt8.toNat_inj.1 e)
      by_cases h2 : x < y
      · have : x.toNat < y.toNat := UInt8.lt_iff_toNat_lt.1 h2
        rw [if_pos h2, if_pos (by omega)]
      · have : ¬ x.toNat < y.toNat := fun e => h2 (UInt8.lt_iff_toNat_lt.2 e)
        rw [if_neg h2, if_neg (by omega), if_pos (by omega)]
theorem ba_get (l : Bts) (i : Nat) : (⟨l.toArray⟩ : ByteArray)[i]! = l[i]! := by
  have hs : (⟨l.toArray⟩ : ByteArray).size = l.length := rfl
  by_cases h : i < l.length
  · rw [getElem!_pos (⟨l.toArray⟩ : ByteArray) i h, getElem!_pos l i h]
    rfl
  · rw [getElem!_neg (⟨l.toArray⟩ : ByteArray) i h, getElem!_neg l i h]
theorem cmp_bytes (a b : Bts) : Extern.BytealgCompare.cmp ⟨a.toArray⟩ ⟨b.toArray⟩ = cmpS a b := by
  rw [← cmpF_eq]
  unfold Extern.BytealgCompare.cmp cmpF
  simp only [ba_get]
  rfl
theorem run_bytesOf {P : Program} {D : Nat → Prop} {w : World} {v : Value} {l : Bts} (h : BV D w v l) : (Extern.Bytes.bytesOf v).run P w = .ok ⟨l.toArray⟩ w := by
  obtain ⟨a, c, rfl, ⟨_, _⟩, _, hr⟩ := h
  cases a with
  | none =>
    have : l = [] := by
      cases l with
      | nil => rfl
      | cons x t => obtain ⟨b, o, cs, h1, _⟩ := hr 0 (by simp); cases h1
    subst this
    rfl
  | some p =>
    have h0 := Lib.run_loadBytesX (P := P) w (l.map fun x => ((x.toNat : Nat) : Int)) p .empty fun j x hx => by
      rw [List.getElem?_map] at hx
      obtain ⟨y, hy, rfl⟩ := Option.map_eq_some_iff.1 hx
      obtain ⟨hj, rfl⟩ := List.getElem?_eq_some_iff.1 hy
      obtain ⟨b, o, he, _, hc⟩ := hr.byte hj
      obtain rfl := Option.some.inj he
      rw [Addr.add_lit]
      exact hc
    have hb : Lib.bytesOf (l.map fun x => ((x.toNat : Nat) : Int)) = l := by
      rw [Lib.bytesOf, List.map_map]
      exact (List.map_congr_left fun x _ => by simp).trans (List.map_id l)
    rw [hb, List.length_map] at h0
    show (Extern.Bytes.loadBytes p l.length .empty).run P w = _
    rw [h0]
    simp
theorem run_bcmp {P : Program} {D1 D2 : Nat → Prop} {w : World} {v1 v2 : Value} {a b : Bts} (h1 : BV D1 w v1 a) (h2 : BV D2 w v2 b) : (Extern.BytealgCompare.compare #[v1, v2]).run P w = .ok (.int .i64 (cmpS a b)) w := by
  show Sem.run P (do pure (goInt (Extern.BytealgCompare.cmp (← Extern.Bytes.bytesOf v1) (← Extern.Bytes.bytesOf v2)))) w = _
  simp only [Sem.run_bind, Sem.run_pure, run_bytesOf h1, run_bytesOf h2, Result.andThen, cmp_bytes, goInt]
theorem byCompare_calls {D1 D2 : Nat → Prop} {v1 v2 : Value} {a b : Bts} {w : World} (h1 : BV D1 w v1 a) (h2 : BV D2 w v2 b) :
    Calls Try.prog 154 #[v1, v2] w fun e w' => e = .returned (.int .i64 (cmpS a b)) ∧ w' = w := by
  have hrun : (callFunc 184 #[v1, v2]).run Try.prog w = .ok (.value (.int .i64 (cmpS a b))) w := by
    rw [run_callFunc_extern Try.func184 (by kernel_rfl) (by kernel_rfl) (by kernel_rfl) (by kernel_rfl), run_bcmp h1 h2]
    rfl
  clear h1 h2
  go_enter Try.func154, Try.ntmps154
  go_wp2
  go_ret
  exact ⟨rfl, rfl⟩
theorem byCompare_drew {D1 D2 : Nat → Prop} {v1 v2 : Value} {a b : Bts} {w : World} (h1 : BV D1 w v1 a) (h2 : BV D2 w v2 b) :
    Calls Try.prog 154 #[v1, v2] w fun e w' => e = .returned (.int .i64 (cmpS a b)) ∧ Drew w w' :=
  (byCompare_calls h1 h2).mono fun _ _ ⟨he, hw⟩ => ⟨he, by rw [hw]; exact Drew.refl _⟩
end Go.Proofs.Ytaopjdjbpamhhaa
/- Proved: contracts of the map's functions on nodes: above, side, split, merge. Conditions: nodes as a tree in memory, of at most a thousand million pairs of lengths that are allowed. -/
namespace Go.Proofs.Ytaopjdjbpamhhaa
open Go Go.RowKit
set_option linter.unusedVariables false
set_option linter.unusedSimpArgs false

/-- A tree in memory: p leads to it, S are the blocks of its nodes, D those of its bytes. -/
def TreeAt (seed : Int) (D : Nat → Prop) (w : World) : Tr → Option Nat → List Nat → Prop
  | .nil, p, S => p = none ∧ S = []
  | .nd l k v r, p, S => ∃ b pl pr Sl Sr kv vv, p = some b ∧ S = b :: (Sl ++ Sr) ∧ w.heap[b]? = some (nodeObj kv vv (coin seed 3 k) pl pr ((1 + l.size + r.size : Nat) : Int) ((Tr.nd l k v r).dg seed)) ∧ BV D w kv k ∧ BV D w vv v ∧ TreeAt seed D w l pl Sl ∧ TreeAt seed D w r pr Sr
section
variable {seed : Int} {D D' X : Nat → Prop} {w w' : World}
theorem TreeAt.lt : ∀ {t : Tr} {p : Option Nat} {S : List Nat}, TreeAt seed D w t p S → ∀ b ∈ S, b < w.heap.size
  | .nil, _, _, ⟨_, rfl⟩ => by simp
  | .nd l k v r, _, _, ⟨b, pl, pr, Sl, Sr, kv, vv, _, rfl, ho, _, _, hl, hr⟩ => by
    intro x hx
    rcases List.mem_cons.1 hx with rfl | hx
    · exact block_lt ho
    · rcases List.mem_append.1 hx with hx | hx
      · exact TreeAt.lt hl x hx
      · exact TreeAt.lt hr x hx
theorem TreeAt.kept (k : Kept X w w') (hD : ∀ b, D b → b < w.heap.size → ¬ X b) : ∀ {t : Tr} {p : Option Nat} {S : List Nat}, (∀ b ∈ S, ¬ X b) → TreeAt seed D w t p S → TreeAt seed D w' t p S
  | .nil, _, _, _, h => h
  | .nd l k' v r, _, _, hS, ⟨b, pl, pr, Sl, Sr, kv, vv, h1, h2, ho, hk, hv, hl, hr⟩ =>
    ⟨b, pl, pr, Sl, Sr, kv, vv, h1, h2, k.obj (hS b (by rw [h2]; simp)) ho, hk.kept byteEl_k k hD, hv.kept byteEl_k k hD, TreeAt.kept k hD (fun x hx => hS x (by rw [h2]; simp [hx])) hl, TreeAt.kept k hD (fun x hx => hS x (by rw [h2]; simp [hx])) hr⟩
theorem TreeAt.wide (hD : ∀ b, D b → b < w.heap.size → D' b) : ∀ {t : Tr} {p : Option Nat} {S : List Nat}, TreeAt seed D w t p S → TreeAt seed D' w t p S
  | .nil, _, _, h => h
  | .nd l k' v r, _, _, ⟨b, pl, pr, Sl, Sr, kv, vv, h1, h2, ho, hk, hv, hl, hr⟩ =>
    ⟨b, pl, pr, Sl, Sr, kv, vv, h1, h2, ho, hk.wide byteEl_k hD, hv.wide byteEl_k hD, TreeAt.wide hD hl, TreeAt.wide hD hr⟩
theorem TreeAt.at {t : Tr} {p : Option Nat} {S : List Nat} (h : TreeAt seed D w t p S) (e : w'.heap = w.heap) : TreeAt seed D w' t p S := by
  induction t generalizing p S with
  | nil => exact h
  | nd l k v r ihl ihr =>
    obtain ⟨b, pl, pr, Sl, Sr, kv, vv, h1, h2, ho, hk, hv, hl, hr⟩ := h
    exact ⟨b, pl, pr, Sl, Sr, kv, vv, h1, h2, by rw [e]; exact ho, hk.at e, hv.at e, ihl hl, ihr hr⟩
theorem TreeAt.child : ∀ {t : Tr} {p : Option Nat} {S : List Nat}, TreeAt seed D w t p S → childAt w p (t.size : Int) (t.dg seed)
  | .nil, _, _, ⟨rfl, _⟩ => ⟨rfl, rfl⟩
  | .nd l k v r, _, _, ⟨b, pl, pr, Sl, Sr, kv, vv, rfl, _, ho, _, _, _, _⟩ => ⟨(NodeAt.of ho).c5, (NodeAt.of ho).c6⟩
theorem TreeAt.root {t : Tr} {p : Option Nat} {S : List Nat} {b : Nat} (h : TreeAt seed D w t p S) (hp : p = some b) : b ∈ S := by
  cases t with
  | nil => rw [h.1] at hp; cases hp
  | nd l k v r =>
    obtain ⟨b', _, _, _, _, _, _, h1, rfl, _⟩ := h
    rw [hp] at h1
    simp [Option.some.inj h1]
end

theorem cmpS_lt {a b : Bts} (h : cmpB a b < 0) : cmpS a b < 0 := by rw [cmpS, if_pos h]; decide
theorem cmpS_ge {a b : Bts} (h : ¬ cmpB a b < 0) : 0 ≤ cmpS a b := by rw [cmpS, if_neg h]; split <;> decide

theorem cmpS_neg {a b : Bts} : cmpS a b < 0 ↔ cmpB a b < 0 := ⟨fun h => Classical.byContradiction fun k => by have := cmpS_ge k; omega, cmpS_lt⟩

/-- Whether a node stands above another one. -/
def aboveK (seed : Int) (a b : Bts) : Bool := if coin seed 3 a = coin seed 3 b then decide (cmpB a b < 0) else decide (coin seed 3 b < coin seed 3 a)
set_option maxHeartbeats 400000 in
theorem orabove_calls {seed : Int} {D1 D2 : Nat → Prop} {b1 b2 : Nat} {kv1 vv1 kv2 vv2 : Value} {l1 r1 l2 r2 : Option Nat} {s1 d1 s2 d2 : Int} {k1 k2 : Bts} {w : World}
    (h1 : w.heap[b1]? = some (nodeObj kv1 vv1 (coin seed 3 k1) l1 r1 s1 d1)) (h2 : w.heap[b2]? = some (nodeObj kv2 vv2 (coin seed 3 k2) l2 r2 s2 d2)) (hk1 : BV D1 w kv1 k1) (hk2 : BV D2 w kv2 k2) :
    Calls Try.prog 170 #[.pointer (some ⟨b1, 0, none⟩), .pointer (some ⟨b2, 0, none⟩)] w fun e w' => e = .returned (.bool (aboveK seed k1 k2)) ∧ Drew w w' := by
  obtain ⟨c0, _, c2, _, _, _, _, _⟩ := NodeAt.of h1
  obtain ⟨e0, _, e2, _, _, _, _, _⟩ := NodeAt.of h2
  have K1 := Lib.hid hk1
  have K2 := Lib.hid hk2
  have u1 := coin_u64 seed 3 k1
  have u2 := coin_u64 seed 3 k2
  clear h1 h2 hk1 hk2
  by_cases he : coin seed 3 k1 = coin seed 3 k2
  · have HR := Lib.hid (show aboveK seed k1 k2 = decide (cmpB k1 k2 < 0) by rw [aboveK, if_pos he])
    have hb : (coin seed 3 k1 != coin seed 3 k2) = false := by rw [bne_eq_false_iff_eq]; exact he
    have HE := Lib.hid he
    clear he
    by_cases hc : cmpB k1 k2 < 0
    · have h3 := cmpS_lt hc
      have HC := Lib.hid hc
      clear hc
      go_enter Try.func170, Try.ntmps170
      go_wp2
      go_quiet (fail)
      go_wp2
      go_quiet ((go_at_call 154; first | exact Drew.q (byCompare_drew (K1.out.at rfl) (K2.out.at rfl)) | exact Drew.qa (byCompare_drew (K1.out.at rfl) (K2.out.at rfl))))
      go_wp2
      go_ret
      exact ⟨ret_bool (by have := HC.out; rw [HR.out, Bool.eq_iff_iff]; simp [cmpS_neg] <;> omega), (by repeat (first | exact Drew.refl _ | exact ⟨_, rfl⟩ | apply Drew.step | apply Drew.one))⟩
    · have h3 := cmpS_ge hc
      have HC := Lib.hid hc
      clear hc
      go_enter Try.func170, Try.ntmps170
      go_wp2
      go_quiet (fail)
      go_wp2
      go_quiet ((go_at_call 154; first | exact Drew.q (byCompare_drew (K1.out.at rfl) (K2.out.at rfl)) | exact Drew.qa (byCompare_drew (K1.out.at rfl) (K2.out.at rfl))))
      go_wp2
      go_ret
      exact ⟨ret_bool (by have := HC.out; rw [HR.out, Bool.eq_iff_iff]; simp [cmpS_neg] <;> omega), (by repeat (first | exact Drew.refl _ | exact ⟨_, rfl⟩ | apply Drew.step | apply Drew.one))⟩
  · have HR := Lib.hid (show aboveK seed k1 k2 = decide (coin seed 3 k2 < coin seed 3 k1) by rw [aboveK, if_neg he])
    have hb : (coin seed 3 k1 != coin seed 3 k2) = true := by rw [bne_iff_ne]; exact he
    clear he
    go_enter Try.func170, Try.ntmps170
    go_wp2
    go_quiet (fail)
    go_wp2
    go_quiet (fail)
    go_wp2
    go_ret
    exact ⟨ret_bool HR.out.symm, (by repeat (first | exact Drew.refl _ | exact ⟨_, rfl⟩ | apply Drew.step | apply Drew.one))⟩

theorem orfresh_tree {seed : Int} {D : Nat → Prop} {m b : Nat} {kv vv : Value} {l r : Tr} {k v : Bts} {pl pr : Option Nat} {Sl Sr : List Nat} {s0 d0 : Int} {w : World}
    (hm : w.cell? ⟨m, 1, none⟩ = some (.int .u64 seed)) (hb : w.heap[b]? = some (nodeObj kv vv (coin seed 3 k) pl pr s0 d0)) (hl : TreeAt seed D w l pl Sl) (hr : TreeAt seed D w r pr Sr) (hk : BV D w kv k) (hv : BV D w vv v)
    (hbl : b ∉ Sl) (hbr : b ∉ Sr) (hD : ¬ D b) (hmb : m ≠ b) (hkl : k.length ≤ 64) (hvl : v.length ≤ 1000) (hsz : l.size + r.size ≤ 1000000000) :
    Calls Try.prog 169 #[.pointer (some ⟨m, 0, none⟩), .pointer (some ⟨b, 0, none⟩)] w fun e w' => e = .returned (.pointer (some ⟨b, 0, none⟩)) ∧ TreeAt seed D w' (.nd l k v r) (some b) (b :: (Sl ++ Sr)) ∧ Kept (fun x => x = b) w w' := by
  refine (orfresh_calls (nl := (l.size : Int)) (nr := (r.size : Int)) hm hb hmb hl.child hr.child hk hv hD hD hkl hvl (Tr.dg_u64 _ _) (Tr.dg_u64 _ _) (by omega) (by omega) (by omega) (fun h => hbl (hl.root h)) (fun h => hbr (hr.root h))).mono ?_
  rintro e w' ⟨he, ho, kw⟩
  have hDk : ∀ x, D x → x < w.heap.size → ¬ x = b := fun x hx _ h => hD (h ▸ hx)
  refine ⟨he, ⟨b, pl, pr, Sl, Sr, kv, vv, rfl, rfl, ?_, hk.kept byteEl_k kw hDk, hv.kept byteEl_k kw hDk, hl.kept kw hDk fun x hx h => hbl (h ▸ hx), hr.kept kw hDk fun x hx h => hbr (h ▸ hx)⟩, kw⟩
  rw [ho]
  congr 2

/-- Nodes parted into those of lesser keys and the others. -/
def Tr.split (key : Bts) : Tr → Tr × Tr
  | nil => (nil, nil)
  | nd l k v r => if cmpB k key < 0 then (nd l k v (r.split key).1, (r.split key).2) else ((l.split key).1, nd (l.split key).2 k v r)
theorem Tr.split_size (key : Bts) : ∀ t : Tr, (t.split key).1.size + (t.split key).2.size = t.size
  | nil => rfl
  | nd l k v r => by
    have h1 := split_size key l
    have h2 := split_size key r
    rw [Tr.split]
    split <;> simp only [Tr.size] <;> omega

set_option maxHeartbeats 1000000 in
theorem orsplit_calls {seed : Int} {D D2 : Nat → Prop} {m : Nat} {kx : Value} {key : Bts} : ∀ (t : Tr) (p : Option Nat) (S : List Nat) (w : World), TreeAt seed D w t p S → S.Nodup → (∀ b ∈ S, ¬ D b ∧ ¬ D2 b ∧ b ≠ m) → w.cell? ⟨m, 1, none⟩ = some (.int .u64 seed) → t.ok → t.size ≤ 500000000 → BV D2 w kx key →
    Calls Try.prog 171 #[.pointer (some ⟨m, 0, none⟩), ptr p, kx] w fun e w' => ∃ p1 p2 S1 S2, e = .returned (.tuple #[ptr p1, ptr p2]) ∧ TreeAt seed D w' (t.split key).1 p1 S1 ∧ TreeAt seed D w' (t.split key).2 p2 S2 ∧ (S1 ++ S2).Perm S ∧ Kept (· ∈ S) w w' := by
  intro t
  induction t with
  | nil =>
    rintro p S w ⟨rfl, rfl⟩ _ _ _ _ _ _
    show Calls Try.prog 171 #[_, .pointer none, _] w _
    go_enter Try.func171, Try.ntmps171
    go_wp2
    go_ret2
    exact ⟨none, none, [], [], rfl, ⟨rfl, rfl⟩, ⟨rfl, rfl⟩, List.Perm.nil, Kept.refl _ _⟩
  | nd l k v r ihl ihr =>
    rintro p S w ⟨b, pl, pr, Sl, Sr, kv, vv, rfl, rfl, ho, hk, hv, hl, hr⟩ hnd hS hm hok hsz hkx
    have hch := NodeAt.of ho
    obtain ⟨c0, c1, c2, c3, c4, c5, c6, fr⟩ := hch
    by_cases hc : cmpB k key < 0
    · have h3 := cmpS_lt hc
      have HO := Lib.hid ho
      have HK := Lib.hid hk
      have HV := Lib.hid hv
      have HL := Lib.hid hl
      have HR := Lib.hid hr
      have HX := Lib.hid hkx
      have HC := Lib.hid hc
      have HS := Lib.hid hS
      have HN := Lib.hid hnd
      have HM := Lib.hid hm
      have HOK := Lib.hid hok
      have IR := Lib.hid ihr
      clear ho hk hv hl hr hkx hc hS hnd hm hok fr ihl ihr c1 c2 c5 c6
      show Calls Try.prog 171 #[_, .pointer (some ⟨b, 0, none⟩), _] w _
      go_enter Try.func171, Try.ntmps171
      go_wp2_with fail
      refine (byCompare_calls HK.out HX.out).mono ?_
      rintro e w' ⟨rfl, rfl⟩
      go_wp2_with fail
      have hSr : ∀ x ∈ Sr, x ∈ b :: (Sl ++ Sr) := fun x hx => by simp [hx]
      have hnd := HN.out
      rw [List.nodup_cons, List.nodup_append] at hnd
      have hsz2 : r.size ≤ 500000000 := by simp only [Tr.size] at hsz; omega
      have HND := Lib.hid hnd
      clear hnd
      refine (IR.out pr Sr _ HR.out HND.out.2.2.1 (fun x hx => HS.out x (hSr x hx)) HM.out HOK.out.2.2 hsz2 HX.out).mono ?_
      rintro e w1 ⟨p1, p2, S1, S2, rfl, t1, t2, hp, k1⟩
      have hbr : b ∉ Sr := fun h => HND.out.1 (by simp [h])
      have ho1 := k1.obj hbr HO.out
      have d4 := (NodeAt.of ho1).c4
      have df4 := (NodeAt.of ho1).fr 4
      have HO1 := Lib.hid ho1
      have T1 := Lib.hid t1
      have T2 := Lib.hid t2
      have HP := Lib.hid hp
      have K1 := Lib.hid k1
      clear ho1 t1 t2 hp k1 c0 c3 c4 HO HR IR
      go_wp2_with fail
      have ho2 : (w1.setCell ⟨b, 4, none⟩ (.pointer (adr p1))).heap[b]? = some (nodeObj kv vv (coin seed 3 k) pl p1 ((1 + l.size + r.size : Nat) : Int) ((Tr.nd l k v r).dg seed)) := setCell_obj HO1.out _
      have kb : Kept (fun x => x = b) w1 (w1.setCell ⟨b, 4, none⟩ (.pointer (adr p1))) := (Kept.refl (fun x => x = b) w1).setCell (p := ⟨b, 4, none⟩) (.inl rfl) _
      generalize w1.setCell ⟨b, 4, none⟩ (.pointer (adr p1)) = w2 at *
      have kw2 : Kept (fun x => x = b ∨ x ∈ Sr) w' w2 := (K1.out.mono fun _ h => .inr h).trans kb fun x h => .inl (.inl h)
      have hDb : ∀ x, D x → x < w1.heap.size → ¬ x = b := fun x hx _ h => (HS.out b (by simp)).1 (h ▸ hx)
      have hDw : ∀ x, D x → x < w'.heap.size → ¬ (x = b ∨ x ∈ Sr) := fun x hx _ h => (HS.out x (by rcases h with h | h <;> simp [h])).1 hx
      have hS1 : ∀ x ∈ S1, x ∈ Sr := fun x hx => (HP.out.mem_iff).1 (by simp [hx])
      have hS2 : ∀ x ∈ S2, x ∈ Sr := fun x hx => (HP.out.mem_iff).1 (by simp [hx])
      have A1 := Lib.hid (T1.out.kept kb hDb fun x hx h => hbr (h ▸ hS1 x hx))
      have A2 := Lib.hid (T2.out.kept kb hDb fun x hx h => hbr (h ▸ hS2 x hx))
      have AL := Lib.hid (HL.out.kept kw2 hDw fun x hx h => by rcases h with h | h; exact HND.out.1 (by simp [← h, hx]); exact HND.out.2.2.2 x hx x h rfl)
      refine (orfresh_tree (kw2.cell (p := ⟨m, 1, none⟩) (fun h => (HS.out m (by rcases (show m = b ∨ _ from h) with h | h <;> simp [h])).2.2 rfl) HM.out) ho2 AL.out A1.out (HK.out.kept byteEl_k kw2 hDw) (HV.out.kept byteEl_k kw2 hDw) (fun h => HND.out.1 (by simp [h])) (fun h => hbr (hS1 b h)) (HS.out b (by simp)).1 (fun h => (HS.out b (by simp)).2.2 h.symm) HOK.out.2.1.2.1 HOK.out.2.1.2.2 (by have := Tr.split_size key r; simp only [Tr.size] at hsz; omega)).mono ?_
      rintro e w3 ⟨rfl, t3, k3⟩
      have hDb2 : ∀ x, D x → x < w2.heap.size → ¬ x = b := fun x hx _ h => (HS.out b (by simp)).1 (h ▸ hx)
      have R1 := Lib.hid t3
      have R2 := Lib.hid (A2.out.kept k3 hDb2 fun x hx h => hbr (h ▸ hS2 x hx))
      have RK := Lib.hid ((kw2.trans k3 fun x h => .inl (.inl h)).mono fun x h => show x ∈ b :: (Sl ++ Sr) by rcases h with h | h <;> simp [h])
      have RP := Lib.hid (show (b :: (Sl ++ S1) ++ S2).Perm (b :: (Sl ++ Sr)) from by rw [List.cons_append, List.append_assoc]; exact List.Perm.cons b (HP.out.append_left Sl))
      have RS := Lib.hid (show (Tr.nd l k v r).split key = (.nd l k v (r.split key).1, (r.split key).2) by rw [Tr.split, if_pos HC.out])
      clear ho2 kb kw2 hDb hDw hDb2 t3 k3
      go_wp2
      go_ret2
      exact ⟨some b, p2, _, _, rfl, by rw [RS.out]; exact R1.out, by rw [RS.out]; exact R2.out, RP.out, RK.out⟩
    · have h3 := cmpS_ge hc
      have HO := Lib.hid ho
      have HK := Lib.hid hk
      have HV := Lib.hid hv
      have HL := Lib.hid hl
      have HR := Lib.hid hr
      have HX := Lib.hid hkx
      have HC := Lib.hid hc
      have HS := Lib.hid hS
      have HN := Lib.hid hnd
      have HM := Lib.hid hm
      have HOK := Lib.hid hok
      have IR := Lib.hid ihl
      clear ho hk hv hl hr hkx hc hS hnd hm hok fr ihl ihr c1 c2 c5 c6
      show Calls Try.prog 171 #[_, .pointer (some ⟨b, 0, none⟩), _] w _
      go_enter Try.func171, Try.ntmps171
      go_wp2_with fail
      refine (byCompare_calls HK.out HX.out).mono ?_
      rintro e w' ⟨rfl, rfl⟩
      go_wp2_with fail
      have hSr : ∀ x ∈ Sl, x ∈ b :: (Sl ++ Sr) := fun x hx => by simp [hx]
      have hnd := HN.out
      rw [List.nodup_cons, List.nodup_append] at hnd
      have hsz2 : l.size ≤ 500000000 := by simp only [Tr.size] at hsz; omega
      have HND := Lib.hid hnd
      clear hnd
      refine (IR.out pl Sl _ HL.out HND.out.2.1 (fun x hx => HS.out x (hSr x hx)) HM.out HOK.out.1 hsz2 HX.out).mono ?_
      rintro e w1 ⟨p1, p2, S1, S2, rfl, t1, t2, hp, k1⟩
      have hbr : b ∉ Sl := fun h => HND.out.1 (by simp [h])
      have ho1 := k1.obj hbr HO.out
      have d4 := (NodeAt.of ho1).c3
      have df4 := (NodeAt.of ho1).fr 3
      have HO1 := Lib.hid ho1
      have T1 := Lib.hid t1
      have T2 := Lib.hid t2
      have HP := Lib.hid hp
      have K1 := Lib.hid k1
      clear ho1 t1 t2 hp k1 c0 c3 c4 HO HL IR
      go_wp2_with fail
      have ho2 : (w1.setCell ⟨b, 3, none⟩ (.pointer (adr p2))).heap[b]? = some (nodeObj kv vv (coin seed 3 k) p2 pr ((1 + l.size + r.size : Nat) : Int) ((Tr.nd l k v r).dg seed)) := setCell_obj HO1.out _
      have kb : Kept (fun x => x = b) w1 (w1.setCell ⟨b, 3, none⟩ (.pointer (adr p2))) := (Kept.refl (fun x => x = b) w1).setCell (p := ⟨b, 3, none⟩) (.inl rfl) _
      generalize w1.setCell ⟨b, 3, none⟩ (.pointer (adr p2)) = w2 at *
      have kw2 : Kept (fun x => x = b ∨ x ∈ Sl) w' w2 := (K1.out.mono fun _ h => .inr h).trans kb fun x h => .inl (.inl h)
      have hDb : ∀ x, D x → x < w1.heap.size → ¬ x = b := fun x hx _ h => (HS.out b (by simp)).1 (h ▸ hx)
      have hDw : ∀ x, D x → x < w'.heap.size → ¬ (x = b ∨ x ∈ Sl) := fun x hx _ h => (HS.out x (by rcases h with h | h <;> simp [h])).1 hx
      have hS1 : ∀ x ∈ S1, x ∈ Sl := fun x hx => (HP.out.mem_iff).1 (by simp [hx])
      have hS2 : ∀ x ∈ S2, x ∈ Sl := fun x hx => (HP.out.mem_iff).1 (by simp [hx])
      have A1 := Lib.hid (T1.out.kept kb hDb fun x hx h => hbr (h ▸ hS1 x hx))
      have A2 := Lib.hid (T2.out.kept kb hDb fun x hx h => hbr (h ▸ hS2 x hx))
      have AL := Lib.hid (HR.out.kept kw2 hDw fun x hx h => by rcases h with h | h; exact HND.out.1 (by simp [← h, hx]); exact HND.out.2.2.2 x h x hx rfl)
      refine (orfresh_tree (kw2.cell (p := ⟨m, 1, none⟩) (fun h => (HS.out m (by rcases (show m = b ∨ _ from h) with h | h <;> simp [h])).2.2 rfl) HM.out) ho2 A2.out AL.out (HK.out.kept byteEl_k kw2 hDw) (HV.out.kept byteEl_k kw2 hDw) (fun h => hbr (hS2 b h)) (fun h => HND.out.1 (by simp [h])) (HS.out b (by simp)).1 (fun h => (HS.out b (by simp)).2.2 h.symm) HOK.out.2.1.2.1 HOK.out.2.1.2.2 (by have := Tr.split_size key l; simp only [Tr.size] at hsz; omega)).mono ?_
      rintro e w3 ⟨rfl, t3, k3⟩
      have hDb2 : ∀ x, D x → x < w2.heap.size → ¬ x = b := fun x hx _ h => (HS.out b (by simp)).1 (h ▸ hx)
      have R2 := Lib.hid t3
      have R1 := Lib.hid (A1.out.kept k3 hDb2 fun x hx h => hbr (h ▸ hS1 x hx))
      have RK := Lib.hid ((kw2.trans k3 fun x h => .inl (.inl h)).mono fun x h => show x ∈ b :: (Sl ++ Sr) by rcases h with h | h <;> simp [h])
      have RP := Lib.hid (show (S1 ++ b :: (S2 ++ Sr)).Perm (b :: (Sl ++ Sr)) from (List.perm_middle).trans (List.Perm.cons b (by rw [← List.append_assoc]; exact HP.out.append_right Sr)))
      have RS := Lib.hid (show (Tr.nd l k v r).split key = ((l.split key).1, .nd (l.split key).2 k v r) by rw [Tr.split, if_neg (by have := HC.out; omega)])
      clear ho2 kb kw2 hDb hDw hDb2 t3 k3
      go_wp2
      go_ret2
      exact ⟨p1, some b, _, _, rfl, by rw [RS.out]; exact R1.out, by rw [RS.out]; exact R2.out, RP.out, RK.out⟩
end Go.Proofs.Ytaopjdjbpamhhaa
/- Proved: contracts of the map's functions on nodes: merge, put, drop. Conditions: nodes as a tree in memory, of at most four hundred million pairs of lengths that are allowed. -/
namespace Go.Proofs.Ytaopjdjbpamhhaa
open Go Go.RowKit
set_option linter.unusedVariables false
set_option linter.unusedSimpArgs false

/-- A node whose right child has become another tree, in blocks X: brought up to date. -/
theorem right_done {seed : Int} {D X : Nat → Prop} {m b : Nat} {kv vv : Value} {l r : Tr} {k v : Bts} {pl pr p : Option Nat} {Sl S : List Nat} {s0 d0 : Int} {w w1 : World}
    (hm : w.cell? ⟨m, 1, none⟩ = some (.int .u64 seed)) (ho : w.heap[b]? = some (nodeObj kv vv (coin seed 3 k) pl pr s0 d0)) (hk : BV D w kv k) (hv : BV D w vv v) (hl : TreeAt seed D w l pl Sl)
    (k1 : Kept X w w1) (ht : TreeAt seed D w1 r p S) (hXb : ¬ X b) (hXm : ¬ X m) (hXl : ∀ x ∈ Sl, ¬ X x) (hXD : ∀ x, D x → x < w.heap.size → ¬ X x) (hbl : b ∉ Sl) (hbS : b ∉ S) (hD : ¬ D b) (hmb : m ≠ b)
    (hkl : k.length ≤ 64) (hvl : v.length ≤ 1000) (hsz : l.size + r.size ≤ 1000000000) :
    Calls Try.prog 169 #[.pointer (some ⟨m, 0, none⟩), .pointer (some ⟨b, 0, none⟩)] (w1.setCell ⟨b, 4, none⟩ (.pointer (adr p))) fun e w' => e = .returned (.pointer (some ⟨b, 0, none⟩)) ∧ TreeAt seed D w' (.nd l k v r) (some b) (b :: (Sl ++ S)) ∧ Kept (fun x => x = b ∨ X x) w w' := by
  have ho2 : (w1.setCell ⟨b, 4, none⟩ (.pointer (adr p))).heap[b]? = some (nodeObj kv vv (coin seed 3 k) pl p s0 d0) := setCell_obj (k1.obj hXb ho) _
  have kb : Kept (fun x => x = b) w1 (w1.setCell ⟨b, 4, none⟩ (.pointer (adr p))) := (Kept.refl (fun x => x = b) w1).setCell (p := ⟨b, 4, none⟩) (.inl rfl) _
  generalize w1.setCell ⟨b, 4, none⟩ (.pointer (adr p)) = w2 at *
  have kw2 : Kept (fun x => x = b ∨ X x) w w2 := (k1.mono fun _ h => .inr h).trans kb fun x h => .inl (.inl h)
  have hDb : ∀ (w' : World) x, D x → x < w'.heap.size → ¬ x = b := fun _ x hx _ h => hD (h ▸ hx)
  have hDw : ∀ x, D x → x < w.heap.size → ¬ (x = b ∨ X x) := fun x hx hl h => h.elim (fun h => hD (h ▸ hx)) (hXD x hx hl)
  refine (orfresh_tree (kw2.cell (p := ⟨m, 1, none⟩) (fun h => h.elim hmb hXm) hm) ho2 (hl.kept kw2 hDw fun x hx h => h.elim (fun h => hbl (h ▸ hx)) (hXl x hx)) (ht.kept kb (hDb _) fun x hx h => hbS (h ▸ hx)) (hk.kept byteEl_k kw2 hDw) (hv.kept byteEl_k kw2 hDw) hbl hbS hD hmb hkl hvl hsz).mono ?_
  rintro e w3 ⟨he, t3, k3⟩
  exact ⟨he, t3, kw2.trans k3 fun x h => .inl (.inl h)⟩
theorem left_done {seed : Int} {D X : Nat → Prop} {m b : Nat} {kv vv : Value} {l r : Tr} {k v : Bts} {pl pr p : Option Nat} {Sr S : List Nat} {s0 d0 : Int} {w w1 : World}
    (hm : w.cell? ⟨m, 1, none⟩ = some (.int .u64 seed)) (ho : w.heap[b]? = some (nodeObj kv vv (coin seed 3 k) pl pr s0 d0)) (hk : BV D w kv k) (hv : BV D w vv v) (hr : TreeAt seed D w r pr Sr)
    (k1 : Kept X w w1) (ht : TreeAt seed D w1 l p S) (hXb : ¬ X b) (hXm : ¬ X m) (hXr : ∀ x ∈ Sr, ¬ X x) (hXD : ∀ x, D x → x < w.heap.size → ¬ X x) (hbr : b ∉ Sr) (hbS : b ∉ S) (hD : ¬ D b) (hmb : m ≠ b)
    (hkl : k.length ≤ 64) (hvl : v.length ≤ 1000) (hsz : l.size + r.size ≤ 1000000000) :
    Calls Try.prog 169 #[.pointer (some ⟨m, 0, none⟩), .pointer (some ⟨b, 0, none⟩)] (w1.setCell ⟨b, 3, none⟩ (.pointer (adr p))) fun e w' => e = .returned (.pointer (some ⟨b, 0, none⟩)) ∧ TreeAt seed D w' (.nd l k v r) (some b) (b :: (S ++ Sr)) ∧ Kept (fun x => x = b ∨ X x) w w' := by
  have ho2 : (w1.setCell ⟨b, 3, none⟩ (.pointer (adr p))).heap[b]? = some (nodeObj kv vv (coin seed 3 k) p pr s0 d0) := setCell_obj (k1.obj hXb ho) _
  have kb : Kept (fun x => x = b) w1 (w1.setCell ⟨b, 3, none⟩ (.pointer (adr p))) := (Kept.refl (fun x => x = b) w1).setCell (p := ⟨b, 3, none⟩) (.inl rfl) _
  generalize w1.setCell ⟨b, 3, none⟩ (.pointer (adr p)) = w2 at *
  have kw2 : Kept (fun x => x = b ∨ X x) w w2 := (k1.mono fun _ h => .inr h).trans kb fun x h => .inl (.inl h)
  have hDb : ∀ (w' : World) x, D x → x < w'.heap.size → ¬ x = b := fun _ x hx _ h => hD (h ▸ hx)
  have hDw : ∀ x, D x → x < w.heap.size → ¬ (x = b ∨ X x) := fun x hx hl h => h.elim (fun h => hD (h ▸ hx)) (hXD x hx hl)
  refine (orfresh_tree (kw2.cell (p := ⟨m, 1, none⟩) (fun h => h.elim hmb hXm) hm) ho2 (ht.kept kb (hDb _) fun x hx h => hbS (h ▸ hx)) (hr.kept kw2 hDw fun x hx h => h.elim (fun h => hbr (h ▸ hx)) (hXr x hx)) (hk.kept byteEl_k kw2 hDw) (hv.kept byteEl_k kw2 hDw) hbS hbr hD hmb hkl hvl hsz).mono ?_
  rintro e w3 ⟨he, t3, k3⟩
  exact ⟨he, t3, kw2.trans k3 fun x h => .inl (.inl h)⟩

/-- Two trees joined, all keys of the first one being less (n: more than the nodes of both). -/
def Tr.mergeN (seed : Int) : Nat → Tr → Tr → Tr
  | 0, a, _ => a
  | _ + 1, nil, b => b
  | _ + 1, nd l k v r, nil => nd l k v r
  | n + 1, nd l1 k1 v1 r1, nd l2 k2 v2 r2 => if aboveK seed k1 k2 = true then nd l1 k1 v1 (mergeN seed n r1 (nd l2 k2 v2 r2)) else nd (mergeN seed n (nd l1 k1 v1 r1) l2) k2 v2 r2
theorem Tr.mergeN_size (seed : Int) : ∀ (n : Nat) (a b : Tr), a.size + b.size < n → (Tr.mergeN seed n a b).size = a.size + b.size
  | 0, _, _, h => by omega
  | n + 1, nil, b, _ => by rw [Tr.mergeN]; simp [Tr.size]
  | n + 1, nd l k v r, nil, _ => by rw [Tr.mergeN]; simp [Tr.size]
  | n + 1, nd l1 k1 v1 r1, nd l2 k2 v2 r2, h => by
    simp only [Tr.size] at h
    have h1 := mergeN_size seed n r1 (nd l2 k2 v2 r2) (by simp only [Tr.size]; omega)
    have h2 := mergeN_size seed n (nd l1 k1 v1 r1) l2 (by simp only [Tr.size]; omega)
    simp only [Tr.size] at h1 h2
    rw [Tr.mergeN]
    split <;> simp only [Tr.size] <;> omega

theorem nodup_parts {b : Nat} {Sl Sr : List Nat} (h : (b :: (Sl ++ Sr)).Nodup) : b ∉ Sl ∧ b ∉ Sr ∧ Sl.Nodup ∧ Sr.Nodup ∧ (∀ x ∈ Sl, x ∉ Sr) ∧ (∀ x ∈ Sr, x ∉ Sl) := by
  rw [List.nodup_cons, List.nodup_append] at h
  obtain ⟨h1, h2, h3, h4⟩ := h
  exact ⟨fun h => h1 (by simp [h]), fun h => h1 (by simp [h]), h2, h3, fun x hx hr => h4 x hx x hr rfl, fun x hx hl => h4 x hl x hx rfl⟩

set_option maxHeartbeats 1000000 in
theorem ormerge_calls {seed : Int} {D : Nat → Prop} {m : Nat} : ∀ (n : Nat) (t1 t2 : Tr) (p1 p2 : Option Nat) (S1 S2 : List Nat) (w : World), t1.size + t2.size < n → TreeAt seed D w t1 p1 S1 → TreeAt seed D w t2 p2 S2 → (S1 ++ S2).Nodup → (∀ b ∈ S1 ++ S2, ¬ D b ∧ b ≠ m) → w.cell? ⟨m, 1, none⟩ = some (.int .u64 seed) → t1.ok → t2.ok → t1.size + t2.size ≤ 800000000 →
    Calls Try.prog 172 #[.pointer (some ⟨m, 0, none⟩), ptr p1, ptr p2] w fun e w' => ∃ p S, e = .returned (ptr p) ∧ TreeAt seed D w' (Tr.mergeN seed n t1 t2) p S ∧ S.Perm (S1 ++ S2) ∧ Kept (· ∈ S1 ++ S2) w w' := by
  intro n
  induction n with
  | zero => intro t1 t2 p1 p2 S1 S2 w hn; omega
  | succ n ih =>
    rintro (_ | ⟨l1, k1, v1, r1⟩) t2 p1 p2 S1 S2 w hn h1 h2 hnd hS hm ok1 ok2 hsz
    · obtain ⟨rfl, rfl⟩ := h1
      show Calls Try.prog 172 #[_, .pointer none, _] w _
      have H2 := Lib.hid h2
      clear h2 hS hm hnd ih
      go_enter Try.func172, Try.ntmps172
      go_wp2
      go_ret
      exact ⟨p2, S2, rfl, by rw [Tr.mergeN]; exact H2.out, List.Perm.refl _, Kept.refl _ _⟩
    · rcases t2 with _ | ⟨l2, k2, v2, r2⟩
      · have H1 := Lib.hid h1
        obtain ⟨b, pl, pr, Sl, Sr, kv, vv, rfl, rfl, _⟩ := h1
        obtain ⟨rfl, rfl⟩ := h2
        show Calls Try.prog 172 #[_, .pointer (some ⟨b, 0, none⟩), .pointer none] w _
        clear hS hm hnd ih
        go_enter Try.func172, Try.ntmps172
        go_wp2
        go_ret
        exact ⟨some b, _, rfl, by rw [Tr.mergeN]; exact H1.out, by simp, Kept.refl _ _⟩
      · have H1 := Lib.hid h1
        have H2 := Lib.hid h2
        obtain ⟨b1, pl1, pr1, Sl1, Sr1, kv1, vv1, rfl, rfl, o1, hk1, hv1, hl1, hr1⟩ := h1
        obtain ⟨b2, pl2, pr2, Sl2, Sr2, kv2, vv2, rfl, rfl, o2, hk2, hv2, hl2, hr2⟩ := h2
        obtain ⟨_, _, _, c3, c4, _, _, fr1⟩ := NodeAt.of o1
        obtain ⟨_, _, _, e3, e4, _, _, fr2⟩ := NodeAt.of o2
        have hnd' := List.nodup_append.1 hnd
        have N1 := Lib.hid (nodup_parts hnd'.1)
        have N2 := Lib.hid (nodup_parts hnd'.2.1)
        have N12 := Lib.hid hnd'.2.2
        have O1 := Lib.hid o1
        have O2 := Lib.hid o2
        have K1 := Lib.hid hk1
        have V1 := Lib.hid hv1
        have L1 := Lib.hid hl1
        have R1 := Lib.hid hr1
        have K2 := Lib.hid hk2
        have V2 := Lib.hid hv2
        have L2 := Lib.hid hl2
        have R2 := Lib.hid hr2
        have HS := Lib.hid hS
        have HM := Lib.hid hm
        have OK1 := Lib.hid ok1
        have OK2 := Lib.hid ok2
        have IH := Lib.hid ih
        have HN := Lib.hid hnd
        simp only [Tr.size] at hsz hn
        clear o1 o2 hk1 hv1 hl1 hr1 hk2 hv2 hl2 hr2 hS hm ok1 ok2 ih hnd hnd' fr1 fr2
        show Calls Try.prog 172 #[_, .pointer (some ⟨b1, 0, none⟩), .pointer (some ⟨b2, 0, none⟩)] w _
        cases ha : aboveK seed k1 k2
        · -- the second one stands above
          go_enter Try.func172, Try.ntmps172
          go_wp2_with fail
          refine (orabove_calls O1.out O2.out K1.out K2.out).mono ?_
          rintro e w' ⟨rfl, n1, rfl⟩
          go_wp2_with fail
          have HA := Lib.hid ha
          clear ha
          have q : ∀ x, x ∈ b1 :: (Sl1 ++ Sr1) ++ Sl2 → x ∈ b1 :: (Sl1 ++ Sr1) ++ b2 :: (Sl2 ++ Sr2) := fun x hx => by
            rcases List.mem_append.1 hx with h | h
            · exact List.mem_append.2 (.inl h)
            · exact List.mem_append.2 (.inr (by simp [h]))
          have q2 : (b1 :: (Sl1 ++ Sr1) ++ Sl2).Nodup := List.nodup_append.2 ⟨(List.nodup_append.1 HN.out).1, N2.out.2.2.1, fun a ha b hb => N12.out a ha b (by simp [hb])⟩
          have z1 : (Tr.nd l1 k1 v1 r1).size + l2.size < n := by simp only [Tr.size]; omega
          have z2 : (Tr.nd l1 k1 v1 r1).size + l2.size ≤ 800000000 := by simp only [Tr.size]; omega
          have z3 := Tr.mergeN_size seed n _ _ z1
          have Z3 := Lib.hid z3
          have Q := Lib.hid q
          refine (IH.out _ _ (some b1) pl2 _ Sl2 _ z1 (by exact H1.out.at rfl) (by exact L2.out.at rfl) q2 (fun x hx => HS.out x (q x hx)) (by exact HM.out) OK1.out OK2.out.1 z2).mono ?_
          rintro e w1 ⟨p, S, rfl, t1, hp, k1⟩
          have hb2 : b2 ∉ b1 :: (Sl1 ++ Sr1) ++ Sl2 := fun h => by
            rcases List.mem_append.1 h with h | h
            · exact N12.out b2 h b2 (by simp) rfl
            · exact N2.out.1 h
          have d3 := (NodeAt.of (k1.obj hb2 O2.out)).c3
          have f3 := (NodeAt.of (k1.obj hb2 O2.out)).fr 3
          have T1 := Lib.hid t1
          have HP := Lib.hid hp
          have KW := Lib.hid (((Kept.refl (fun x => x ∈ b1 :: (Sl1 ++ Sr1) ++ Sl2) w).drewN n1).trans k1 fun _ h => .inl h)
          have B2 := Lib.hid hb2
          clear t1 hp k1 hb2 q q2 z1 z2 z3 c3 c4 e3 e4
          go_wp2_with fail
          have hD := HS.out b2 (List.mem_append.2 (.inr (by simp)))
          refine (left_done (l := Tr.mergeN seed n (.nd l1 k1 v1 r1) l2) (S := S) HM.out O2.out K2.out V2.out R2.out KW.out T1.out B2.out (fun h => (HS.out m (Q.out m h)).2 rfl) ?_ (fun x hx _ h => (HS.out x (Q.out x h)).1 hx) N2.out.2.1 (fun h => B2.out ((HP.out.mem_iff).1 h)) hD.1 (fun h => hD.2 h.symm) OK2.out.2.1.2.1 OK2.out.2.1.2.2 ?_).mono ?_
          · intro x hx h
            rcases List.mem_append.1 h with h | h
            · exact N12.out x h x (by simp [hx]) rfl
            · exact N2.out.2.2.2.2.1 x h hx
          · have := Z3.out
            simp only [Tr.size] at this
            omega
          rintro e w3 ⟨rfl, t3, k3⟩
          have R3 := Lib.hid t3
          have RK := Lib.hid (k3.mono fun x h => show x ∈ b1 :: (Sl1 ++ Sr1) ++ b2 :: (Sl2 ++ Sr2) from h.elim (fun h => List.mem_append.2 (.inr (by simp [h]))) (Q.out x))
          have RP := Lib.hid (show (b2 :: (S ++ Sr2)).Perm (b1 :: (Sl1 ++ Sr1) ++ b2 :: (Sl2 ++ Sr2)) from (List.Perm.cons b2 (by rw [← List.append_assoc]; exact HP.out.append_right Sr2)).trans List.perm_middle.symm)
          clear t3 k3 hD d3 f3
          go_wp2
          go_ret
          exact ⟨some b2, _, rfl, by rw [Tr.mergeN, if_neg (by rw [HA.out]; decide)]; exact R3.out, RP.out, RK.out⟩
        · -- the first one
          go_enter Try.func172, Try.ntmps172
          go_wp2_with fail
          refine (orabove_calls O1.out O2.out K1.out K2.out).mono ?_
          rintro e w' ⟨rfl, n1, rfl⟩
          go_wp2_with fail
          have HA := Lib.hid ha
          clear ha
          have q : ∀ x, x ∈ Sr1 ++ b2 :: (Sl2 ++ Sr2) → x ∈ b1 :: (Sl1 ++ Sr1) ++ b2 :: (Sl2 ++ Sr2) := fun x hx => by
            rcases List.mem_append.1 hx with h | h
            · exact List.mem_append.2 (.inl (by simp [h]))
            · exact List.mem_append.2 (.inr h)
          have q2 : (Sr1 ++ b2 :: (Sl2 ++ Sr2)).Nodup := List.nodup_append.2 ⟨N1.out.2.2.2.1, (List.nodup_append.1 HN.out).2.1, fun a ha b hb => N12.out a (by simp [ha]) b hb⟩
          have z1 : r1.size + (Tr.nd l2 k2 v2 r2).size < n := by simp only [Tr.size]; omega
          have z2 : r1.size + (Tr.nd l2 k2 v2 r2).size ≤ 800000000 := by simp only [Tr.size]; omega
          have z3 := Tr.mergeN_size seed n _ _ z1
          have Z3 := Lib.hid z3
          have Q := Lib.hid q
          refine (IH.out _ _ pr1 (some b2) Sr1 _ _ z1 (by exact R1.out.at rfl) (by exact H2.out.at rfl) q2 (fun x hx => HS.out x (q x hx)) (by exact HM.out) OK1.out.2.2 OK2.out z2).mono ?_
          rintro e w1 ⟨p, S, rfl, t1, hp, k1⟩
          have hb1 : b1 ∉ Sr1 ++ b2 :: (Sl2 ++ Sr2) := fun h => by
            rcases List.mem_append.1 h with h | h
            · exact N1.out.2.1 h
            · exact N12.out b1 (by simp) b1 h rfl
          have d3 := (NodeAt.of (k1.obj hb1 O1.out)).c4
          have f3 := (NodeAt.of (k1.obj hb1 O1.out)).fr 4
          have T1 := Lib.hid t1
          have HP := Lib.hid hp
          have KW := Lib.hid (((Kept.refl (fun x => x ∈ Sr1 ++ b2 :: (Sl2 ++ Sr2)) w).drewN n1).trans k1 fun _ h => .inl h)
          have B1 := Lib.hid hb1
          clear t1 hp k1 hb1 q q2 z1 z2 z3 c3 c4 e3 e4
          go_wp2_with fail
          have hD := HS.out b1 (by simp)
          refine (right_done (r := Tr.mergeN seed n r1 (.nd l2 k2 v2 r2)) (S := S) HM.out O1.out K1.out V1.out L1.out KW.out T1.out B1.out (fun h => (HS.out m (Q.out m h)).2 rfl) ?_ (fun x hx _ h => (HS.out x (Q.out x h)).1 hx) N1.out.1 (fun h => B1.out ((HP.out.mem_iff).1 h)) hD.1 (fun h => hD.2 h.symm) OK1.out.2.1.2.1 OK1.out.2.1.2.2 ?_).mono ?_
          · intro x hx h
            rcases List.mem_append.1 h with h | h
            · exact N1.out.2.2.2.2.1 x hx h
            · exact N12.out x (by simp [hx]) x h rfl
          · have := Z3.out
            simp only [Tr.size] at this
            omega
          rintro e w3 ⟨rfl, t3, k3⟩
          have R3 := Lib.hid t3
          have RK := Lib.hid (k3.mono fun x h => show x ∈ b1 :: (Sl1 ++ Sr1) ++ b2 :: (Sl2 ++ Sr2) from h.elim (fun h => List.mem_append.2 (.inl (by simp [h]))) (Q.out x))
          have RP := Lib.hid (show (b1 :: (Sl1 ++ S)).Perm (b1 :: (Sl1 ++ Sr1) ++ b2 :: (Sl2 ++ Sr2)) from by rw [List.cons_append, List.append_assoc]; exact List.Perm.cons b1 (HP.out.append_left Sl1))
          clear t3 k3 hD d3 f3
          go_wp2
          go_ret
          exact ⟨some b1, _, rfl, by rw [Tr.mergeN, if_pos HA.out]; exact R3.out, RP.out, RK.out⟩
end Go.Proofs.Ytaopjdjbpamhhaa
/- Proved: contracts of the map's functions on nodes: put, drop. Conditions: nodes as a tree in memory, of at most four hundred million pairs of lengths that are allowed. -/
namespace Go.Proofs.Ytaopjdjbpamhhaa
open Go Go.RowKit
set_option linter.unusedVariables false
set_option linter.unusedSimpArgs false

theorem cmpS_zero {a b : Bts} : cmpS a b = 0 ↔ cmpB a b = 0 := by
  unfold cmpS
  split
  · constructor <;> intro h <;> omega
  · split
    · constructor <;> intro h <;> omega
    · constructor <;> intro h <;> omega
theorem cmpS_eq0 {a b : Bts} (h : cmpB a b = 0) : (cmpS a b == 0) = true := beq_iff_eq.2 (cmpS_zero.2 h)
theorem cmpS_ne0 {a b : Bts} (h : ¬ cmpB a b = 0) : (cmpS a b == 0) = false := beq_eq_false_iff_ne.2 fun e => h (cmpS_zero.1 e)

/-- A tree with a pair, in the place of one with its key. -/
def Tr.put (seed : Int) (key val : Bts) : Tr → Tr
  | nil => nd nil key val nil
  | nd l k v r => if cmpB key k = 0 then nd l k val r else if aboveK seed key k = true then nd ((nd l k v r).split key).1 key val ((nd l k v r).split key).2 else if cmpB key k < 0 then nd (l.put seed key val) k v r else nd l k v (r.put seed key val)
theorem Tr.put_size (seed : Int) (key val : Bts) : ∀ t : Tr, (t.put seed key val).size ≤ t.size + 1
  | nil => by simp [Tr.put, Tr.size]
  | nd l k v r => by
    have h1 := put_size seed key val l
    have h2 := put_size seed key val r
    have h3 := Tr.split_size key (nd l k v r)
    simp only [Tr.size] at h3
    rw [Tr.put]
    split
    · simp only [Tr.size]; omega
    · split
      · simp only [Tr.size]; omega
      · split <;> simp only [Tr.size] <;> omega

set_option maxHeartbeats 2000000 in
theorem orput_calls {seed : Int} {D : Nat → Prop} {m bx : Nat} {kx vx : Value} {key val : Bts} (hkl : 1 ≤ key.length ∧ key.length ≤ 64 ∧ val.length ≤ 1000) : ∀ (t : Tr) (p : Option Nat) (S : List Nat) (w : World) (s0 d0 : Int), TreeAt seed D w t p S → S.Nodup → (∀ b ∈ S, ¬ D b ∧ b ≠ m) → w.cell? ⟨m, 1, none⟩ = some (.int .u64 seed) → t.ok → t.size ≤ 400000000 →
    w.heap[bx]? = some (nodeObj kx vx (coin seed 3 key) none none s0 d0) → BV D w kx key → BV D w vx val → bx ∉ S → ¬ D bx → m ≠ bx →
    Calls Try.prog 139 #[.pointer (some ⟨m, 0, none⟩), ptr p, .pointer (some ⟨bx, 0, none⟩)] w fun e w' => ∃ p' S', e = .returned (ptr p') ∧ TreeAt seed D w' (t.put seed key val) p' S' ∧ S'.Nodup ∧ (∀ x ∈ S', x = bx ∨ x ∈ S) ∧ Kept (fun x => x = bx ∨ x ∈ S) w w' := by
  intro t
  induction t with
  | nil =>
    rintro p S w s0 d0 ⟨rfl, rfl⟩ _ _ hm _ _ hx hkx hvx _ hDx hmx
    have HM := Lib.hid hm
    have HX := Lib.hid hx
    have KX := Lib.hid hkx
    have VX := Lib.hid hvx
    clear hm hx hkx hvx
    show Calls Try.prog 139 #[_, .pointer none, _] w _
    go_enter Try.func139, Try.ntmps139
    go_wp2_with fail
    refine (orfresh_tree (l := .nil) (r := .nil) (Sl := []) (Sr := []) HM.out HX.out ⟨rfl, rfl⟩ ⟨rfl, rfl⟩ KX.out VX.out (by simp) (by simp) hDx hmx hkl.2.1 hkl.2.2 (by simp [Tr.size])).mono ?_
    rintro e w1 ⟨rfl, t1, k1⟩
    have T1 := Lib.hid t1
    have K1 := Lib.hid (k1.mono fun x h => show x = bx ∨ x ∈ ([] : List Nat) from .inl h)
    clear t1 k1
    go_wp2
    go_ret
    exact ⟨some bx, [bx], rfl, T1.out, by simp, by simp, K1.out⟩
  | nd l k v r ihl ihr =>
    rintro p S w s0 d0 h hnd hS hm hok hsz hx hkx hvx hbx hDx hmx
    have HT := Lib.hid h
    obtain ⟨b, pl, pr, Sl, Sr, kv, vv, rfl, rfl, ho, hk, hv, hl, hr⟩ := h
    obtain ⟨c0, c1, _, c3, c4, _, _, fr⟩ := NodeAt.of ho
    obtain ⟨x0, x1, _, x3, x4, _, _, fx⟩ := NodeAt.of hx
    have f1 := fr 1
    obtain ⟨ax, cx, rfl, _⟩ : ∃ a c, vx = .slice a val.length c ∧ True := by obtain ⟨a, c, h, _⟩ := hvx; exact ⟨a, c, h, trivial⟩
    have HO := Lib.hid ho
    have HK := Lib.hid hk
    have HV := Lib.hid hv
    have HL := Lib.hid hl
    have HR := Lib.hid hr
    have HS := Lib.hid hS
    have N := Lib.hid (nodup_parts hnd)
    have HN := Lib.hid hnd
    have HM := Lib.hid hm
    have OK := Lib.hid hok
    have HX := Lib.hid hx
    have KX := Lib.hid hkx
    have VX := Lib.hid hvx
    have IL := Lib.hid ihl
    have IR := Lib.hid ihr
    have BX := Lib.hid hbx
    have HD := Lib.hid (hS b (by simp))
    have bxb : bx ≠ b := fun h => hbx (by simp [h])
    have BXB := Lib.hid bxb
    have TS := Lib.hid (Tr.split_size key (.nd l k v r))
    simp only [Tr.size] at hsz
    clear ho hk hv hl hr hS hm hok hx hkx hvx ihl ihr hbx hnd fr fx
    show Calls Try.prog 139 #[_, .pointer (some ⟨b, 0, none⟩), _] w _
    by_cases e0 : cmpB key k = 0
    · have t0 := cmpS_eq0 e0
      have E0 := Lib.hid e0
      clear e0
      go_enter Try.func139, Try.ntmps139
      go_wp2
      go_quiet ((go_at_call 154; first | exact Drew.q (byCompare_drew (KX.out.at rfl) (HK.out.at rfl)) | exact Drew.qa (byCompare_drew (KX.out.at rfl) (HK.out.at rfl))))
      go_wp2_with fail
      have ho2 : (w.setCell ⟨b, 1, none⟩ (.slice ax val.length cx)).heap[b]? = some (nodeObj kv (.slice ax val.length cx) (coin seed 3 k) pl pr ((1 + l.size + r.size : Nat) : Int) ((Tr.nd l k v r).dg seed)) := setCell_obj HO.out _
      have kb : Kept (fun x => x = b) w (w.setCell ⟨b, 1, none⟩ (.slice ax val.length cx)) := (Kept.refl (fun x => x = b) w).setCell (p := ⟨b, 1, none⟩) (.inl rfl) _
      have hDb : ∀ x, D x → x < w.heap.size → ¬ x = b := fun x hx _ h => HD.out.1 (h ▸ hx)
      have M2 := Lib.hid (kb.cell (p := ⟨m, 1, none⟩) (fun h => HD.out.2 h.symm) HM.out)
      have L2 := Lib.hid (HL.out.kept kb hDb fun x hx h => N.out.1 (h ▸ hx))
      have R2 := Lib.hid (HR.out.kept kb hDb fun x hx h => N.out.2.1 (h ▸ hx))
      have K2 := Lib.hid (HK.out.kept byteEl_k kb hDb)
      have V2 := Lib.hid (VX.out.kept byteEl_k kb hDb)
      have KB := Lib.hid kb
      have O2 := Lib.hid ho2
      clear kb ho2 hDb c0 c1 c3 c4 x0 x1 x3 x4 f1
      refine (orfresh_tree (by exact M2.out) (by exact O2.out) (by exact L2.out.at rfl) (by exact R2.out.at rfl) (by exact K2.out.at rfl) (by exact V2.out.at rfl) N.out.1 N.out.2.1 HD.out.1 (fun h => HD.out.2 h.symm) OK.out.2.1.2.1 hkl.2.2 (by omega)).mono ?_
      rintro e w1 ⟨rfl, t1, k1⟩
      have T1 := Lib.hid t1
      have K1 := Lib.hid (((KB.out.drewN _).trans k1 fun _ h => .inl h).mono fun x h => show x = bx ∨ x ∈ b :: (Sl ++ Sr) from .inr (by simp [h]))
      clear t1 k1
      go_wp2
      go_ret
      exact ⟨some b, _, rfl, by rw [Tr.put, if_pos E0.out]; exact T1.out, HN.out, fun x hx => .inr hx, K1.out⟩
    · have t0 := cmpS_ne0 e0
      have E0 := Lib.hid e0
      clear e0
      cases ha : aboveK seed key k
      · by_cases hc : cmpB key k < 0
        · have h3 := cmpS_lt hc
          have HC := Lib.hid hc
          clear hc
          go_enter Try.func139, Try.ntmps139
          go_wp2
          go_quiet ((go_at_call 154; first | exact Drew.q (byCompare_drew (KX.out.at rfl) (HK.out.at rfl)) | exact Drew.qa (byCompare_drew (KX.out.at rfl) (HK.out.at rfl))))
          go_wp2_with fail
          refine (orabove_calls (by exact HX.out) (by exact HO.out) (by exact KX.out.at rfl) (by exact HK.out.at rfl)).mono ?_
          rintro e w1 ⟨rfl, n1, rfl⟩
          go_wp2_with fail
          have HA := Lib.hid ha
          clear ha
          have hq : ∀ x ∈ Sl, x ∈ b :: (Sl ++ Sr) := fun x h => by simp [h]
          have HQ := Lib.hid hq
          have Z := Lib.hid (Tr.put_size seed key val l)
          have sz : l.size ≤ 400000000 := by omega
          refine (IL.out pl Sl _ s0 d0 (by exact HL.out.at rfl) N.out.2.2.1 (fun x hx => HS.out x (hq x hx)) (by exact HM.out) OK.out.1 sz (by exact HX.out) (by exact KX.out.at rfl) (by exact VX.out.at rfl) (fun h => BX.out (hq bx h)) hDx hmx).mono ?_
          rintro e w1 ⟨p, S, rfl, t1, nS, hp, k1⟩
          have hb1 : ¬ (b = bx ∨ b ∈ Sl) := fun h => h.elim (fun h => BXB.out h.symm) N.out.1
          have d3 := (NodeAt.of (k1.obj hb1 HO.out)).c3
          have f3 := (NodeAt.of (k1.obj hb1 HO.out)).fr 3
          have T1 := Lib.hid t1
          have NS := Lib.hid nS
          have HP := Lib.hid hp
          have KW := Lib.hid (((Kept.refl (fun x => x = bx ∨ x ∈ Sl) w).drewN _).trans k1 fun _ h => .inl h)
          have B1 := Lib.hid hb1
          clear t1 hp k1 hb1 hq nS c0 c1 c3 c4 x0 x1 x3 x4 f1 HX
          go_wp2_with fail
          refine (left_done (l := l.put seed key val) (S := S) HM.out HO.out HK.out HV.out HR.out KW.out T1.out B1.out (fun h => h.elim hmx fun h => (HS.out m (HQ.out m h)).2 rfl) ?_ (fun x hx _ h => h.elim (fun h => hDx (h ▸ hx)) fun h => (HS.out x (HQ.out x h)).1 hx) N.out.2.1 (fun h => B1.out (HP.out b h)) HD.out.1 (fun h => HD.out.2 h.symm) OK.out.2.1.2.1 OK.out.2.1.2.2 (by have := Z.out; omega)).mono ?_
          · exact fun x hx h => h.elim (fun h => BX.out (by simp [← h, hx])) fun h => N.out.2.2.2.2.1 x h hx
          rintro e w3 ⟨rfl, t3, k3⟩
          have R3 := Lib.hid t3
          have RK := Lib.hid (k3.mono fun x h => show x = bx ∨ x ∈ b :: (Sl ++ Sr) from h.elim (fun h => .inr (by simp [h])) fun h => h.imp id (HQ.out x))
          have RI := Lib.hid (show ∀ x ∈ b :: (S ++ Sr), x = bx ∨ x ∈ b :: (Sl ++ Sr) from fun x hx => by
            rcases List.mem_cons.1 hx with h | h
            · exact .inr (by simp [h])
            · rcases List.mem_append.1 h with h | h
              · exact (HP.out x h).imp id (HQ.out x)
              · exact .inr (by simp [h]))
          have RN := Lib.hid (show (b :: (S ++ Sr)).Nodup from by
            rw [List.nodup_cons, List.nodup_append, List.mem_append]
            refine ⟨fun h => h.elim (fun h => B1.out (HP.out b h)) N.out.2.1, NS.out, N.out.2.2.2.1, fun x hx y hy e => ?_⟩
            subst e
            exact (HP.out x hx).elim (fun h => BX.out (by simp [← h, hy])) fun h => N.out.2.2.2.2.1 x h hy)
          clear t3 k3 d3 f3
          go_wp2
          go_ret
          exact ⟨some b, _, rfl, by rw [Tr.put, if_neg E0.out, if_neg (by rw [HA.out]; decide), if_pos HC.out]; exact R3.out, RN.out, RI.out, RK.out⟩
        · have h3 := cmpS_ge hc
          have HC := Lib.hid hc
          clear hc
          go_enter Try.func139, Try.ntmps139
          go_wp2
          go_quiet ((go_at_call 154; first | exact Drew.q (byCompare_drew (KX.out.at rfl) (HK.out.at rfl)) | exact Drew.qa (byCompare_drew (KX.out.at rfl) (HK.out.at rfl))))
          go_wp2_with fail
          refine (orabove_calls (by exact HX.out) (by exact HO.out) (by exact KX.out.at rfl) (by exact HK.out.at rfl)).mono ?_
          rintro e w1 ⟨rfl, n1, rfl⟩
          go_wp2_with fail
          have HA := Lib.hid ha
          clear ha
          have hq : ∀ x ∈ Sr, x ∈ b :: (Sl ++ Sr) := fun x h => by simp [h]
          have HQ := Lib.hid hq
          have Z := Lib.hid (Tr.put_size seed key val r)
          have sz : r.size ≤ 400000000 := by omega
          refine (IR.out pr Sr _ s0 d0 (by exact HR.out.at rfl) N.out.2.2.2.1 (fun x hx => HS.out x (hq x hx)) (by exact HM.out) OK.out.2.2 sz (by exact HX.out) (by exact KX.out.at rfl) (by exact VX.out.at rfl) (fun h => BX.out (hq bx h)) hDx hmx).mono ?_
          rintro e w1 ⟨p, S, rfl, t1, nS, hp, k1⟩
          have hb1 : ¬ (b = bx ∨ b ∈ Sr) := fun h => h.elim (fun h => BXB.out h.symm) N.out.2.1
          have d3 := (NodeAt.of (k1.obj hb1 HO.out)).c4
          have f3 := (NodeAt.of (k1.obj hb1 HO.out)).fr 4
          have T1 := Lib.hid t1
          have NS := Lib.hid nS
          have HP := Lib.hid hp
          have KW := Lib.hid (((Kept.refl (fun x => x = bx ∨ x ∈ Sr) w).drewN _).trans k1 fun _ h => .inl h)
          have B1 := Lib.hid hb1
          clear t1 hp k1 hb1 hq nS c0 c1 c3 c4 x0 x1 x3 x4 f1 HX
          go_wp2_with fail
          refine (right_done (r := r.put seed key val) (S := S) HM.out HO.out HK.out HV.out HL.out KW.out T1.out B1.out (fun h => h.elim hmx fun h => (HS.out m (HQ.out m h)).2 rfl) ?_ (fun x hx _ h => h.elim (fun h => hDx (h ▸ hx)) fun h => (HS.out x (HQ.out x h)).1 hx) N.out.1 (fun h => B1.out (HP.out b h)) HD.out.1 (fun h => HD.out.2 h.symm) OK.out.2.1.2.1 OK.out.2.1.2.2 (by have := Z.out; omega)).mono ?_
          · exact fun x hx h => h.elim (fun h => BX.out (by simp [← h, hx])) fun h => N.out.2.2.2.2.1 x hx h
          rintro e w3 ⟨rfl, t3, k3⟩
          have R3 := Lib.hid t3
          have RK := Lib.hid (k3.mono fun x h => show x = bx ∨ x ∈ b :: (Sl ++ Sr) from h.elim (fun h => .inr (by simp [h])) fun h => h.imp id (HQ.out x))
          have RI := Lib.hid (show ∀ x ∈ b :: (Sl ++ S), x = bx ∨ x ∈ b :: (Sl ++ Sr) from fun x hx => by
            rcases List.mem_cons.1 hx with h | h
            · exact .inr (by simp [h])
            · rcases List.mem_append.1 h with h | h
              · exact .inr (by simp [h])
              · exact (HP.out x h).imp id (HQ.out x))
          have RN := Lib.hid (show (b :: (Sl ++ S)).Nodup from by
            rw [List.nodup_cons, List.nodup_append, List.mem_append]
            refine ⟨fun h => h.elim N.out.1 (fun h => B1.out (HP.out b h)), N.out.2.2.1, NS.out, fun x hx y hy e => ?_⟩
            subst e
            exact (HP.out x hy).elim (fun h => BX.out (by simp [← h, hx])) fun h => N.out.2.2.2.2.1 x hx h)
          clear t3 k3 d3 f3
          go_wp2
          go_ret
          exact ⟨some b, _, rfl, by rw [Tr.put, if_neg E0.out, if_neg (by rw [HA.out]; decide), if_neg (by have := HC.out; omega)]; exact R3.out, RN.out, RI.out, RK.out⟩
      · go_enter Try.func139, Try.ntmps139
        go_wp2
        go_quiet ((go_at_call 154; first | exact Drew.q (byCompare_drew (KX.out.at rfl) (HK.out.at rfl)) | exact Drew.qa (byCompare_drew (KX.out.at rfl) (HK.out.at rfl))))
        go_wp2_with fail
        refine (orabove_calls (by exact HX.out) (by exact HO.out) (by exact KX.out.at rfl) (by exact HK.out.at rfl)).mono ?_
        rintro e w1 ⟨rfl, n1, rfl⟩
        go_wp2_with fail
        have HA := Lib.hid ha
        clear ha
        have sz : (Tr.nd l k v r).size ≤ 500000000 := by simp only [Tr.size]; omega
        refine (orsplit_calls (D2 := D) (.nd l k v r) (some b) _ _ (by exact HT.out.at rfl) HN.out (fun x hx => ⟨(HS.out x hx).1, HS.out x hx⟩) (by exact HM.out) OK.out sz (by exact KX.out.at rfl)).mono ?_
        rintro e w1 ⟨p1, p2, S1, S2, rfl, t1, t2, hp, k1⟩
        have ox := k1.obj BX.out HX.out
        have d3 := (NodeAt.of ox).c3
        have d4 := (NodeAt.of ox).c4
        have f3 := (NodeAt.of ox).fr 3
        have f4 := (NodeAt.of ox).fr 4
        have ho2 : ((w1.setCell ⟨bx, 3, none⟩ (.pointer (adr p1))).setCell ⟨bx, 4, none⟩ (.pointer (adr p2))).heap[bx]? = some (nodeObj kx (.slice ax val.length cx) (coin seed 3 key) p1 p2 s0 d0) := setCell_obj (setCell_obj ox _) _
        have kb : Kept (fun x => x = bx) w1 ((w1.setCell ⟨bx, 3, none⟩ (.pointer (adr p1))).setCell ⟨bx, 4, none⟩ (.pointer (adr p2))) := ((Kept.refl (fun x => x = bx) w1).setCell (p := ⟨bx, 3, none⟩) (.inl rfl) _).setCell (p := ⟨bx, 4, none⟩) (.inl rfl) _
        have hDb : ∀ x, D x → x < w1.heap.size → ¬ x = bx := fun x hx _ h => hDx (h ▸ hx)
        have hDs : ∀ (w2 : World) x, D x → x < w2.heap.size → ¬ x ∈ b :: (Sl ++ Sr) := fun _ x hx _ h => (HS.out x h).1 hx
        have hS1 : ∀ x ∈ S1, x ∈ b :: (Sl ++ Sr) := fun x hx => (hp.mem_iff).1 (by simp [hx])
        have hS2 : ∀ x ∈ S2, x ∈ b :: (Sl ++ Sr) := fun x hx => (hp.mem_iff).1 (by simp [hx])
        have M2 := Lib.hid (kb.cell (p := ⟨m, 1, none⟩) hmx (k1.cell (p := ⟨m, 1, none⟩) (fun h => (HS.out m h).2 rfl) HM.out))
        have A1 := Lib.hid (t1.kept kb hDb fun x hx h => BX.out (h ▸ hS1 x hx))
        have A2 := Lib.hid (t2.kept kb hDb fun x hx h => BX.out (h ▸ hS2 x hx))
        have K2 := Lib.hid (((HK.out.at rfl : BV D (w.drewN 0) kv k).at rfl : BV D w kv k))
        have KX2 := Lib.hid (((KX.out.kept byteEl_k ((Kept.refl (fun x => x ∈ b :: (Sl ++ Sr)) w).drewN 0) (hDs _)).at rfl : BV D w kx key))
        have KW := Lib.hid (show Kept (fun x => x ∈ b :: (Sl ++ Sr)) w w1 from ((Kept.refl _ w).drewN _).trans k1 fun _ h => .inl h)
        have KX3 := Lib.hid ((KX.out.kept byteEl_k KW.out (hDs _)).kept byteEl_k kb hDb)
        have VX3 := Lib.hid ((VX.out.kept byteEl_k KW.out (hDs _)).kept byteEl_k kb hDb)
        have HP := Lib.hid hp
        have O2 := Lib.hid ho2
        have KB := Lib.hid kb
        have B1 := Lib.hid (fun h => BX.out (hS1 bx h))
        have B2 := Lib.hid (fun h => BX.out (hS2 bx h))
        clear t1 t2 hp k1 kb ho2 ox hDb hDs hS1 hS2 c0 c1 c3 c4 x0 x1 x3 x4 f1 HX K2 KX2
        go_wp2_with fail
        refine (orfresh_tree (by exact M2.out) (by exact O2.out) (by exact A1.out) (by exact A2.out) (by exact KX3.out) (by exact VX3.out) B1.out B2.out hDx hmx hkl.2.1 hkl.2.2 (by have := TS.out; simp only [Tr.size] at this; omega)).mono ?_
        rintro e w3 ⟨rfl, t3, k3⟩
        have R3 := Lib.hid t3
        have RK := Lib.hid (((KW.out.mono fun x h => show x = bx ∨ x ∈ b :: (Sl ++ Sr) from .inr h).trans KB.out fun x h => .inl (.inl h)).trans k3 fun x h => .inl (.inl h))
        have RI := Lib.hid (show ∀ x ∈ bx :: (S1 ++ S2), x = bx ∨ x ∈ b :: (Sl ++ Sr) from fun x hx => (List.mem_cons.1 hx).imp id fun h => (HP.out.mem_iff).1 h)
        have RN := Lib.hid (show (bx :: (S1 ++ S2)).Nodup from List.nodup_cons.2 ⟨fun h => BX.out ((HP.out.mem_iff).1 h), (HP.out.nodup_iff).2 HN.out⟩)
        clear t3 k3 d3 d4 f3 f4
        go_wp2
        go_ret
        exact ⟨some bx, _, rfl, by rw [Tr.put, if_neg E0.out, if_pos HA.out]; exact R3.out, RN.out, RI.out, RK.out⟩
end Go.Proofs.Ytaopjdjbpamhhaa
/- Proved: the contract of the map's function drop on nodes. Conditions: nodes as a tree in memory, of at most four hundred million pairs of lengths that are allowed; the key is there. -/
namespace Go.Proofs.Ytaopjdjbpamhhaa
open Go Go.RowKit
set_option linter.unusedVariables false
set_option linter.unusedSimpArgs false

/-- Whether a key is met on the way down. -/
def Tr.has (key : Bts) : Tr → Bool
  | nil => false
  | nd l k _ r => if cmpB key k = 0 then true else if cmpB key k < 0 then l.has key else r.has key
/-- A tree without a key. -/
def Tr.drop (seed : Int) (key : Bts) : Tr → Tr
  | nil => nil
  | nd l k v r => if cmpB key k = 0 then Tr.mergeN seed (l.size + r.size + 1) l r else if cmpB key k < 0 then nd (l.drop seed key) k v r else nd l k v (r.drop seed key)
theorem Tr.drop_size (seed : Int) (key : Bts) : ∀ t : Tr, (t.drop seed key).size ≤ t.size
  | nil => by simp [Tr.drop, Tr.size]
  | nd l k v r => by
    have h1 := drop_size seed key l
    have h2 := drop_size seed key r
    have h3 := Tr.mergeN_size seed (l.size + r.size + 1) l r (by omega)
    rw [Tr.drop]
    split
    · simp only [Tr.size]; omega
    · split <;> simp only [Tr.size] <;> omega

set_option maxRecDepth 100000 in
set_option maxHeartbeats 2000000 in
theorem ordrop_calls {seed : Int} {D D2 : Nat → Prop} {m : Nat} {kx : Value} {key : Bts} : ∀ (t : Tr) (p : Option Nat) (S : List Nat) (w : World), TreeAt seed D w t p S → S.Nodup → (∀ b ∈ S, ¬ D b ∧ ¬ D2 b ∧ b ≠ m) → w.cell? ⟨m, 1, none⟩ = some (.int .u64 seed) → t.ok → t.size ≤ 400000000 → BV D2 w kx key → t.has key = true →
    Calls Try.prog 141 #[.pointer (some ⟨m, 0, none⟩), ptr p, kx] w fun e w' => ∃ p' S', e = .returned (ptr p') ∧ TreeAt seed D w' (t.drop seed key) p' S' ∧ S'.Nodup ∧ (∀ x ∈ S', x ∈ S) ∧ Kept (fun x => x ∈ S) w w' := by
  intro t
  induction t with
  | nil => intro p S w _ _ _ _ _ _ _ h; cases h
  | nd l k v r ihl ihr =>
    rintro p S w h hnd hS hm hok hsz hkx hhas
    obtain ⟨b, pl, pr, Sl, Sr, kv, vv, rfl, rfl, ho, hk, hv, hl, hr⟩ := h
    obtain ⟨c0, c1, _, c3, c4, _, _, fr⟩ := NodeAt.of ho
    have HO := Lib.hid ho
    have HK := Lib.hid hk
    have HV := Lib.hid hv
    have HL := Lib.hid hl
    have HR := Lib.hid hr
    have HS := Lib.hid hS
    have N := Lib.hid (nodup_parts hnd)
    have HN := Lib.hid hnd
    have HM := Lib.hid hm
    have OK := Lib.hid hok
    have KX := Lib.hid hkx
    have IL := Lib.hid ihl
    have IR := Lib.hid ihr
    have HD := Lib.hid (hS b (by simp))
    simp only [Tr.size] at hsz
    clear ho hk hv hl hr hS hm hok hkx ihl ihr hnd fr
    show Calls Try.prog 141 #[_, .pointer (some ⟨b, 0, none⟩), _] w _
    by_cases e0 : cmpB key k = 0
    · have t0 := cmpS_eq0 e0
      have E0 := Lib.hid e0
      clear e0 hhas
      go_enter Try.func141, Try.ntmps141
      go_wp2_with fail
      refine (byCompare_calls KX.out HK.out).mono ?_
      rintro e w' ⟨rfl, rfl⟩
      go_wp2_with fail
      refine wp_region_still_tail 9 (by kernel_rfl) (by kernel_rfl) ?_
      simp only [List.take_succ_cons, List.take_zero, List.drop_succ_cons, List.drop_zero]
      repeat still_step
      try refine wpStill_nil ?_
      change wpList _ _ _ _ _ w'.drew
      go_wp2_with fail
      have q1 : (Sl ++ Sr).Nodup := (List.nodup_cons.1 HN.out).2
      have z1 : l.size + r.size < l.size + r.size + 1 := by omega
      have z2 : l.size + r.size ≤ 800000000 := by omega
      refine (ormerge_calls _ l r pl pr Sl Sr _ z1 (by exact HL.out.at rfl) (by exact HR.out.at rfl) q1 (fun x hx => ⟨(HS.out x (by simp [List.mem_append.1 hx])).1, (HS.out x (by simp [List.mem_append.1 hx])).2.2⟩) (by exact HM.out) OK.out.1 OK.out.2.2 z2).mono ?_
      rintro e w1 ⟨p, S, rfl, t1, hp, k1⟩
      have T1 := Lib.hid t1
      have HP := Lib.hid hp
      have Q1 := Lib.hid q1
      have K1 := Lib.hid (((Kept.refl (fun x => x ∈ b :: (Sl ++ Sr)) w').drew).trans k1 fun x h => .inl (by simp [List.mem_append.1 h]))
      clear t1 hp k1 q1 z1 z2
      go_wp2
      go_ret
      exact ⟨p, S, rfl, by rw [Tr.drop, if_pos E0.out]; exact T1.out, (HP.out.nodup_iff).2 Q1.out, fun x hx => List.mem_cons_of_mem _ ((HP.out.mem_iff).1 hx), K1.out⟩
    · have t0 := cmpS_ne0 e0
      have E0 := Lib.hid e0
      clear e0
      by_cases hc : cmpB key k < 0
      · have h3 := cmpS_lt hc
        have HC := Lib.hid hc
        have HH := Lib.hid (show l.has key = true by simpa [Tr.has, E0.out, hc] using hhas)
        clear hc hhas
        go_enter Try.func141, Try.ntmps141
        go_wp2_with fail
        refine (byCompare_calls KX.out HK.out).mono ?_
        rintro e w' ⟨rfl, rfl⟩
        go_wp2_with fail
        have hq : ∀ x ∈ Sl, x ∈ b :: (Sl ++ Sr) := fun x h => by simp [h]
        have HQ := Lib.hid hq
        have Z := Lib.hid (Tr.drop_size seed key l)
        have sz : l.size ≤ 400000000 := by omega
        refine (IL.out pl Sl _ HL.out N.out.2.2.1 (fun x hx => HS.out x (hq x hx)) HM.out OK.out.1 sz KX.out HH.out).mono ?_
        rintro e w1 ⟨p, S, rfl, t1, nS, hp, k1⟩
        have d3 := (NodeAt.of (k1.obj N.out.1 HO.out)).c3
        have f3 := (NodeAt.of (k1.obj N.out.1 HO.out)).fr 3
        have T1 := Lib.hid t1
        have NS := Lib.hid nS
        have HP := Lib.hid hp
        have KW := Lib.hid k1
        clear t1 hp k1 hq nS c0 c1 c3 c4
        go_wp2_with fail
        refine (left_done (l := l.drop seed key) (S := S) HM.out HO.out HK.out HV.out HR.out KW.out T1.out N.out.1 (fun h => (HS.out m (HQ.out m h)).2.2 rfl) ?_ (fun x hx _ h => (HS.out x (HQ.out x h)).1 hx) N.out.2.1 (fun h => N.out.1 (HP.out b h)) HD.out.1 (fun h => HD.out.2.2 h.symm) OK.out.2.1.2.1 OK.out.2.1.2.2 (by have := Z.out; omega)).mono ?_
        · exact fun x hx h => N.out.2.2.2.2.1 x h hx
        rintro e w3 ⟨rfl, t3, k3⟩
        have R3 := Lib.hid t3
        have RK := Lib.hid (k3.mono fun x h => show x ∈ b :: (Sl ++ Sr) from h.elim (fun h => by simp [h]) (HQ.out x))
        have RI := Lib.hid (show ∀ x ∈ b :: (S ++ Sr), x ∈ b :: (Sl ++ Sr) from fun x hx => by
          rcases List.mem_cons.1 hx with h | h
          · simp [h]
          · rcases List.mem_append.1 h with h | h
            · exact HQ.out x (HP.out x h)
            · simp [h])
        have RN := Lib.hid (show (b :: (S ++ Sr)).Nodup from by
          rw [List.nodup_cons, List.nodup_append, List.mem_append]
          refine ⟨fun h => h.elim (fun h => N.out.1 (HP.out b h)) N.out.2.1, NS.out, N.out.2.2.2.1, fun x hx y hy e => ?_⟩
          subst e
          exact N.out.2.2.2.2.1 x (HP.out x hx) hy)
        clear t3 k3 d3 f3
        go_wp2
        go_ret
        exact ⟨some b, _, rfl, by rw [Tr.drop, if_neg E0.out, if_pos HC.out]; exact R3.out, RN.out, RI.out, RK.out⟩
      · have h3 := cmpS_ge hc
        have HC := Lib.hid hc
        have HH := Lib.hid (show r.has key = true by simpa [Tr.has, E0.out, hc] using hhas)
        clear hc hhas
        go_enter Try.func141, Try.ntmps141
        go_wp2_with fail
        refine (byCompare_calls KX.out HK.out).mono ?_
        rintro e w' ⟨rfl, rfl⟩
        go_wp2_with fail
        have hq : ∀ x ∈ Sr, x ∈ b :: (Sl ++ Sr) := fun x h => by simp [h]
        have HQ := Lib.hid hq
        have Z := Lib.hid (Tr.drop_size seed key r)
        have sz : r.size ≤ 400000000 := by omega
        refine (IR.out pr Sr _ HR.out N.out.2.2.2.1 (fun x hx => HS.out x (hq x hx)) HM.out OK.out.2.2 sz KX.out HH.out).mono ?_
        rintro e w1 ⟨p, S, rfl, t1, nS, hp, k1⟩
        have d3 := (NodeAt.of (k1.obj N.out.2.1 HO.out)).c4
        have f3 := (NodeAt.of (k1.obj N.out.2.1 HO.out)).fr 4
        have T1 := Lib.hid t1
        have NS := Lib.hid nS
        have HP := Lib.hid hp
        have KW := Lib.hid k1
        clear t1 hp k1 hq nS c0 c1 c3 c4
        go_wp2_with fail
        refine (right_done (r := r.drop seed key) (S := S) HM.out HO.out HK.out HV.out HL.out KW.out T1.out N.out.2.1 (fun h => (HS.out m (HQ.out m h)).2.2 rfl) ?_ (fun x hx _ h => (HS.out x (HQ.out x h)).1 hx) N.out.1 (fun h => N.out.2.1 (HP.out b h)) HD.out.1 (fun h => HD.out.2.2 h.symm) OK.out.2.1.2.1 OK.out.2.1.2.2 (by have := Z.out; omega)).mono ?_
        · exact fun x hx h => N.out.2.2.2.2.1 x hx h
        rintro e w3 ⟨rfl, t3, k3⟩
        have R3 := Lib.hid t3
        have RK := Lib.hid (k3.mono fun x h => show x ∈ b :: (Sl ++ Sr) from h.elim (fun h => by simp [h]) (HQ.out x))
        have RI := Lib.hid (show ∀ x ∈ b :: (Sl ++ S), x ∈ b :: (Sl ++ Sr) from fun x hx => by
          rcases List.mem_cons.1 hx with h | h
          · simp [h]
          · rcases List.mem_append.1 h with h | h
            · simp [h]
            · exact HQ.out x (HP.out x h))
        have RN := Lib.hid (show (b :: (Sl ++ S)).Nodup from by
          rw [List.nodup_cons, List.nodup_append, List.mem_append]
          refine ⟨fun h => h.elim N.out.1 (fun h => N.out.2.1 (HP.out b h)), N.out.2.2.1, NS.out, fun x hx y hy e => ?_⟩
          subst e
          exact N.out.2.2.2.2.1 x hx (HP.out x hy))
        clear t3 k3 d3 f3
        go_wp2
        go_ret
        exact ⟨some b, _, rfl, by rw [Tr.drop, if_neg E0.out, if_neg (by have := HC.out; omega)]; exact R3.out, RN.out, RI.out, RK.out⟩
end Go.Proofs.Ytaopjdjbpamhhaa
/- Proved: a law for a range over a function whose rounds are handed values that lead into memory. Condition: the iterator's contract tells what the memory holds at each round. -/
namespace Go.Proofs.Ytaopjdjbpamhhaa
open Go Go.RowKit
set_option linter.unusedVariables false
set_option linter.unusedSimpArgs false

theorem Kept.putObj {S : Nat → Prop} {a w : World} {l : Nat} (h : Kept S a w) (hp : S l ∨ a.heap.size ≤ l) (o : Obj) : Kept S a (w.putObj l o) :=
  h.grown (grownBy_putObj' w l o) fun k hk => by cases hk; exact hp

/-- What a round keeps: all blocks from the loop's own ones on that were there ahead of the first round. -/
abbrev KpN (B N : Nat) (W W' : World) : Prop := Kept (fun b => b < B ∨ N ≤ b) W W'

section
variable {α : Type} {P : Program} {g : Operand} {ps : Array Tmp} {assign body : Code} {Q : Exit → Act → World → Prop} {a : Act} {w : World} {gf : Nat} {lb : Array Value} {encs : α → Array Value} {n : Nat}
/-- How a body may be left: on, or by a jump out of the loop. -/
def roundEnd (B : Nat) (I Ix : Nat → List α → World → Prop) (N : Nat) (xs : List α) (W : World) : Exit → Act → World → Prop
  | .normal, _, W' => KpN B N W W' ∧ I N xs W'
  | .exit id, _, W' => id = 0 ∧ KpN B N W W' ∧ Ix N xs W'
  | _, _, _ => False
/-- What an iterator is asked: it hands on the elements, one by one, each as Rx says, until a round ends the loop. -/
def IterRel (n : Nat) (P : Program) (gf : Nat) (lb : Array Value) (encs : α → Array Value) (B : Nat) (Rx : Nat → α → World → Prop) (S Sp : List α → Prop) (M : Nat) (W : World) : Prop :=
  ∀ (J Jx : Nat → List α → World → Prop),
    (∀ N pre x W1, B + 2 ≤ N → pre.length < M → J N pre W1 → Rx N x W1 → YieldAt Fence.wide (n - 1) P (B + 1) (encs x) W1 fun e W' => (e = .returned (.bool true) ∧ J N (pre ++ [x]) W' ∧ KpN (B + 2) N W1 W') ∨ (e = .returned (.bool false) ∧ Jx N (pre ++ [x]) W')) →
    (∀ N pre W1 W', J N pre W1 → Kept Noneof W1 W' → J N pre W') → (∀ N pre W1 W', Jx N pre W1 → Kept Noneof W1 W' → Jx N pre W') → (∀ W', Kept Noneof W W' → J W'.heap.size [] W') →
    CallsIn Fence.wide n P gf (#[.func (.yield (B + 1)) #[] #[]] ++ lb) W fun e W' => (∃ v, e = .returned v) ∧ ((∃ N xs, B + 2 ≤ N ∧ S xs ∧ J N xs W') ∨ (∃ N pre, B + 2 ≤ N ∧ Sp pre ∧ Jx N pre W'))

theorem range_rel (h1 : 1 ≤ n) (hg : a.eval g = .func (.func gf) #[] lb) (eg : ∀ args w, (callFunc gf args).run P w = .ok (.enter gf args) w) (hps : ∀ x, (encs x).size = ps.size)
    {Rx : Nat → α → World → Prop} {S Sp : List α → Prop} {M : Nat} (hit : ∀ W, Kept Noneof w W → W.heap.size = w.heap.size + 2 → IterRel (n - 1) P gf lb encs w.heap.size Rx S Sp M W)
    (I Ix : Nat → List α → World → Prop) (hI : ∀ N pre W W', w.heap.size + 2 ≤ N → I N pre W → Kept (fun b => b = w.heap.size ∨ b = w.heap.size + 1) W W' → I N pre W') (hIx : ∀ N pre W W', w.heap.size + 2 ≤ N → Ix N pre W → Kept (fun b => b = w.heap.size ∨ b = w.heap.size + 1) W W' → Ix N pre W')
    (hRx : ∀ N x W W', w.heap.size + 2 ≤ N → Rx N x W → Kept (fun b => b = w.heap.size ∨ b = w.heap.size + 1) W W' → Rx N x W')
    (h0 : ∀ W, Kept Noneof w W → w.heap.size + 2 ≤ W.heap.size → I W.heap.size [] W) (a₁ : α → Act)
    (hassign : ∀ (x : α) (W : World) (K : Act → World → Prop), K (a₁ x) W →
      assign.wpIn (Fence.wide.inRound (w.heap.size + 1)) (n - 1 - 1) P (Exit.then K (fun _ _ _ => False)) { tmps := (ps.zip (encs x)).foldl (fun t (p, v) => t.setIfInBounds p v) a.tmps, defers := [] } W)
    (hbody : ∀ (N : Nat) (pre : List α) (x : α) (W : World), w.heap.size + 2 ≤ N → pre.length < M → I N pre W → Rx N x W → body.wpIn (Fence.wide.inRound (w.heap.size + 1)) (n - 1 - 1) P (roundEnd w.heap.size I Ix N (pre ++ [x]) W) (a₁ x) W)
    (hdone : ∀ (N : Nat) (xs : List α) (W : World), w.heap.size + 2 ≤ N → S xs → I N xs W → W.heap[w.heap.size]? = some (.deferred (some [])) → Q .normal { a with defers := { target := .collected w.heap.size, args := #[] } :: a.defers } W)
    (hstop : ∀ (N : Nat) (pre : List α) (W : World), w.heap.size + 2 ≤ N → Sp pre → Ix N pre W → W.heap[w.heap.size]? = some (.deferred (some [])) → (Code.exit 0).wpIn Fence.wide n P Q { a with defers := { target := .collected w.heap.size, args := #[] } :: a.defers } W) :
    (Code.rangeFunc g ps assign body).wpIn Fence.wide n P Q a w := by
  refine wpIn_rangeFunc fun fn hfn => ?_
  obtain ⟨r, hr⟩ : ∃ r : LoopState → Option Code → Loop, r = fun st pe => { state := st, pending := pe, fn, tmps := a.tmps, params := ps, assign, body, defers := w.heap.size } := ⟨_, rfl⟩
  have hsz : ((w.alloc (.deferred (some []))).alloc (.loop (r .ready none))).heap.size = w.heap.size + 2 := by simp
  have hk0 : Kept Noneof w ((w.alloc (.deferred (some []))).alloc (.loop (r .ready none))) := ((Kept.refl Noneof w).alloc _).alloc _
  have hl0 : ((w.alloc (.deferred (some []))).alloc (.loop (r .ready none))).heap[w.heap.size + 1]? = some (.loop (r .ready none)) := by
    have := World.alloc_heap_new (w.alloc (.deferred (some []))) (.loop (r .ready none)); rwa [World.size_alloc] at this
  have hd0 : ((w.alloc (.deferred (some []))).alloc (.loop (r .ready none))).heap[w.heap.size]? = some (.deferred (some [])) :=
    ((Kept.refl Noneof _).alloc _).obj (fun h => h) (World.alloc_heap_new w _)
  have hent : (Instr.enterLoop fn a.tmps ps assign body Fence.wide.round).run P w = .ok (w.heap.size + 1, [{ target := .collected w.heap.size, args := #[] }]) ((w.alloc (.deferred (some []))).alloc (.loop (r .ready none))) := by
    rw [hr]; exact run_enterLoop_outer _ _ _ _ _
  generalize (w.alloc (.deferred (some []))).alloc (.loop (r .ready none)) = W0 at *
  refine ⟨w.heap.size + 1, _, W0, { target := .fn (.func gf) lb, args := #[.func (.yield (w.heap.size + 1)) #[] #[]] }, W0, gf, #[.func (.yield (w.heap.size + 1)) #[] #[]] ++ lb, W0, hent, ?_, fun _ _ => trivial, ?_, fun _ => h1, ?_⟩
  · simp only [resolve, hg]
    simp [go_sem]
  · simp [invoke, go_sem, eg]
  have two : ∀ {X : Nat → Prop} {A A' : World}, Kept X A A' → (∀ b, X b → b = w.heap.size ∨ b = w.heap.size + 1) → Kept (fun b => b = w.heap.size ∨ b = w.heap.size + 1) A A' := fun h k => h.mono k
  refine CallsIn.mono (hit W0 hk0 hsz (fun N pre W => w.heap.size + 2 ≤ N ∧ I N pre W ∧ W.heap[w.heap.size + 1]? = some (.loop (r .ready none)) ∧ W.heap[w.heap.size]? = some (.deferred (some [])))
    (fun N pre W => w.heap.size + 2 ≤ N ∧ Ix N pre W ∧ W.heap[w.heap.size + 1]? = some (.loop (r .done (some (.exit 0)))) ∧ W.heap[w.heap.size]? = some (.deferred (some [])))
    ?_ (fun N pre W1 W' h k => ⟨h.1, hI N pre W1 W' h.1 h.2.1 (two k fun _ h => h.elim), k.obj (fun h => h) h.2.2.1, k.obj (fun h => h) h.2.2.2⟩) (fun N pre W1 W' h k => ⟨h.1, hIx N pre W1 W' h.1 h.2.1 (two k fun _ h => h.elim), k.obj (fun h => h) h.2.2.1, k.obj (fun h => h) h.2.2.2⟩)
    (fun W' k => ⟨by have := k.size; omega, h0 W' (hk0.trans k fun _ h => h.elim) (by have := k.size; omega), k.obj (fun h => h) hl0, k.obj (fun h => h) hd0⟩)) ?_
  · rintro N pre x W hN hM ⟨_, hi, hl, hd⟩ hx
    have hlt := block_lt hl
    have hy := run_yield (P := P) (args := encs x) hl (by rw [hr]; exact hps x)
    rw [hr] at hy
    refine ⟨fn, _, assign, body, hy, roundIn_of_wpIn hfn (hassign x W _ ⟨_, run_beginRound hl (by rw [hr]), ?_⟩)⟩
    have kb : Kept (fun b => b = w.heap.size ∨ b = w.heap.size + 1) W (W.putObj (w.heap.size + 1) (.loop { r .ready none with state := .busy })) := (Kept.refl _ W).putObj (.inl (.inr rfl)) _
    have hl2 : (W.putObj (w.heap.size + 1) (.loop { r .ready none with state := .busy })).heap[w.heap.size + 1]? = some (.loop { r .ready none with state := .busy }) := World.putObj_heap_same hlt
    have hd2 : (W.putObj (w.heap.size + 1) (.loop { r .ready none with state := .busy })).heap[w.heap.size]? = some (.deferred (some [])) := (World.putObj_heap_other (by omega)).trans hd
    have hi2 := hI N pre _ _ hN hi kb
    have hx2 := hRx N x _ _ hN hx kb
    generalize W.putObj (w.heap.size + 1) (.loop { r .ready none with state := .busy }) = W2 at *
    refine wpIn_mono (hbody N pre x W2 hN hM hi2 hx2) ?_
    have fin : ∀ (jump : Option Code) (W3 : World), KpN w.heap.size N W2 W3 → ∃ W4, (Instr.endRound (w.heap.size + 1) jump).run P W3 = .ok (.bool jump.isNone) W4 ∧ W4.heap[w.heap.size + 1]? = some (.loop (r (if jump.isNone then .ready else .done) jump)) ∧ W4.heap[w.heap.size]? = some (.deferred (some [])) ∧ Kept (fun b => b = w.heap.size ∨ b = w.heap.size + 1) W3 W4 := fun jump W3 hk3 => by
      have hl3 := hk3.obj (p := w.heap.size + 1) (by omega) hl2
      have hd3 := hk3.obj (p := w.heap.size) (by omega) hd2
      have := run_endRound (P := P) jump hl3
      rw [hr] at this
      exact ⟨_, this, by rw [hr]; exact World.putObj_heap_same (block_lt hl3), (World.putObj_heap_other (by omega)).trans hd3, (Kept.refl _ W3).putObj (.inl (.inr rfl)) _⟩
    rintro e a3 W3 hp
    cases e with
    | normal =>
      obtain ⟨hk3, hi3⟩ := hp
      obtain ⟨W4, e4, l4, d4, k4⟩ := fin none W3 hk3
      exact ⟨_, _, e4, .inl ⟨rfl, ⟨hN, hI N _ _ _ hN hi3 k4, l4, d4⟩, ((kb.mono fun b h => .inl (by omega)).trans hk3 fun b h => .inl (by omega)).trans k4 fun b h => .inl (.inl (by omega))⟩⟩
    | exit id =>
      obtain ⟨rfl, hk3, hi3⟩ := hp
      obtain ⟨W4, e4, l4, d4, k4⟩ := fin (some (.exit 0)) W3 hk3
      exact ⟨_, _, e4, .inr ⟨rfl, hN, hIx N _ _ _ hN hi3 k4, l4, d4⟩⟩
    | ret => exact hp.elim
    | goto t => exact hp.elim
    | panic ch => exact hp.elim
    | outgrown => exact hp.elim
  · rintro e W2 ⟨⟨v, rfl⟩, (⟨N, xs, hN, hS, _, hi, hl, hd⟩ | ⟨N, pre, hN, hSp, _, hi, hl, hd⟩)⟩
    · have := run_endLoop (P := P) hl (by rw [hr]; simp)
      rw [hr] at this
      exact ⟨none, _, this, hdone N xs _ hN hS (hI N xs _ _ hN hi ((Kept.refl _ W2).putObj (.inl (.inr rfl)) _)) ((World.putObj_heap_other (by omega)).trans hd)⟩
    · have := run_endLoop (P := P) hl (by rw [hr]; simp)
      rw [hr] at this
      exact ⟨some (.exit 0), _, this, hstop N pre _ hN hSp (hIx N pre _ _ hN hi ((Kept.refl _ W2).putObj (.inl (.inr rfl)) _)) ((World.putObj_heap_other (by omega)).trans hd)⟩
end
end Go.Proofs.Ytaopjdjbpamhhaa
