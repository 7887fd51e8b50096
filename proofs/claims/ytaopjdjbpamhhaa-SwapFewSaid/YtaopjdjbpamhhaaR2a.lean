/- Proved: contracts of the reference's functions Compare, Rank, Has, Allowed, Get, Span on lists of pairs (they only read). Conditions: what is read lies in memory. -/
import Derived.Test.YtaopjdjbpamhhaaBase
import Derived.Test.YtaopjdjbpamhhaaProg
namespace Go.Proofs.Ytaopjdjbpamhhaa
open Go Go.RowKit
set_option linter.unusedVariables false
set_option linter.unusedSimpArgs false

set_option maxHeartbeats 400000 in
theorem r2Compare_calls {D1 D2 : Nat → Prop} {v1 v2 : Value} {la lb : Bts} {w : World} (h1 : BV D1 w v1 la) (h2 : BV D2 w v2 lb) :
    Calls Try.prog 61 #[v1, v2] w fun e w' => e = .returned (.int .i64 (cmpB la lb)) ∧ Drew w w' := by
  obtain ⟨a1, c1, rfl, _, m1, h1⟩ := h1
  obtain ⟨a2, c2, rfl, _, m2, h2⟩ := h2
  have H1 := Lib.hid h1
  have H2 := Lib.hid h2
  clear h1 h2
  go_enter Try.func61, Try.ntmps61
  go_wp2
  go_loopw [5] (fun i w' => ∃ k : Nat, k ≤ la.length ∧ k ≤ lb.length ∧ i = .int .i64 k ∧ Hid (cmpB la lb = cmpB (la.drop k) (lb.drop k)) ∧ Drew w w') (fun i _ => la.length - (intOf i).toNat)
  case atStart => exact ⟨0, by omega, by omega, rfl, rfl, Drew.refl _⟩
  case round =>
    obtain ⟨k, hk1, hk2, rfl, HK, ⟨n, rfl⟩⟩ := hrel
    by_cases hl1 : k < la.length
    · by_cases hl2 : k < lb.length
      · obtain ⟨b1, o1, rfl, _, g1⟩ := Rd.byte H1.out hl1
        obtain ⟨b2, o2, rfl, _, g2⟩ := Rd.byte H2.out hl2
        have x1 := u8_lt la[k]
        have x2 := u8_lt lb[k]
        by_cases he : la[k] = lb[k]
        · have e1 := u8_eq he
          have HE := Lib.hid he
          clear he
          go_wp2
          go_quiet (fail)
          go_wp2
          go_roundw
          case rel => exact ⟨k + 1, by omega, by omega, by go_num, by show _ = _; rw [HK.out, cmpB_step hl1 hl2, if_pos HE.out], (by repeat (first | exact Drew.refl _ | exact ⟨_, rfl⟩ | apply Drew.step | apply Drew.one))⟩
          case measure => simp [intOf]; omega
        · have e1 := u8_ne he
          have HE := Lib.hid he
          clear he
          go_wp2
          go_quiet (fail)
          go_wp2
          go_quiet (fail)
          go_wp2
          go_ret
          exact ⟨ret_int (by rw [HK.out, cmpB_step hl1 hl2, if_neg HE.out]), (by repeat (first | exact Drew.refl _ | exact ⟨_, rfl⟩ | apply Drew.step | apply Drew.one))⟩
      · go_wp2
        go_ret
        exact ⟨ret_int (by rw [HK.out, cmpB_end hk1 hk2 (by omega)]), (by repeat (first | exact Drew.refl _ | exact ⟨_, rfl⟩ | apply Drew.step | apply Drew.one))⟩
    · go_wp2
      go_ret
      exact ⟨ret_int (by rw [HK.out, cmpB_end hk1 hk2 (by omega)]), (by repeat (first | exact Drew.refl _ | exact ⟨_, rfl⟩ | apply Drew.step | apply Drew.one))⟩

/-- How many keys at the head of a list are less than a key. -/
def rank (l : List (Bts × Bts)) (key : Bts) : Nat := (l.takeWhile fun p => decide (cmpB p.1 key < 0)).length
theorem rank_le (l : List (Bts × Bts)) (key : Bts) : rank l key ≤ l.length := by
  unfold rank
  exact List.IsPrefix.length_le (List.takeWhile_prefix _)
theorem rank_end {l : List (Bts × Bts)} {key : Bts} {k : Nat} (hk : k ≤ l.length) (h : ∀ i, i < k → ∀ hi : i < l.length, cmpB l[i].1 key < 0) (he : k = l.length ∨ ∃ hi : k < l.length, ¬ cmpB l[k].1 key < 0) : rank l key = k := by
  unfold rank
  induction l generalizing k with
  | nil => simp at hk; simp [hk]
  | cons x t ih =>
    cases k with
    | zero =>
      rcases he with he | ⟨_, he⟩
      · simp at he
      · simp at he
        simp [List.takeWhile_cons, he]
    | succ k =>
      have h0 := h 0 (by omega) (by simp)
      simp only [List.getElem_cons_zero] at h0
      have := ih (k := k) (by simpa using hk) (fun i hi hl => by have := h (i + 1) (by omega) (by simpa using hl); simpa using this)
        (by rcases he with he | ⟨h1, h2⟩
            · exact .inl (by simpa using he)
            · exact .inr ⟨by simpa using h1, by simpa using h2⟩)
      simp [List.takeWhile_cons, h0, this]

set_option maxHeartbeats 400000 in
theorem r2Rank_calls {D1 D2 : Nat → Prop} {v1 v2 : Value} {l : List (Bts × Bts)} {key : Bts} {w : World} (h1 : SV pairEl D1 w v1 l) (h2 : BV D2 w v2 key) :
    Calls Try.prog 140 #[v1, v2] w fun e w' => e = .returned (.int .i64 (rank l key)) ∧ Drew w w' := by
  have H2 := Lib.hid h2
  obtain ⟨a1, c1, rfl, _, m1, h1⟩ := h1
  have H1 := Lib.hid h1
  clear h1 h2
  go_enter Try.func140, Try.ntmps140
  go_wp2
  go_loopw [5] (fun i w' => ∃ k : Nat, k ≤ l.length ∧ i = .int .i64 k ∧ Hid (∀ i, i < k → ∀ hi : i < l.length, cmpB l[i].1 key < 0) ∧ Drew w w') (fun i _ => l.length - (intOf i).toNat)
  case atStart => exact ⟨0, by omega, rfl, fun i hi => absurd hi (by omega), Drew.refl _⟩
  case round =>
    obtain ⟨k, hk1, rfl, HK, ⟨n, rfl⟩⟩ := hrel
    by_cases hl1 : k < l.length
    · obtain ⟨b1, o1, u, v, rfl, _, g1, _, hk', _⟩ := Rd.pair H1.out hl1
      have HX := Lib.hid hk'
      clear hk'
      by_cases hc : cmpB l[k].1 key < 0
      · have HK2 := Lib.hid (show ∀ i, i < k + 1 → ∀ hi : i < l.length, cmpB l[i].1 key < 0 from fun i hi hl => by
          rcases Nat.lt_or_ge i k with h | h
          · exact HK.out i h hl
          · obtain rfl : i = k := by omega
            exact hc)
        go_wp2_with fail
        refine (r2Compare_calls (by exact SV.at HX.out rfl) (by exact SV.at H2.out rfl)).mono ?_
        rintro e w1 ⟨rfl, n1, rfl⟩
        go_wp2
        go_roundw
        case rel => exact ⟨k + 1, by omega, by go_num, HK2, (by repeat (first | exact Drew.refl _ | exact ⟨_, rfl⟩ | apply Drew.step | apply Drew.one))⟩
        case measure => simp [intOf]; omega
      · go_wp2_with fail
        refine (r2Compare_calls (by exact SV.at HX.out rfl) (by exact SV.at H2.out rfl)).mono ?_
        rintro e w1 ⟨rfl, n1, rfl⟩
        go_wp2
        go_ret
        exact ⟨ret_int (by rw [rank_end hk1 HK.out (.inr ⟨hl1, by omega⟩)]), (by repeat (first | exact Drew.refl _ | exact ⟨_, rfl⟩ | apply Drew.step | apply Drew.one))⟩
    · go_wp2
      go_ret
      exact ⟨ret_int (by rw [rank_end hk1 HK.out (.inl (by omega))]), (by repeat (first | exact Drew.refl _ | exact ⟨_, rfl⟩ | apply Drew.step | apply Drew.one))⟩

/-- Whether a key is there. -/
def hasK (l : List (Bts × Bts)) (key : Bts) : Bool := match l[rank l key]? with | some p => cmpB p.1 key == 0 | none => false
theorem hasK_lt {l : List (Bts × Bts)} {key : Bts} (h : hasK l key = true) : rank l key < l.length := by
  unfold hasK at h
  rcases Nat.lt_or_ge (rank l key) l.length with h1 | h1
  · exact h1
  · rw [List.getElem?_eq_none h1] at h; cases h
theorem hasK_at {l : List (Bts × Bts)} {key : Bts} (h : rank l key < l.length) : hasK l key = (cmpB l[rank l key].1 key == 0) := by
  unfold hasK
  rw [List.getElem?_eq_getElem h]
theorem hasK_none {l : List (Bts × Bts)} {key : Bts} (h : ¬ rank l key < l.length) : hasK l key = false := by
  unfold hasK
  rw [List.getElem?_eq_none (by omega)]

set_option maxHeartbeats 400000 in
theorem r2Has_calls {D1 D2 : Nat → Prop} {v1 v2 : Value} {l : List (Bts × Bts)} {key : Bts} {w : World} (h1 : SV pairEl D1 w v1 l) (h2 : BV D2 w v2 key) :
    Calls Try.prog 74 #[v1, v2] w fun e w' => e = .returned (.bool (hasK l key)) ∧ Drew w w' := by
  have H2 := Lib.hid h2
  have HS := Lib.hid h1
  obtain ⟨a1, c1, rfl, _, m1, h1⟩ := h1
  have H1 := Lib.hid h1
  clear h1 h2
  have hr := rank_le l key
  go_enter Try.func74, Try.ntmps74
  go_wp2_with fail
  refine (r2Rank_calls (by exact SV.at HS.out rfl) (by exact SV.at H2.out rfl)).mono ?_
  rintro e w1 ⟨rfl, n1, rfl⟩
  by_cases hl1 : rank l key < l.length
  · obtain ⟨b1, o1, u, v, rfl, _, g1, _, hk', _⟩ := Rd.pair H1.out hl1
    have HX := Lib.hid hk'
    clear hk'
    go_wp2_with fail
    refine (r2Compare_calls (by exact SV.at HX.out rfl) (by exact SV.at H2.out rfl)).mono ?_
    rintro e w1 ⟨rfl, n1, rfl⟩
    go_wp2
    go_ret
    exact ⟨ret_bool (hasK_at hl1).symm, (by repeat (first | exact Drew.refl _ | exact ⟨_, rfl⟩ | apply Drew.step | apply Drew.one))⟩
  · go_wp2
    go_ret
    exact ⟨ret_bool (hasK_none hl1).symm, (by repeat (first | exact Drew.refl _ | exact ⟨_, rfl⟩ | apply Drew.step | apply Drew.one))⟩

/-- Whether a key and a value have lengths that are allowed. -/
def allowedK (key value : Bts) : Bool := decide (1 ≤ key.length) && decide (key.length ≤ 64) && decide (value.length ≤ 1000)
theorem r2Allowed_calls {D1 D2 : Nat → Prop} {v1 v2 : Value} {key value : Bts} {w : World} (h1 : BV D1 w v1 key) (h2 : BV D2 w v2 value) :
    Calls Try.prog 114 #[v1, v2] w fun e w' => e = .returned (.bool (allowedK key value)) ∧ Drew w w' := by
  obtain ⟨a1, c1, rfl, _, _, _⟩ := h1
  obtain ⟨a2, c2, rfl, _, _, _⟩ := h2
  go_enter Try.func114, Try.ntmps114
  go_wp2
  all_goals
    go_ret
    refine ⟨ret_bool ?_, (by repeat (first | exact Drew.refl _ | exact ⟨_, rfl⟩ | apply Drew.step | apply Drew.one))⟩
    unfold allowedK
    rw [Bool.eq_iff_iff]
    simp
    try omega

/-! ### Coins -/
def coinStep (h : Int) (c : UInt8) : Int := IntKind.u64.wrap ((Go.bits .xor .u64 h ((c.toNat : Nat) : Int)) * 1099511628211)
def coinStart (seed tag : Int) : Int := IntKind.u64.wrap (seed + IntKind.u64.wrap (IntKind.u64.wrap (IntKind.u64.wrap tag + 1) * 11400714819323198485))
def coinEnd (n : Nat) (h : Int) : Int :=
  let a := Go.bits .xor .u64 h (n : Int)
  let b := IntKind.u64.wrap (Go.bits .xor .u64 a (a / 1073741824) * 13787848793156543929)
  let c := IntKind.u64.wrap (Go.bits .xor .u64 b (b / 134217728) * 10723151780598845931)
  Go.bits .xor .u64 c (c / 2147483648)
def coin (seed tag : Int) (l : Bts) : Int := coinEnd l.length (l.foldl coinStep (coinStart seed tag))
theorem coin_nat (x : UInt8) : IntKind.u64.wrap ((x.toNat : Nat) : Int) = ((x.toNat : Nat) : Int) := by
  have := x.toNat_lt
  exact IntWalk.u64_in _ ⟨by omega, by omega⟩

set_option maxHeartbeats 1000000 in
theorem slCoin_calls {D : Nat → Prop} {v : Value} {seed tag : Int} {l : Bts} {w : World} (h : BV D w v l) :
    Calls Try.prog 35 #[.int .u64 seed, .int .i64 tag, v] w fun e w' => e = .returned (.int .u64 (coin seed tag l)) ∧ Drew w w' := by
  obtain ⟨a, c, rfl, _, m, h⟩ := h
  have H := Lib.hid h
  clear h
  go_enter Try.func35, Try.ntmps35
  go_wp2
  go_loopw [7, 18] (fun v i w' => ∃ k : Nat, k ≤ l.length ∧ i = .int .i64 k ∧ v = .int .u64 ((l.take k).foldl coinStep (coinStart seed tag)) ∧ Drew w w') (fun _ i _ => l.length - (intOf i).toNat)
  case atStart => exact ⟨0, by omega, rfl, rfl, Drew.refl _⟩
  case round =>
    obtain ⟨k, hk, rfl, rfl, ⟨n, rfl⟩⟩ := hrel
    by_cases hlt : k < l.length
    · obtain ⟨b, o, rfl, _, g⟩ := Rd.byte H.out hlt
      have x1 := u8_lt l[k]
      generalize hv : (l.take k).foldl coinStep (coinStart seed tag) = v
      have HV := Lib.hid hv
      clear hv
      go_wp2
      go_roundw
      case rel => exact ⟨k + 1, by omega, by go_num, by rw [List.take_succ_eq_append_getElem hlt, List.foldl_append, HV.out]; simp only [List.foldl_cons, List.foldl_nil, coinStep, coin_nat], (by repeat (first | exact Drew.refl _ | exact ⟨_, rfl⟩ | apply Drew.step | apply Drew.one))⟩
      case measure => simp [intOf]; omega
    · have hk' : k = l.length := by omega
      subst hk'
      rw [List.take_length]
      generalize hv : l.foldl coinStep (coinStart seed tag) = v
      have HV := Lib.hid hv
      clear hv
      go_wp2
      go_ret
      refine ⟨ret_int ?_, (by repeat (first | exact Drew.refl _ | exact ⟨_, rfl⟩ | apply Drew.step | apply Drew.one))⟩
      unfold coin
      rw [HV.out]
      simp only [coinEnd]
set_option maxHeartbeats 1000000 in
theorem r1Coin_calls {D : Nat → Prop} {v : Value} {seed tag : Int} {l : Bts} {w : World} (h : BV D w v l) :
    Calls Try.prog 36 #[.int .u64 seed, .int .i64 tag, v] w fun e w' => e = .returned (.int .u64 (coin seed tag l)) ∧ Drew w w' := by
  obtain ⟨a, c, rfl, _, m, h⟩ := h
  have H := Lib.hid h
  clear h
  go_enter Try.func36, Try.ntmps36
  go_wp2
  go_loopw [7, 8] (fun v i w' => ∃ k : Nat, k ≤ l.length ∧ i = .int .i64 k ∧ v = .int .u64 ((l.take k).foldl coinStep (coinStart seed tag)) ∧ Drew w w') (fun _ i _ => l.length - (intOf i).toNat)
  case atStart => exact ⟨0, by omega, rfl, rfl, Drew.refl _⟩
  case round =>
    obtain ⟨k, hk, rfl, rfl, ⟨n, rfl⟩⟩ := hrel
    by_cases hlt : k < l.length
    · obtain ⟨b, o, rfl, _, g⟩ := Rd.byte H.out hlt
      have x1 := u8_lt l[k]
      generalize hv : (l.take k).foldl coinStep (coinStart seed tag) = v
      have HV := Lib.hid hv
      clear hv
      go_wp2
      go_roundw
      case rel => exact ⟨k + 1, by omega, by go_num, by rw [List.take_succ_eq_append_getElem hlt, List.foldl_append, HV.out]; simp only [List.foldl_cons, List.foldl_nil, coinStep, coin_nat], (by repeat (first | exact Drew.refl _ | exact ⟨_, rfl⟩ | apply Drew.step | apply Drew.one))⟩
      case measure => simp [intOf]; omega
    · have hk' : k = l.length := by omega
      subst hk'
      rw [List.take_length]
      generalize hv : l.foldl coinStep (coinStart seed tag) = v
      have HV := Lib.hid hv
      clear hv
      go_wp2
      go_ret
      refine ⟨ret_int ?_, (by repeat (first | exact Drew.refl _ | exact ⟨_, rfl⟩ | apply Drew.step | apply Drew.one))⟩
      unfold coin
      rw [HV.out]
      simp only [coinEnd]

theorem r2Height_calls {D : Nat → Prop} {v : Value} {seed : Int} {l : Bts} {w : World} (h : BV D w v l) :
    Calls Try.prog 189 #[.int .u64 seed, v] w fun e w' => e = .returned (.int .u64 (coin seed 3 l)) ∧ Drew w w' := by
  have H := Lib.hid h
  clear h
  go_enter Try.func189, Try.ntmps189
  go_wp2_with fail
  refine (r1Coin_calls H.out).mono ?_
  rintro e w1 ⟨rfl, n1, rfl⟩
  go_wp2
  go_ret
  exact ⟨rfl, (by repeat (first | exact Drew.refl _ | exact ⟨_, rfl⟩ | apply Drew.step | apply Drew.one))⟩
end Go.Proofs.Ytaopjdjbpamhhaa
