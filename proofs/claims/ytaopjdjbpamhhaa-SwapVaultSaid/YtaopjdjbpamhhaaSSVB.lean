/- Proved: texts of the families over slots, order and swap, joined, as far as the claim needs them. Conditions: as each theorem says. -/
import Derived.Test.YtaopjdjbpamhhaaSSVA
import Derived.Test.YtaopjdjbpamhhaaProg
import Derived.StillTailTactics
import Derived.Deep.RegionHeld3
import Derived.Lib.BytesEntry
import Derived.Laws.Externs
/- Proved: contracts of the reference's functions Compare, Rank, Has, Allowed, Get, Span on lists of pairs (they only read). Conditions: what is read lies in memory. -/
namespace Go.Proofs.Ytaopjdjbpamhhaa
open Go Go.RowKit
set_option linter.unusedVariables false
set_option linter.unusedSimpArgs false
set_option maxHeartbeats 400000 in
theorem r2Compare_calls {D1 D2 : Nat → Prop} {v1 v2 : Value} {la lb : Bts} {w : World} (h1 : BV D1 w v1 la) (h2 : BV D2 w v2 lb) :
    Calls Try.prog 61 #[v1, v2] w fun e w' => e = .returned (.int .i64 (cmpB la lb)) ∧ Drew w w' := by
  obtain ⟨a1, c1, rfl, _, m1, h1⟩ := h1
  obtain ⟨a2, c2, rfl, _, m2, h2⟩ := h2
  have H1 := Lib.hid h1
  have H2 := Lib.hid h2
  clear h1 h2
  go_enter Try.func61, Try.ntmps61
  go_wp2
  go_loopw [5] (fun i w' => ∃ k : Nat, k ≤ la.length ∧ k ≤ lb.length ∧ i = .int .i64 k ∧ Hid (cmpB la lb = cmpB (la.drop k) (lb.drop k)) ∧ Drew w w') (fun i _ => la.length - (intOf i).toNat)
  case atStart => exact ⟨0, by omega, by omega, rfl, rfl, Drew.refl _⟩
  case round =>
    obtain ⟨k, hk1, hk2, rfl, HK, ⟨n, rfl⟩⟩ := hrel
    by_cases hl1 : k < la.length
    · by_cases hl2 : k < lb.length
      · obtain ⟨b1, o1, rfl, _, g1⟩ := Rd.byte H1.out hl1
        obtain ⟨b2, o2, rfl, _, g2⟩ := Rd.byte H2.out hl2
        have x1 := u8_lt la[k]
        have x2 := u8_lt lb[k]
        by_cases he : la[k] = lb[k]
        · have e1 := u8_eq he
          have HE := Lib.hid he
          clear he
          go_wp2
          go_quiet (fail)
          go_wp2
          go_roundw
          case rel => exact ⟨k + 1, by omega, by omega, by go_num, by show _ = _; rw [HK.out, cmpB_step hl1 hl2, if_pos HE.out], (by repeat (first | exact Drew.refl _ | exact ⟨_, rfl⟩ | apply Drew.step | apply Drew.one))⟩
          case measure => simp [intOf]; omega
        · have e1 := u8_ne he
          have HE := Lib.hid he
          clear he
          go_wp2
          go_quiet (fail)
          go_wp2
          go_quiet (fail)
          go_wp2
          go_ret
          exact ⟨ret_int (by rw [HK.out, cmpB_step hl1 hl2, if_neg HE.out]), (by repeat (first | exact Drew.refl _ | exact ⟨_, rfl⟩ | apply Drew.step | apply Drew.one))⟩
      · go_wp2
        go_ret
        exact ⟨ret_int (by rw [HK.out, cmpB_end hk1 hk2 (by omega)]), (by repeat (first | exact Drew.refl _ | exact ⟨_, rfl⟩ | apply Drew.step | apply Drew.one))⟩
    · go_wp2
      go_ret
      exact ⟨ret_int (by rw [HK.out, cmpB_end hk1 hk2 (by omega)]), (by repeat (first | exact Drew.refl _ | exact ⟨_, rfl⟩ | apply Drew.step | apply Drew.one))⟩

/-- How many keys at the head of a list are less than a key. -/
def rank (l : List (Bts × Bts)) (key : Bts) : Nat := (l.takeWhile fun p => decide (cmpB p.1 key < 0)).length
theorem rank_le (l : List (Bts × Bts)) (key : Bts) : rank l key ≤ l.length := by
  unfold rank
  exact List.IsPrefix.length_le (List.takeWhile_prefix _)
theorem rank_end {l : List (Bts × Bts)} {key : Bts} {k : Nat} (hk : k ≤ l.length) (h : ∀ i, i < k → ∀ hi : i < l.length, cmpB l[i].1 key < 0) (he : k = l.length ∨ ∃ hi : k < l.length, ¬ cmpB l[k].1 key < 0) : rank l key = k := by
  unfold rank
  induction l generalizing k with
  | nil => simp at hk; simp [hk]
  | cons x t ih =>
    cases k with
    | zero =>
      rcases he with he | ⟨_, he⟩
      · simp at he
      · simp at he
        simp [List.takeWhile_cons, he]
    | succ k =>
      have h0 := h 0 (by omega) (by simp)
      simp only [List.getElem_cons_zero] at h0
      have := ih (k := k) (by simpa using hk) (fun i hi hl => by have := h (i + 1) (by omega) (by simpa using hl); simpa using this)
        (by rcases he with he | ⟨h1, h2⟩
            · exact .inl (by simpa using he)
            · exact .inr ⟨by simpa using h1, by simpa using h2⟩)
      simp [List.takeWhile_cons, h0, this]

set_option maxHeartbeats 400000 in
theorem r2Rank_calls {D1 D2 : Nat → Prop} {v1 v2 : Value} {l : List (Bts × Bts)} {key : Bts} {w : World} (h1 : SV pairEl D1 w v1 l) (h2 : BV D2 w v2 key) :
    Calls Try.prog 140 #[v1, v2] w fun e w' => e = .returned (.int .i64 (rank l key)) ∧ Drew w w' := by
  have H2 := Lib.hid h2
  obtain ⟨a1, c1, rfl, _, m1, h1⟩ := h1
  have H1 := Lib.hid h1
  clear h1 h2
  go_enter Try.func140, Try.ntmps140
  go_wp2
  go_loopw [5] (fun i w' => ∃ k : Nat, k ≤ l.length ∧ i = .int .i64 k ∧ Hid (∀ i, i < k → ∀ hi : i < l.length, cmpB l[i].1 key < 0) ∧ Drew w w') (fun i _ => l.length - (intOf i).toNat)
  case atStart => exact ⟨0, by omega, rfl, fun i hi => absurd hi (by omega), Drew.refl _⟩
  case round =>
    obtain ⟨k, hk1, rfl, HK, ⟨n, rfl⟩⟩ := hrel
    by_cases hl1 : k < l.length
    · obtain ⟨b1, o1, u, v, rfl, _, g1, _, hk', _⟩ := Rd.pair H1.out hl1
      have HX := Lib.hid hk'
      clear hk'
      by_cases hc : cmpB l[k].1 key < 0
      · have HK2 := Lib.hid (show ∀ i, i < k + 1 → ∀ hi : i < l.length, cmpB l[i].1 key < 0 from fun i hi hl => by
          rcases Nat.lt_or_ge i k with h | h
          · exact HK.out i h hl
          · obtain rfl : i = k := by omega
            exact hc)
        go_wp2_with fail
        refine (r2Compare_calls (by exact SV.at HX.out rfl) (by exact SV.at H2.out rfl)).mono ?_
        rintro e w1 ⟨rfl, n1, rfl⟩
        go_wp2
        go_roundw
        case rel => exact ⟨k + 1, by omega, by go_num, HK2, (by repeat (first | exact Drew.refl _ | exact ⟨_, rfl⟩ | apply Drew.step | apply Drew.one))⟩
        case measure => simp [intOf]; omega
      · go_wp2_with fail
        refine (r2Compare_calls (by exact SV.at HX.out rfl) (by exact SV.at H2.out rfl)).mono ?_
        rintro e w1 ⟨rfl, n1, rfl⟩
        go_wp2
        go_ret
        exact ⟨ret_int (by rw [rank_end hk1 HK.out (.inr ⟨hl1, by omega⟩)]), (by repeat (first | exact Drew.refl _ | exact ⟨_, rfl⟩ | apply Drew.step | apply Drew.one))⟩
    · go_wp2
      go_ret
      exact ⟨ret_int (by rw [rank_end hk1 HK.out (.inl (by omega))]), (by repeat (first | exact Drew.refl _ | exact ⟨_, rfl⟩ | apply Drew.step | apply Drew.one))⟩

/-- Whether a key is there. -/
def hasK (l : List (Bts × Bts)) (key : Bts) : Bool := match l[rank l key]? with | some p => cmpB p.1 key == 0 | none => false
theorem hasK_lt {l : List (Bts × Bts)} {key : Bts} (h : hasK l key = true) : rank l key < l.length := by
  unfold hasK at h
  rcases Nat.lt_or_ge (rank l key) l.length with h1 | h1
  · exact h1
  · rw [List.getElem?_eq_none h1] at h; cases h
theorem hasK_at {l : List (Bts × Bts)} {key : Bts} (h : rank l key < l.length) : hasK l key = (cmpB l[rank l key].1 key == 0) := by
  unfold hasK
  rw [List.getElem?_eq_getElem h]
theorem hasK_none {l : List (Bts × Bts)} {key : Bts} (h : ¬ rank l key < l.length) : hasK l key = false := by
  unfold hasK
  rw [List.getElem?_eq_none (by omega)]

set_option maxHeartbeats 400000 in
theorem r2Has_calls {D1 D2 : Nat → Prop} {v1 v2 : Value} {l : List (Bts × Bts)} {key : Bts} {w : World} (h1 : SV pairEl D1 w v1 l) (h2 : BV D2 w v2 key) :
    Calls Try.prog 74 #[v1, v2] w fun e w' => e = .returned (.bool (hasK l key)) ∧ Drew w w' := by
  have H2 := Lib.hid h2
  have HS := Lib.hid h1
  obtain ⟨a1, c1, rfl, _, m1, h1⟩ := h1
  have H1 := Lib.hid h1
  clear h1 h2
  have hr := rank_le l key
  go_enter Try.func74, Try.ntmps74
  go_wp2_with fail
  refine (r2Rank_calls (by exact SV.at HS.out rfl) (by exact SV.at H2.out rfl)).mono ?_
  rintro e w1 ⟨rfl, n1, rfl⟩
  by_cases hl1 : rank l key < l.length
  · obtain ⟨b1, o1, u, v, rfl, _, g1, _, hk', _⟩ := Rd.pair H1.out hl1
    have HX := Lib.hid hk'
    clear hk'
    go_wp2_with fail
    refine (r2Compare_calls (by exact SV.at HX.out rfl) (by exact SV.at H2.out rfl)).mono ?_
    rintro e w1 ⟨rfl, n1, rfl⟩
    go_wp2
    go_ret
    exact ⟨ret_bool (hasK_at hl1).symm, (by repeat (first | exact Drew.refl _ | exact ⟨_, rfl⟩ | apply Drew.step | apply Drew.one))⟩
  · go_wp2
    go_ret
    exact ⟨ret_bool (hasK_none hl1).symm, (by repeat (first | exact Drew.refl _ | exact ⟨_, rfl⟩ | apply Drew.step | apply Drew.one))⟩

/-- Whether a key and a value have lengths that are allowed. -/
def allowedK (key value : Bts) : Bool := decide (1 ≤ key.length) && decide (key.length ≤ 64) && decide (value.length ≤ 1000)
/-! ### Coins -/
def coinStep (h : Int) (c : UInt8) : Int := IntKind.u64.wrap ((Go.bits .xor .u64 h ((c.toNat : Nat) : Int)) * 1099511628211)
def coinStart (seed tag : Int) : Int := IntKind.u64.wrap (seed + IntKind.u64.wrap (IntKind.u64.wrap (IntKind.u64.wrap tag + 1) * 11400714819323198485))
def coinEnd (n : Nat) (h : Int) : Int :=
  let a := Go.bits .xor .u64 h (n : Int)
  let b := IntKind.u64.wrap (Go.bits .xor .u64 a (a / 1073741824) * 13787848793156543929)
  let c := IntKind.u64.wrap (Go.bits .xor .u64 b (b / 134217728) * 10723151780598845931)
  Go.bits .xor .u64 c (c / 2147483648)
def coin (seed tag : Int) (l : Bts) : Int := coinEnd l.length (l.foldl coinStep (coinStart seed tag))
theorem coin_nat (x : UInt8) : IntKind.u64.wrap ((x.toNat : Nat) : Int) = ((x.toNat : Nat) : Int) := by
  have := x.toNat_lt
  exact IntWalk.u64_in _ ⟨by omega, by omega⟩

set_option maxHeartbeats 1000000 in
theorem slCoin_calls {D : Nat → Prop} {v : Value} {seed tag : Int} {l : Bts} {w : World} (h : BV D w v l) :
    Calls Try.prog 35 #[.int .u64 seed, .int .i64 tag, v] w fun e w' => e = .returned (.int .u64 (coin seed tag l)) ∧ Drew w w' := by
  obtain ⟨a, c, rfl, _, m, h⟩ := h
  have H := Lib.hid h
  clear h
  go_enter Try.func35, Try.ntmps35
  go_wp2
  go_loopw [7, 18] (fun v i w' => ∃ k : Nat, k ≤ l.length ∧ i = .int .i64 k ∧ v = .int .u64 ((l.take k).foldl coinStep (coinStart seed tag)) ∧ Drew w w') (fun _ i _ => l.length - (intOf i).toNat)
  case atStart => exact ⟨0, by omega, rfl, rfl, Drew.refl _⟩
  case round =>
    obtain ⟨k, hk, rfl, rfl, ⟨n, rfl⟩⟩ := hrel
    by_cases hlt : k < l.length
    · obtain ⟨b, o, rfl, _, g⟩ := Rd.byte H.out hlt
      have x1 := u8_lt l[k]
      generalize hv : (l.take k).foldl coinStep (coinStart seed tag) = v
      have HV := Lib.hid hv
      clear hv
      go_wp2
      go_roundw
      case rel => exact ⟨k + 1, by omega, by go_num, by rw [List.take_succ_eq_append_getElem hlt, List.foldl_append, HV.out]; simp only [List.foldl_cons, List.foldl_nil, coinStep, coin_nat], (by repeat (first | exact Drew.refl _ | exact ⟨_, rfl⟩ | apply Drew.step | apply Drew.one))⟩
      case measure => simp [intOf]; omega
    · have hk' : k = l.length := by omega
      subst hk'
      rw [List.take_length]
      generalize hv : l.foldl coinStep (coinStart seed tag) = v
      have HV := Lib.hid hv
      clear hv
      go_wp2
      go_ret
      refine ⟨ret_int ?_, (by repeat (first | exact Drew.refl _ | exact ⟨_, rfl⟩ | apply Drew.step | apply Drew.one))⟩
      unfold coin
      rw [HV.out]
      simp only [coinEnd]
set_option maxHeartbeats 1000000 in
theorem r1Coin_calls {D : Nat → Prop} {v : Value} {seed tag : Int} {l : Bts} {w : World} (h : BV D w v l) :
    Calls Try.prog 36 #[.int .u64 seed, .int .i64 tag, v] w fun e w' => e = .returned (.int .u64 (coin seed tag l)) ∧ Drew w w' := by
  obtain ⟨a, c, rfl, _, m, h⟩ := h
  have H := Lib.hid h
  clear h
  go_enter Try.func36, Try.ntmps36
  go_wp2
  go_loopw [7, 8] (fun v i w' => ∃ k : Nat, k ≤ l.length ∧ i = .int .i64 k ∧ v = .int .u64 ((l.take k).foldl coinStep (coinStart seed tag)) ∧ Drew w w') (fun _ i _ => l.length - (intOf i).toNat)
  case atStart => exact ⟨0, by omega, rfl, rfl, Drew.refl _⟩
  case round =>
    obtain ⟨k, hk, rfl, rfl, ⟨n, rfl⟩⟩ := hrel
    by_cases hlt : k < l.length
    · obtain ⟨b, o, rfl, _, g⟩ := Rd.byte H.out hlt
      have x1 := u8_lt l[k]
      generalize hv : (l.take k).foldl coinStep (coinStart seed tag) = v
      have HV := Lib.hid hv
      clear hv
      go_wp2
      go_roundw
      case rel => exact ⟨k + 1, by omega, by go_num, by rw [List.take_succ_eq_append_getElem hlt, List.foldl_append, HV.out]; simp only [List.foldl_cons, List.foldl_nil, coinStep, coin_nat], (by repeat (first | exact Drew.refl _ | exact ⟨_, rfl⟩ | apply Drew.step | apply Drew.one))⟩
      case measure => simp [intOf]; omega
    · have hk' : k = l.length := by omega
      subst hk'
      rw [List.take_length]
      generalize hv : l.foldl coinStep (coinStart seed tag) = v
      have HV := Lib.hid hv
      clear hv
      go_wp2
      go_ret
      refine ⟨ret_int ?_, (by repeat (first | exact Drew.refl _ | exact ⟨_, rfl⟩ | apply Drew.step | apply Drew.one))⟩
      unfold coin
      rw [HV.out]
      simp only [coinEnd]

end Go.Proofs.Ytaopjdjbpamhhaa
/- Proved: contracts of the reference's functions that make new lists: Copy, Little, Told, Mark, Put, Drop, Get, Span. Conditions: what is read lies in memory. -/
namespace Go.Proofs.Ytaopjdjbpamhhaa
open Go Go.RowKit
set_option linter.unusedVariables false
set_option linter.unusedSimpArgs false
theorem tBytes : SlT Try.prog 31 5 1 1 (.int .u8 0) := SlT.of (by kernel_rfl) (by kernel_rfl) rfl (by decide)
theorem tPairs : SlT Try.prog 65 70 2 48 (.agg #[.slice none 0 0, .slice none 0 0]) := SlT.of (by kernel_rfl) (by kernel_rfl) rfl (by decide)

set_option maxHeartbeats 400000 in
theorem r2Copy_calls {D : Nat → Prop} {v : Value} {l : Bts} {w : World} (h : BV D w v l) :
    Calls Try.prog 163 #[v] w fun e w' => ∃ v', e = .returned v' ∧ Own 5 byteEl Noneof w.heap.size w' v' l ∧ Kept Noneof w w' := by
  have HS := Lib.hid h
  obtain ⟨a, c, rfl, _, m, _⟩ := h
  go_enter Try.func163, Try.ntmps163
  go_wp2_with (at_make; refine wl_make (E := byteEl) rfl _ _ _ rfl tBytes Noneof w.heap.size l.length .i64 .i64 _ _ rfl rfl rfl rfl 0 (fun _ => rfl) ?b1 ?b2 ?b3 ?_)
  case b1 => omega
  case b2 => omega
  case b3 => exact Nat.le_refl _
  intro w1 g hown hk hg
  have HS1 := Lib.hid (HS.out.kept byteEl_k hk fun _ _ _ h => h.elim)
  clear HS
  go_wp2_with (refine wl_copy rfl (.tmp 7) (.tmp 8) 31 rfl tBytes g l.length l.length _ rfl hown (by simp) _ l rfl HS1.out rfl ?_)
  intro w2 hown2 hk2
  go_wp2
  go_ret
  exact ⟨_, rfl, hown2, hk.trans hk2 (fun n hn => .inr (hn ▸ hg))⟩
/-- A number's bytes, the least one first. -/
def leI (x : Int) : Nat → Bts
  | 0 => []
  | n + 1 => UInt8.ofNat (x % 256).toNat :: leI (x / 256) n
theorem leI_len : ∀ (n : Nat) (x : Int), (leI x n).length = n
  | 0, _ => rfl
  | n + 1, x => by rw [leI, List.length_cons, leI_len n]
theorem leI_snoc : ∀ (n : Nat) (x : Int), leI x (n + 1) = leI x n ++ [UInt8.ofNat (x / 2 ^ (8 * n) % 256).toNat]
  | 0, x => by simp [leI]
  | n + 1, x => by
    rw [leI, leI_snoc n, leI, List.cons_append]
    congr 4
    rw [Int.ediv_ediv_of_nonneg (by decide), Nat.mul_add, Int.pow_add, Int.mul_comm]
    rfl
theorem u8_of (x : Int) (h : 0 ≤ x) : (((UInt8.ofNat (x % 256).toNat).toNat : Nat) : Int) = x % 256 := by
  rw [UInt8.toNat_ofNat']
  have := Int.emod_lt_of_pos x (show (0 : Int) < 256 by decide)
  have := Int.emod_nonneg x (show (256 : Int) ≠ 0 by decide)
  omega

/-- The bytes of a pair: the length of its key, that of its value, the key, the value. -/
def told (k v : Bts) : Bts := leI k.length 1 ++ leI v.length 2 ++ k ++ v
/-- The pairs with a pair, in the place of one with its key. -/
def putK (l : List (Bts × Bts)) (k v : Bts) : List (Bts × Bts) := l.take (rank l k) ++ [(k, v)] ++ l.drop (if hasK l k then rank l k + 1 else rank l k)

set_option maxHeartbeats 400000 in
theorem r2Put_calls {D D1 D2 : Nat → Prop} {v0 v1 v2 : Value} {l : List (Bts × Bts)} {k v : Bts} {w : World} (h0 : SV pairEl D w v0 l) (h1 : BV D1 w v1 k) (h2 : BV D2 w v2 v) (hs : l.length ≤ 100000000) :
    Calls Try.prog 123 #[v0, v1, v2] w fun e w' => ∃ v', e = .returned v' ∧ Own 70 pairEl (fun b => D b ∨ w.heap.size ≤ b) w.heap.size w' v' (putK l k v) ∧ Kept Noneof w w' := by
  have H0 := Lib.hid (h0.bd pairEl_k)
  have H1 := Lib.hid h1
  have H2 := Lib.hid h2
  have hr := rank_le l k
  obtain ⟨a0, c0, rfl, ⟨hlc, _⟩, _, _⟩ := h0
  go_enter Try.func123, Try.ntmps123
  go_wp2_with fail
  refine (r2Rank_calls (by exact SV.at H0.out rfl) (by exact SV.at H1.out rfl)).mono ?_
  rintro e w1 ⟨rfl, n1, rfl⟩
  have HD := Lib.hid (show ∀ b, (D b ∧ b < w.heap.size) → (D b ∨ w.heap.size ≤ b) from fun b h => .inl h.1)
  have hrc : rank l k ≤ c0 := by omega
  go_wp2_with (at_builtin; refine wl_app_list (E := pairEl) (D := fun b => D b ∨ w.heap.size ≤ b) rfl (.tmp 12) (.tmp 15) _ rfl tPairs _ [] rfl (Own.nil 70 pairEl _ w.heap.size _) _ _ rfl (H0.out.at rfl |>.take hr) ?c3 ?c4 ?c5 ?c6 ?_)
  case c3 => exact fun b hb hlt => ⟨HD.out b hb, fun h => by cases h⟩
  case c4 => simp; omega
  case c5 => omega
  case c6 => exact Nat.le_refl _
  intro x2 w2 o2 e2 _
  have O2 := Lib.hid o2
  have E2 := Lib.hid (show Kept Noneof w w2 from ((Kept.refl _ w).drewN n1).trans e2 fun b h => by cases h)
  clear o2 e2
  go_wp2_with fail
  refine (r2Copy_calls (H1.out.kept byteEl_k E2.out fun _ _ _ h => h)).mono ?_
  rintro e w3 ⟨x3, rfl, o3, e3⟩
  obtain ⟨a3, c3, rfl⟩ := o3.slice
  have E3 := Lib.hid (E2.out.trans e3 fun _ h => .inl h)
  have O3 := Lib.hid o3
  have O2' := Lib.hid (O2.out.kept e3 fun _ h => h.elim)
  have L2 := Lib.hid O2.out.lt
  have S3 := e3.size
  have S2 := E2.out.size
  clear o3 e3 O2
  go_wp2_with fail
  refine (r2Copy_calls (H2.out.kept byteEl_k E3.out fun _ _ _ h => h)).mono ?_
  rintro e w4 ⟨x4, rfl, o4, e4⟩
  obtain ⟨a4, c4, rfl⟩ := o4.slice
  have E4 := Lib.hid (E3.out.trans e4 fun _ h => .inl h)
  have O4 := Lib.hid o4
  have O3' := Lib.hid (O3.out.kept e4 fun _ h => h.elim)
  have O2 := Lib.hid (O2'.out.kept e4 fun _ h => h.elim)
  have S4 := e4.size
  clear o4 e4 O3 O2'
  go_wp2_with (at_builtin; refine wl_app_one (E := pairEl) (D := fun b => D b ∨ w.heap.size ≤ b) (D' := fun b => w2.heap.size ≤ b) rfl (.tmp 17) (.tmp 23) _ rfl tPairs _ _ rfl (O2.out.alloc _) w4.heap.size [.slice a3 k.length c3, .slice a4 v.length c4] (k, v) rfl ?c1 ?c2 ?c3 ?c4 ?c5 ?c6 ?_)
  case c1 => exact ⟨_, _, heap_alloc_new _ _⟩
  case c2 => exact ⟨_, _, rfl, (O3'.out.alloc _).sv.wide byteEl_k fun b hb _ => by simpa [Noneof] using hb, (O4.out.alloc _).sv.wide byteEl_k fun b hb _ => by simp [Noneof] at hb; omega⟩
  case c3 => exact fun b hb _ => ⟨.inr (by omega), fun h => by have := L2.out b h; omega⟩
  case c4 => simp; omega
  case c5 => omega
  case c6 => simp; omega
  intro x5 w5 o5 e5 _
  have O5 := Lib.hid o5
  have E5 := Lib.hid (show Kept Noneof w w5 from (E4.out.alloc _).trans e5 fun b h => .inr (L2.out b h).1)
  clear o5 e5 O2 O3' O4 E4
  go_wp2_with fail
  refine (r2Has_calls (H0.out.kept pairEl_k E5.out fun _ _ _ h => h) (H1.out.kept byteEl_k E5.out fun _ _ _ h => h)).mono ?_
  rintro e w6 ⟨rfl, n6, rfl⟩
  have L5 := Lib.hid O5.out.lt
  cases hk : hasK l k
  · have HK := Lib.hid hk
    clear hk
    go_wp2_with (at_builtin; refine wl_app_list (E := pairEl) rfl (.tmp 30) (.tmp 33) _ rfl tPairs _ _ rfl (O5.out.at rfl) _ _ rfl (((H0.out.kept pairEl_k E5.out fun _ _ _ h => h).at rfl).drop hr rfl) ?c3 ?c4 ?c5 ?c6 ?_; (case c3 => exact fun b hb hlt => ⟨HD.out b hb, fun h => by have := L5.out b h; have := hb.2; omega⟩); (case c4 => simp; omega); (case c5 => omega); (case c6 => exact E5.out.size))
    all_goals
      intro x7 w7 o7 e7 _
      go_wp2
      go_ret
      exact ⟨_, rfl, by simpa [putK, HK.out] using o7, (E5.out.drewN _).trans e7 fun b h => .inr (L5.out b h).1⟩
  · have hlt := hasK_lt hk
    have HK := Lib.hid hk
    clear hk
    go_wp2_with (at_builtin; refine wl_app_list (E := pairEl) rfl (.tmp 30) (.tmp 33) _ rfl tPairs _ _ rfl (O5.out.at rfl) _ _ rfl (((H0.out.kept pairEl_k E5.out fun _ _ _ h => h).at rfl).drop (n := rank l k + 1) (by omega) rfl) ?c3 ?c4 ?c5 ?c6 ?_; (case c3 => exact fun b hb hlt => ⟨HD.out b hb, fun h => by have := L5.out b h; have := hb.2; omega⟩); (case c4 => simp; omega); (case c5 => omega); (case c6 => exact E5.out.size))
    all_goals
      intro x7 w7 o7 e7 _
      go_wp2
      go_ret
      exact ⟨_, rfl, by simpa [putK, HK.out] using o7, (E5.out.drewN _).trans e7 fun b h => .inr (L5.out b h).1⟩
end Go.Proofs.Ytaopjdjbpamhhaa
/- Proved: contracts of the reference's functions Drop, Mark, Top, SamePairs, Get, Span. Conditions: what is read lies in memory. -/
namespace Go.Proofs.Ytaopjdjbpamhhaa
open Go Go.RowKit
set_option linter.unusedVariables false
set_option linter.unusedSimpArgs false
/-- The pairs without a key. -/
def dropK (l : List (Bts × Bts)) (k : Bts) : List (Bts × Bts) := if hasK l k then l.take (rank l k) ++ l.drop (rank l k + 1) else l
set_option maxHeartbeats 400000 in
theorem r2Drop_calls {D D1 : Nat → Prop} {v0 v1 : Value} {l : List (Bts × Bts)} {k : Bts} {w : World} (h0 : SV pairEl D w v0 l) (h1 : BV D1 w v1 k) (hs : l.length ≤ 100000000) :
    Calls Try.prog 144 #[v0, v1] w fun e w' => ∃ v', e = .returned v' ∧ SV pairEl (fun b => D b ∨ w.heap.size ≤ b) w' v' (dropK l k) ∧ Kept Noneof w w' := by
  have H0 := Lib.hid (h0.bd pairEl_k)
  have H1 := Lib.hid h1
  have hr := rank_le l k
  obtain ⟨a0, c0, rfl, ⟨hlc, _⟩, _, _⟩ := h0
  have HD := Lib.hid (show ∀ b, (D b ∧ b < w.heap.size) → (D b ∨ w.heap.size ≤ b) from fun b h => .inl h.1)
  go_enter Try.func144, Try.ntmps144
  go_wp2_with fail
  refine (r2Has_calls (by exact SV.at H0.out rfl) (by exact SV.at H1.out rfl)).mono ?_
  rintro e w1 ⟨rfl, n1, rfl⟩
  cases hk : hasK l k
  · have HK := Lib.hid hk
    clear hk
    go_wp2
    go_ret
    exact ⟨_, rfl, by simp only [dropK, HK.out]; exact (H0.out.at rfl).wide pairEl_k fun b hb _ => .inl hb.1, (Kept.refl _ w).drewN _⟩
  · have hlt := hasK_lt hk
    have HK := Lib.hid hk
    clear hk
    go_wp2_with fail
    refine (r2Rank_calls (by exact SV.at H0.out rfl) (by exact SV.at H1.out rfl)).mono ?_
    rintro e w2 ⟨rfl, n2, rfl⟩
    have hrc : rank l k ≤ c0 := by omega
    go_wp2_with (at_builtin; refine wl_app_list (E := pairEl) (D := fun b => D b ∨ w.heap.size ≤ b) rfl (.tmp 15) (.tmp 18) _ rfl tPairs _ [] rfl (Own.nil 70 pairEl _ w.heap.size _) _ _ rfl (H0.out.at rfl |>.take hr) ?c3 ?c4 ?c5 ?c6 ?_; (case c3 => exact fun b hb hlt => ⟨HD.out b hb, fun h => by cases h⟩); (case c4 => simp; omega); (case c5 => omega); (case c6 => exact Nat.le_refl _))
    intro x2 w2 o2 e2 _
    have O2 := Lib.hid o2
    have E2 := Lib.hid (show Kept Noneof w w2 from ((Kept.refl _ w).drewN _).trans e2 fun b h => by cases h)
    have L2 := Lib.hid o2.lt
    clear o2 e2
    go_wp2_with (at_builtin; refine wl_app_list (E := pairEl) rfl (.tmp 20) (.tmp 24) _ rfl tPairs _ _ rfl O2.out _ _ rfl ((H0.out.kept pairEl_k E2.out fun _ _ _ h => h).drop (n := rank l k + 1) (by omega) rfl) ?c3 ?c4 ?c5 ?c6 ?_; (case c3 => exact fun b hb hlt => ⟨HD.out b hb, fun h => by have := L2.out b h; have := hb.2; omega⟩); (case c4 => simp; omega); (case c5 => omega); (case c6 => exact E2.out.size))
    all_goals
      intro x7 w7 o7 e7 _
      go_wp2
      go_ret
      exact ⟨_, rfl, by simp only [dropK, HK.out]; exact o7.rd (fun _ h => h) fun b hb => .inr (o7.lt b hb).1, E2.out.trans e7 fun b h => .inr (L2.out b h).1⟩

/-- The bytes of which a node's digest is the coin; the digest. -/
def markB (left : Int) (k v : Bts) (right : Int) : Bts := leI left 8 ++ leI k.length 1 ++ k ++ leI v.length 2 ++ v ++ leI right 8
def mark (seed left : Int) (k v : Bts) (right : Int) : Int := coin seed 4 (markB left k v right)
abbrev isU64 (x : Int) : Prop := 0 ≤ x ∧ x ≤ 18446744073709551615

end Go.Proofs.Ytaopjdjbpamhhaa
/- Proved: contracts of the map's small functions: little, digestOf, count, sum, fresh, above, side, and bytes.Compare, over nodes in memory. Conditions: keys of at most 64 bytes and values of at most 1000. -/
namespace Go.Proofs.Ytaopjdjbpamhhaa
open Go Go.RowKit
set_option linter.unusedVariables false
set_option linter.unusedSimpArgs false
/-! ### Nodes in memory -/
/-- A node with what lies below it. -/
inductive Tr where
  | nil
  | nd (l : Tr) (k v : Bts) (r : Tr)
def Tr.size : Tr → Nat
  | nil => 0
  | nd l _ _ r => 1 + l.size + r.size
def Tr.dg (seed : Int) : Tr → Int
  | nil => 0
  | nd l k v r => mark seed (l.dg seed) k v (r.dg seed)
/-- Every pair is of a length that is allowed. -/
def Tr.ok : Tr → Prop
  | nil => True
  | nd l k v r => l.ok ∧ (1 ≤ k.length ∧ k.length ≤ 64 ∧ v.length ≤ 1000) ∧ r.ok
def adr : Option Nat → Option Addr
  | none => none
  | some b => some ⟨b, 0, none⟩
abbrev ptr (p : Option Nat) : Value := .pointer (adr p)
/-- The block of a node. -/
def nodeObj (kv vv : Value) (h : Int) (l r : Option Nat) (sz dg : Int) : Obj := .cells #[kv, vv, .int .u64 h, ptr l, ptr r, .int .i64 sz, .int .u64 dg] 184
structure NodeAt (w : World) (b : Nat) (kv vv : Value) (h : Int) (l r : Option Nat) (sz dg : Int) : Prop where
  c0 : w.cell? ⟨b, 0, none⟩ = some kv
  c1 : w.cell? ⟨b, 1, none⟩ = some vv
  c2 : w.cell? ⟨b, 2, none⟩ = some (.int .u64 h)
  c3 : w.cell? ⟨b, 3, none⟩ = some (ptr l)
  c4 : w.cell? ⟨b, 4, none⟩ = some (ptr r)
  c5 : w.cell? ⟨b, 5, none⟩ = some (.int .i64 sz)
  c6 : w.cell? ⟨b, 6, none⟩ = some (.int .u64 dg)
  fr : ∀ j, w.frozen? ⟨b, j, none⟩ = false
theorem NodeAt.of {w : World} {b : Nat} {kv vv : Value} {h : Int} {l r : Option Nat} {sz dg : Int} (hb : w.heap[b]? = some (nodeObj kv vv h l r sz dg)) : NodeAt w b kv vv h l r sz dg := by
  unfold nodeObj at hb
  refine ⟨?_, ?_, ?_, ?_, ?_, ?_, ?_, fun j => ?_⟩
  all_goals simp [World.cell?, World.frozen?, hb]
theorem setCell_obj {w : World} {b j : Nat} {cs : Array Value} {t : TypeId} {f : Nat × Nat} (h : w.heap[b]? = some (.cells cs t f)) (v : Value) : (w.setCell ⟨b, j, none⟩ v).heap[b]? = some (.cells (cs.setIfInBounds j v) t f) := by
  have hlt := block_lt h
  have hv := (Array.getElem?_eq_some_iff.1 h).2
  simp only [World.setCell]
  rw [Array.getElem?_eq_getElem (by simpa using hlt), Array.getElem_modify]
  simp [hv]

/-! ### Coins lie in 64 bits -/
theorem wrap_u64 (n : Int) : isU64 (IntKind.u64.wrap n) := by
  rw [IntKind.wrap_u64]
  have := Int.emod_lt_of_pos n (show (0 : Int) < 18446744073709551616 by decide)
  have := Int.emod_nonneg n (show (18446744073709551616 : Int) ≠ 0 by decide)
  exact ⟨by omega, by omega⟩
theorem coin_u64 (seed tag : Int) (l : Bts) : isU64 (coin seed tag l) := wrap_u64 _
theorem byte_nat (n : Nat) (h : n < 256) : IntKind.u8.wrap (n : Int) = (n : Int) := IntWalk.u8_in _ ⟨by omega, by omega⟩
/-- What a child's pointer says of the number of nodes below it, and of their digest. -/
def childAt (w : World) (p : Option Nat) (n d : Int) : Prop := match p with | none => n = 0 ∧ d = 0 | some b => w.cell? ⟨b, 5, none⟩ = some (.int .i64 n) ∧ w.cell? ⟨b, 6, none⟩ = some (.int .u64 d)
theorem childAt.at {w w' : World} {p : Option Nat} {n d : Int} (h : childAt w p n d) (e : w'.heap = w.heap) : childAt w' p n d := by
  cases p with
  | none => exact h
  | some b => exact ⟨by rw [World.cell?_of_block (w := w) (by rw [e])]; exact h.1, by rw [World.cell?_of_block (w := w) (by rw [e])]; exact h.2⟩
theorem childAt.kept {S : Nat → Prop} {w w' : World} {p : Option Nat} {n d : Int} (h : childAt w p n d) (k : Kept S w w') (hS : ∀ b, p = some b → ¬ S b) : childAt w' p n d := by
  cases p with
  | none => exact h
  | some b => exact ⟨k.cell (p := ⟨b, 5, none⟩) (hS b rfl) h.1, k.cell (p := ⟨b, 6, none⟩) (hS b rfl) h.2⟩

end Go.Proofs.Ytaopjdjbpamhhaa
/- Proved: the contract of bytes.Compare: below 0, 0 or above 0 as the bytes stand to each other. Conditions: what is read lies in memory. -/
namespace Go.Proofs.Ytaopjdjbpamhhaa
open Go Go.RowKit
set_option linter.unusedVariables false
set_option linter.unusedSimpArgs false
/-- -1, 0 or 1 as the first bytes stand ahead of the others, are the same, or stand behind them. -/
def cmpS (a b : Bts) : Int := if cmpB a b < 0 then -1 else if 0 < cmpB a b then 1 else 0
theorem cmpB_gt (x : UInt8) (t : Bts) : 0 < cmpB (x :: t) [] := by
  rw [cmpB]
  omega
def cmpF (a b : Bts) : Int :=
  match (List.range (min a.length b.length)).find? fun i => a[i]! != b[i]! with
  | some i => if a[i]! < b[i]! then -1 else 1
  | none => if a.length < b.length then -1 else if b.length < a.length then 1 else 0
theorem cmpF_cons (x y : UInt8) (t u : Bts) : cmpF (x :: t) (y :: u) = if x = y then cmpF t u else if x < y then -1 else 1 := by
  unfold cmpF
  simp only [List.length_cons, Nat.add_min_add_right, List.range_succ_eq_map, List.find?_cons, List.find?_map]
  by_cases h : x = y
  · subst h
    simp only [List.getElem!_cons_zero, bne_self_eq_false, if_true]
    have e : ((fun i => (x :: t)[i]! != (x :: u)[i]!) ∘ Nat.succ) = fun i => t[i]! != u[i]! := by
      funext i
      simp
    rw [e]
    cases (List.range (min t.length u.length)).find? fun i => t[i]! != u[i]! <;> simp
  · have hb : (x != y) = true := by simpa using h
    simp [hb, h]
theorem cmpF_eq : ∀ a b : Bts, cmpF a b = cmpS a b
  | [], [] => by simp [cmpF, cmpS, cmpB]
  | [], y :: u => by
    have h : cmpB [] (y :: u) < 0 := by rw [cmpB, List.length_cons]; omega
    rw [cmpS, if_pos h]
    simp [cmpF]
  | x :: t, [] => by
    have := cmpB_gt x t
    simp [cmpF, cmpS]
    omega
  | x :: t, y :: u => by
    rw [cmpF_cons, cmpF_eq t u, cmpS, cmpS, cmpB]
    by_cases h : x = y
    · rw [if_pos h, if_pos h]
    · rw [if_neg h, if_neg h]
      have hx := x.toNat_lt
      have hy := y.toNat_lt
      have hne : x.toNat ≠ y.toNat := fun e => h (UInt8.toNat_inj.1 e)
      by_cases h2 : x < y
      · have : x.toNat < y.toNat := UInt8.lt_iff_toNat_lt.1 h2
        rw [if_pos h2, if_pos (by omega)]
      · have : ¬ x.toNat < y.toNat := fun e => h2 (UInt8.lt_iff_toNat_lt.2 e)
        rw [if_neg h2, if_neg (by omega), if_pos (by omega)]
theorem ba_get (l : Bts) (i : Nat) : (⟨l.toArray⟩ : ByteArray)[i]! = l[i]! := by
  have hs : (⟨l.toArray⟩ : ByteArray).size = l.length := rfl
  by_cases h : i < l.length
  · rw [getElem!_pos (⟨l.toArray⟩ : ByteArray) i h, getElem!_pos l i h]
    rfl
  · rw [getElem!_neg (⟨l.toArray⟩ : ByteArray) i h, getElem!_neg l i h]
theorem cmp_bytes (a b : Bts) : Extern.BytealgCompare.cmp ⟨a.toArray⟩ ⟨b.toArray⟩ = cmpS a b := by
  rw [← cmpF_eq]
  unfold Extern.BytealgCompare.cmp cmpF
  simp only [ba_get]
  rfl
theorem run_bytesOf {P : Program} {D : Nat → Prop} {w : World} {v : Value} {l : Bts} (h : BV D w v l) : (Extern.Bytes.bytesOf v).run P w = .ok ⟨l.toArray⟩ w := by
  obtain ⟨a, c, rfl, ⟨_, _⟩, _, hr⟩ := h
  cases a with
  | none =>
    have : l = [] := by
      cases l with
      | nil => rfl
      | cons x t => obtain ⟨b, o, cs, h1, _⟩ := hr 0 (by simp); cases h1
    subst this
    rfl
  | some p =>
    have h0 := Lib.run_loadBytesX (P := P) w (l.map fun x => ((x.toNat : Nat) : Int)) p .empty fun j x hx => by
      rw [List.getElem?_map] at hx
      obtain ⟨y, hy, rfl⟩ := Option.map_eq_some_iff.1 hx
      obtain ⟨hj, rfl⟩ := List.getElem?_eq_some_iff.1 hy
      obtain ⟨b, o, he, _, hc⟩ := hr.byte hj
      obtain rfl := Option.some.inj he
      rw [Addr.add_lit]
      exact hc
    have hb : Lib.bytesOf (l.map fun x => ((x.toNat : Nat) : Int)) = l := by
      rw [Lib.bytesOf, List.map_map]
      exact (List.map_congr_left fun x _ => by simp).trans (List.map_id l)
    rw [hb, List.length_map] at h0
    show (Extern.Bytes.loadBytes p l.length .empty).run P w = _
    rw [h0]
    simp
theorem run_bcmp {P : Program} {D1 D2 : Nat → Prop} {w : World} {v1 v2 : Value} {a b : Bts} (h1 : BV D1 w v1 a) (h2 : BV D2 w v2 b) : (Extern.BytealgCompare.compare #[v1, v2]).run P w = .ok (.int .i64 (cmpS a b)) w := by
  show Sem.run P (do pure (goInt (Extern.BytealgCompare.cmp (← Extern.Bytes.bytesOf v1) (← Extern.Bytes.bytesOf v2)))) w = _
  simp only [Sem.run_bind, Sem.run_pure, run_bytesOf h1, run_bytesOf h2, Result.andThen, cmp_bytes, goInt]
theorem byCompare_calls {D1 D2 : Nat → Prop} {v1 v2 : Value} {a b : Bts} {w : World} (h1 : BV D1 w v1 a) (h2 : BV D2 w v2 b) :
    Calls Try.prog 154 #[v1, v2] w fun e w' => e = .returned (.int .i64 (cmpS a b)) ∧ w' = w := by
  have hrun : (callFunc 184 #[v1, v2]).run Try.prog w = .ok (.value (.int .i64 (cmpS a b))) w := by
    rw [run_callFunc_extern Try.func184 (by kernel_rfl) (by kernel_rfl) (by kernel_rfl) (by kernel_rfl), run_bcmp h1 h2]
    rfl
  clear h1 h2
  go_enter Try.func154, Try.ntmps154
  go_wp2
  go_ret
  exact ⟨rfl, rfl⟩
end Go.Proofs.Ytaopjdjbpamhhaa
/- Proved: contracts of the map's functions on nodes: above, side, split, merge. Conditions: nodes as a tree in memory, of at most a thousand million pairs of lengths that are allowed. -/
namespace Go.Proofs.Ytaopjdjbpamhhaa
open Go Go.RowKit
set_option linter.unusedVariables false
set_option linter.unusedSimpArgs false
/-- A tree in memory: p leads to it, S are the blocks of its nodes, D those of its bytes. -/
def TreeAt (seed : Int) (D : Nat → Prop) (w : World) : Tr → Option Nat → List Nat → Prop
  | .nil, p, S => p = none ∧ S = []
  | .nd l k v r, p, S => ∃ b pl pr Sl Sr kv vv, p = some b ∧ S = b :: (Sl ++ Sr) ∧ w.heap[b]? = some (nodeObj kv vv (coin seed 3 k) pl pr ((1 + l.size + r.size : Nat) : Int) ((Tr.nd l k v r).dg seed)) ∧ BV D w kv k ∧ BV D w vv v ∧ TreeAt seed D w l pl Sl ∧ TreeAt seed D w r pr Sr
section
variable {seed : Int} {D D' X : Nat → Prop} {w w' : World}
theorem TreeAt.lt : ∀ {t : Tr} {p : Option Nat} {S : List Nat}, TreeAt seed D w t p S → ∀ b ∈ S, b < w.heap.size
  | .nil, _, _, ⟨_, rfl⟩ => by simp
  | .nd l k v r, _, _, ⟨b, pl, pr, Sl, Sr, kv, vv, _, rfl, ho, _, _, hl, hr⟩ => by
    intro x hx
    rcases List.mem_cons.1 hx with rfl | hx
    · exact block_lt ho
    · rcases List.mem_append.1 hx with hx | hx
      · exact TreeAt.lt hl x hx
      · exact TreeAt.lt hr x hx
theorem TreeAt.kept (k : Kept X w w') (hD : ∀ b, D b → b < w.heap.size → ¬ X b) : ∀ {t : Tr} {p : Option Nat} {S : List Nat}, (∀ b ∈ S, ¬ X b) → TreeAt seed D w t p S → TreeAt seed D w' t p S
  | .nil, _, _, _, h => h
  | .nd l k' v r, _, _, hS, ⟨b, pl, pr, Sl, Sr, kv, vv, h1, h2, ho, hk, hv, hl, hr⟩ =>
    ⟨b, pl, pr, Sl, Sr, kv, vv, h1, h2, k.obj (hS b (by rw [h2]; simp)) ho, hk.kept byteEl_k k hD, hv.kept byteEl_k k hD, TreeAt.kept k hD (fun x hx => hS x (by rw [h2]; simp [hx])) hl, TreeAt.kept k hD (fun x hx => hS x (by rw [h2]; simp [hx])) hr⟩
theorem TreeAt.wide (hD : ∀ b, D b → b < w.heap.size → D' b) : ∀ {t : Tr} {p : Option Nat} {S : List Nat}, TreeAt seed D w t p S → TreeAt seed D' w t p S
  | .nil, _, _, h => h
  | .nd l k' v r, _, _, ⟨b, pl, pr, Sl, Sr, kv, vv, h1, h2, ho, hk, hv, hl, hr⟩ =>
    ⟨b, pl, pr, Sl, Sr, kv, vv, h1, h2, ho, hk.wide byteEl_k hD, hv.wide byteEl_k hD, TreeAt.wide hD hl, TreeAt.wide hD hr⟩
theorem TreeAt.at {t : Tr} {p : Option Nat} {S : List Nat} (h : TreeAt seed D w t p S) (e : w'.heap = w.heap) : TreeAt seed D w' t p S := by
  induction t generalizing p S with
  | nil => exact h
  | nd l k v r ihl ihr =>
    obtain ⟨b, pl, pr, Sl, Sr, kv, vv, h1, h2, ho, hk, hv, hl, hr⟩ := h
    exact ⟨b, pl, pr, Sl, Sr, kv, vv, h1, h2, by rw [e]; exact ho, hk.at e, hv.at e, ihl hl, ihr hr⟩
end
/-- Whether a node stands above another one. -/
def aboveK (seed : Int) (a b : Bts) : Bool := if coin seed 3 a = coin seed 3 b then decide (cmpB a b < 0) else decide (coin seed 3 b < coin seed 3 a)
/-- Nodes parted into those of lesser keys and the others. -/
def Tr.split (key : Bts) : Tr → Tr × Tr
  | nil => (nil, nil)
  | nd l k v r => if cmpB k key < 0 then (nd l k v (r.split key).1, (r.split key).2) else ((l.split key).1, nd (l.split key).2 k v r)
theorem Tr.split_size (key : Bts) : ∀ t : Tr, (t.split key).1.size + (t.split key).2.size = t.size
  | nil => rfl
  | nd l k v r => by
    have h1 := split_size key l
    have h2 := split_size key r
    rw [Tr.split]
    split <;> simp only [Tr.size] <;> omega

end Go.Proofs.Ytaopjdjbpamhhaa
/- Proved: contracts of the map's functions on nodes: merge, put, drop. Conditions: nodes as a tree in memory, of at most four hundred million pairs of lengths that are allowed. -/
namespace Go.Proofs.Ytaopjdjbpamhhaa
open Go Go.RowKit
set_option linter.unusedVariables false
set_option linter.unusedSimpArgs false
/-- Two trees joined, all keys of the first one being less (n: more than the nodes of both). -/
def Tr.mergeN (seed : Int) : Nat → Tr → Tr → Tr
  | 0, a, _ => a
  | _ + 1, nil, b => b
  | _ + 1, nd l k v r, nil => nd l k v r
  | n + 1, nd l1 k1 v1 r1, nd l2 k2 v2 r2 => if aboveK seed k1 k2 = true then nd l1 k1 v1 (mergeN seed n r1 (nd l2 k2 v2 r2)) else nd (mergeN seed n (nd l1 k1 v1 r1) l2) k2 v2 r2
end Go.Proofs.Ytaopjdjbpamhhaa
/- Proved: contracts of the map's functions on nodes: put, drop. Conditions: nodes as a tree in memory, of at most four hundred million pairs of lengths that are allowed. -/
namespace Go.Proofs.Ytaopjdjbpamhhaa
open Go Go.RowKit
set_option linter.unusedVariables false
set_option linter.unusedSimpArgs false
/-- A tree with a pair, in the place of one with its key. -/
def Tr.put (seed : Int) (key val : Bts) : Tr → Tr
  | nil => nd nil key val nil
  | nd l k v r => if cmpB key k = 0 then nd l k val r else if aboveK seed key k = true then nd ((nd l k v r).split key).1 key val ((nd l k v r).split key).2 else if cmpB key k < 0 then nd (l.put seed key val) k v r else nd l k v (r.put seed key val)
theorem Tr.put_size (seed : Int) (key val : Bts) : ∀ t : Tr, (t.put seed key val).size ≤ t.size + 1
  | nil => by simp [Tr.put, Tr.size]
  | nd l k v r => by
    have h1 := put_size seed key val l
    have h2 := put_size seed key val r
    have h3 := Tr.split_size key (nd l k v r)
    simp only [Tr.size] at h3
    rw [Tr.put]
    split
    · simp only [Tr.size]; omega
    · split
      · simp only [Tr.size]; omega
      · split <;> simp only [Tr.size] <;> omega

end Go.Proofs.Ytaopjdjbpamhhaa
/- Proved: the contract of the map's function drop on nodes. Conditions: nodes as a tree in memory, of at most four hundred million pairs of lengths that are allowed; the key is there. -/
namespace Go.Proofs.Ytaopjdjbpamhhaa
open Go Go.RowKit
set_option linter.unusedVariables false
set_option linter.unusedSimpArgs false
/-- Whether a key is met on the way down. -/
def Tr.has (key : Bts) : Tr → Bool
  | nil => false
  | nd l k _ r => if cmpB key k = 0 then true else if cmpB key k < 0 then l.has key else r.has key
/-- A tree without a key. -/
def Tr.drop (seed : Int) (key : Bts) : Tr → Tr
  | nil => nil
  | nd l k v r => if cmpB key k = 0 then Tr.mergeN seed (l.size + r.size + 1) l r else if cmpB key k < 0 then nd (l.drop seed key) k v r else nd l k v (r.drop seed key)
end Go.Proofs.Ytaopjdjbpamhhaa
