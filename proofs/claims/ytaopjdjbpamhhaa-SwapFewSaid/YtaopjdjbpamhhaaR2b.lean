/- Proved: contracts of the reference's functions that make new lists: Copy, Little, Told, Mark, Put, Drop, Get, Span. Conditions: what is read lies in memory. -/
import Derived.Test.YtaopjdjbpamhhaaOwn
import Derived.Test.YtaopjdjbpamhhaaR2a
namespace Go.Proofs.Ytaopjdjbpamhhaa
open Go Go.RowKit
set_option linter.unusedVariables false
set_option linter.unusedSimpArgs false

theorem tBytes : SlT Try.prog 31 5 1 1 (.int .u8 0) := SlT.of (by kernel_rfl) (by kernel_rfl) rfl (by decide)
theorem tPairs : SlT Try.prog 65 70 2 48 (.agg #[.slice none 0 0, .slice none 0 0]) := SlT.of (by kernel_rfl) (by kernel_rfl) rfl (by decide)

set_option maxHeartbeats 400000 in
theorem r2Copy_calls {D : Nat → Prop} {v : Value} {l : Bts} {w : World} (h : BV D w v l) :
    Calls Try.prog 163 #[v] w fun e w' => ∃ v', e = .returned v' ∧ Own 5 byteEl Noneof w.heap.size w' v' l ∧ Kept Noneof w w' := by
  have HS := Lib.hid h
  obtain ⟨a, c, rfl, _, m, _⟩ := h
  go_enter Try.func163, Try.ntmps163
  go_wp2_with (at_make; refine wl_make (E := byteEl) rfl _ _ _ rfl tBytes Noneof w.heap.size l.length .i64 .i64 _ _ rfl rfl rfl rfl 0 (fun _ => rfl) ?b1 ?b2 ?b3 ?_)
  case b1 => omega
  case b2 => omega
  case b3 => exact Nat.le_refl _
  intro w1 g hown hk hg
  have HS1 := Lib.hid (HS.out.kept byteEl_k hk fun _ _ _ h => h.elim)
  clear HS
  go_wp2_with (refine wl_copy rfl (.tmp 7) (.tmp 8) 31 rfl tBytes g l.length l.length _ rfl hown (by simp) _ l rfl HS1.out rfl ?_)
  intro w2 hown2 hk2
  go_wp2
  go_ret
  exact ⟨_, rfl, hown2, hk.trans hk2 (fun n hn => .inr (hn ▸ hg))⟩
/-- A number's bytes, the least one first. -/
def leI (x : Int) : Nat → Bts
  | 0 => []
  | n + 1 => UInt8.ofNat (x % 256).toNat :: leI (x / 256) n
theorem leI_len : ∀ (n : Nat) (x : Int), (leI x n).length = n
  | 0, _ => rfl
  | n + 1, x => by rw [leI, List.length_cons, leI_len n]
theorem leI_snoc : ∀ (n : Nat) (x : Int), leI x (n + 1) = leI x n ++ [UInt8.ofNat (x / 2 ^ (8 * n) % 256).toNat]
  | 0, x => by simp [leI]
  | n + 1, x => by
    rw [leI, leI_snoc n, leI, List.cons_append]
    congr 4
    rw [Int.ediv_ediv_of_nonneg (by decide), Nat.mul_add, Int.pow_add, Int.mul_comm]
    rfl
theorem u8_of (x : Int) (h : 0 ≤ x) : (((UInt8.ofNat (x % 256).toNat).toNat : Nat) : Int) = x % 256 := by
  rw [UInt8.toNat_ofNat']
  have := Int.emod_lt_of_pos x (show (0 : Int) < 256 by decide)
  have := Int.emod_nonneg x (show (256 : Int) ≠ 0 by decide)
  omega

set_option maxHeartbeats 400000 in
theorem r2Little_calls {x : Int} {n : Nat} {w : World} (h0 : 0 ≤ x) (h1 : x ≤ 18446744073709551615) (hn : n ≤ 8) :
    Calls Try.prog 173 #[.int .u64 x, .int .i64 n] w fun e w' => ∃ v', e = .returned v' ∧ Own 5 byteEl Noneof w.heap.size w' v' (leI x n) ∧ Kept Noneof w w' := by
  go_enter Try.func173, Try.ntmps173
  go_wp2
  go_loopw [5, 6] (fun v i wr => ∃ k : Nat, k ≤ n ∧ i = .int .i64 k ∧ Own 5 byteEl Noneof w.heap.size wr v (leI x k) ∧ Kept Noneof w wr) (fun _ i _ => n - (intOf i).toNat)
  case atStart => exact ⟨0, by omega, rfl, Own.nil _ _ _ _ _, Kept.refl _ _⟩
  case round =>
    obtain ⟨k, hk, rfl, hown, hkept⟩ := hrel
    by_cases hlt : k < n
    · have hx : 0 ≤ x / 2 ^ (8 * k) := Int.ediv_nonneg h0 (Int.pow_nonneg (by decide))
      have hl := leI_len k x
      go_wp2_with (at_builtin; refine wl_app_one (E := byteEl) (D := Noneof) (D' := Noneof) rfl (.tmp 12) (.tmp 18) _ rfl tBytes _ _ rfl (hown.alloc _) wr.heap.size [.int .u8 (x / 2 ^ (8 * k) % 256)] (UInt8.ofNat (x / 2 ^ (8 * k) % 256).toNat) rfl ?c1 ?c2 ?c3 ?c4 ?c5 ?c6 ?_)
      case c1 => exact ⟨_, _, heap_alloc_new _ _⟩
      case c2 => show _ = _; rw [u8_of _ hx]
      case c3 => exact fun _ h => h.elim
      case c4 => omega
      case c5 => omega
      case c6 => have := hkept.size; simp; omega
      intro v' w1 hown1 hk1 _
      rw [← leI_snoc] at hown1
      have hkw : Kept Noneof w w1 := (hkept.alloc _).trans hk1 (fun b hb => .inr (hown.lt b hb).1)
      clear hown hkept hk1 hl
      go_wp2
      go_roundw
      case rel => exact ⟨k + 1, by omega, by go_num, hown1, hkw⟩
      case measure => simp [intOf]; omega
    · obtain rfl : k = n := by omega
      go_wp2
      go_ret
      exact ⟨_, rfl, hown, hkept⟩
/-- The bytes of a pair: the length of its key, that of its value, the key, the value. -/
def told (k v : Bts) : Bts := leI k.length 1 ++ leI v.length 2 ++ k ++ v
set_option maxHeartbeats 400000 in
theorem r2Told_calls {D1 D2 : Nat → Prop} {v1 v2 : Value} {k v : Bts} {w : World} (h1 : BV D1 w v1 k) (h2 : BV D2 w v2 v) (hs : k.length + v.length ≤ 100000000) :
    Calls Try.prog 175 #[v1, v2] w fun e w' => ∃ v', e = .returned v' ∧ Own 5 byteEl Noneof w.heap.size w' v' (told k v) ∧ Kept Noneof w w' := by
  have H1 := Lib.hid h1
  have H2 := Lib.hid h2
  obtain ⟨a1, c1, rfl, _, _, _⟩ := h1
  obtain ⟨a2, c2, rfl, _, _, _⟩ := h2
  have q1 := leI_len 1 k.length
  have q2 := leI_len 2 v.length
  go_enter Try.func175, Try.ntmps175
  go_wp2_with fail
  refine (r2Little_calls (x := k.length) (n := 1) (by omega) (by omega) (by omega)).mono ?_
  rintro e w1 ⟨x1, rfl, o1, e1⟩
  have E1 := Lib.hid e1
  have O1 := Lib.hid o1
  clear e1 o1
  go_wp2_with fail
  refine (r2Little_calls (x := v.length) (n := 2) (by omega) (by omega) (by omega)).mono ?_
  rintro e w2 ⟨x2, rfl, o2, e2⟩
  have O2 := Lib.hid (O1.out.kept e2 fun _ h => h.elim)
  have E2 := Lib.hid (E1.out.trans e2 fun _ h => h.elim)
  have S2 := Lib.hid o2.sv
  clear O1 E1 o2 e2
  go_wp2_with (at_builtin; refine wl_app_bytes rfl (.tmp 10) (.tmp 14) _ rfl tBytes _ _ rfl O2.out _ _ rfl S2.out ?c4 ?c6 ?_)
  case c4 => omega
  case c6 => exact E2.out.size
  intro x3 w3 o3 e3 _
  have O3 := Lib.hid o3
  have E3 := Lib.hid (E2.out.trans e3 fun b hb => .inr (O2.out.lt b hb).1)
  clear o3 e3 O2 E2 S2
  go_wp2_with (at_builtin; refine wl_app_bytes rfl (.tmp 16) (.tmp 17) _ rfl tBytes _ _ rfl O3.out _ _ rfl (H1.out.kept byteEl_k E3.out fun _ _ _ h => h) ?c4 ?c6 ?_)
  case c4 => simp; omega
  case c6 => exact E3.out.size
  intro x4 w4 o4 e4 _
  have O4 := Lib.hid o4
  have E4 := Lib.hid (E3.out.trans e4 fun b hb => .inr (O3.out.lt b hb).1)
  clear o4 e4 O3 E3
  go_wp2_with (at_builtin; refine wl_app_bytes rfl (.tmp 19) (.tmp 20) _ rfl tBytes _ _ rfl O4.out _ _ rfl (H2.out.kept byteEl_k E4.out fun _ _ _ h => h) ?c4 ?c6 ?_)
  case c4 => simp; omega
  case c6 => exact E4.out.size
  intro x5 w5 o5 e5 _
  go_wp2
  go_ret
  exact ⟨_, rfl, o5, E4.out.trans e5 fun b hb => .inr (O4.out.lt b hb).1⟩

/-- The pairs with a pair, in the place of one with its key. -/
def putK (l : List (Bts × Bts)) (k v : Bts) : List (Bts × Bts) := l.take (rank l k) ++ [(k, v)] ++ l.drop (if hasK l k then rank l k + 1 else rank l k)

set_option maxHeartbeats 400000 in
theorem r2Put_calls {D D1 D2 : Nat → Prop} {v0 v1 v2 : Value} {l : List (Bts × Bts)} {k v : Bts} {w : World} (h0 : SV pairEl D w v0 l) (h1 : BV D1 w v1 k) (h2 : BV D2 w v2 v) (hs : l.length ≤ 100000000) :
    Calls Try.prog 123 #[v0, v1, v2] w fun e w' => ∃ v', e = .returned v' ∧ Own 70 pairEl (fun b => D b ∨ w.heap.size ≤ b) w.heap.size w' v' (putK l k v) ∧ Kept Noneof w w' := by
  have H0 := Lib.hid (h0.bd pairEl_k)
  have H1 := Lib.hid h1
  have H2 := Lib.hid h2
  have hr := rank_le l k
  obtain ⟨a0, c0, rfl, ⟨hlc, _⟩, _, _⟩ := h0
  go_enter Try.func123, Try.ntmps123
  go_wp2_with fail
  refine (r2Rank_calls (by exact SV.at H0.out rfl) (by exact SV.at H1.out rfl)).mono ?_
  rintro e w1 ⟨rfl, n1, rfl⟩
  have HD := Lib.hid (show ∀ b, (D b ∧ b < w.heap.size) → (D b ∨ w.heap.size ≤ b) from fun b h => .inl h.1)
  have hrc : rank l k ≤ c0 := by omega
  go_wp2_with (at_builtin; refine wl_app_list (E := pairEl) (D := fun b => D b ∨ w.heap.size ≤ b) rfl (.tmp 12) (.tmp 15) _ rfl tPairs _ [] rfl (Own.nil 70 pairEl _ w.heap.size _) _ _ rfl (H0.out.at rfl |>.take hr) ?c3 ?c4 ?c5 ?c6 ?_)
  case c3 => exact fun b hb hlt => ⟨HD.out b hb, fun h => by cases h⟩
  case c4 => simp; omega
  case c5 => omega
  case c6 => exact Nat.le_refl _
  intro x2 w2 o2 e2 _
  have O2 := Lib.hid o2
  have E2 := Lib.hid (show Kept Noneof w w2 from ((Kept.refl _ w).drewN n1).trans e2 fun b h => by cases h)
  clear o2 e2
  go_wp2_with fail
  refine (r2Copy_calls (H1.out.kept byteEl_k E2.out fun _ _ _ h => h)).mono ?_
  rintro e w3 ⟨x3, rfl, o3, e3⟩
  obtain ⟨a3, c3, rfl⟩ := o3.slice
  have E3 := Lib.hid (E2.out.trans e3 fun _ h => .inl h)
  have O3 := Lib.hid o3
  have O2' := Lib.hid (O2.out.kept e3 fun _ h => h.elim)
  have L2 := Lib.hid O2.out.lt
  have S3 := e3.size
  have S2 := E2.out.size
  clear o3 e3 O2
  go_wp2_with fail
  refine (r2Copy_calls (H2.out.kept byteEl_k E3.out fun _ _ _ h => h)).mono ?_
  rintro e w4 ⟨x4, rfl, o4, e4⟩
  obtain ⟨a4, c4, rfl⟩ := o4.slice
  have E4 := Lib.hid (E3.out.trans e4 fun _ h => .inl h)
  have O4 := Lib.hid o4
  have O3' := Lib.hid (O3.out.kept e4 fun _ h => h.elim)
  have O2 := Lib.hid (O2'.out.kept e4 fun _ h => h.elim)
  have S4 := e4.size
  clear o4 e4 O3 O2'
  go_wp2_with (at_builtin; refine wl_app_one (E := pairEl) (D := fun b => D b ∨ w.heap.size ≤ b) (D' := fun b => w2.heap.size ≤ b) rfl (.tmp 17) (.tmp 23) _ rfl tPairs _ _ rfl (O2.out.alloc _) w4.heap.size [.slice a3 k.length c3, .slice a4 v.length c4] (k, v) rfl ?c1 ?c2 ?c3 ?c4 ?c5 ?c6 ?_)
  case c1 => exact ⟨_, _, heap_alloc_new _ _⟩
  case c2 => exact ⟨_, _, rfl, (O3'.out.alloc _).sv.wide byteEl_k fun b hb _ => by simpa [Noneof] using hb, (O4.out.alloc _).sv.wide byteEl_k fun b hb _ => by simp [Noneof] at hb; omega⟩
  case c3 => exact fun b hb _ => ⟨.inr (by omega), fun h => by have := L2.out b h; omega⟩
  case c4 => simp; omega
  case c5 => omega
  case c6 => simp; omega
  intro x5 w5 o5 e5 _
  have O5 := Lib.hid o5
  have E5 := Lib.hid (show Kept Noneof w w5 from (E4.out.alloc _).trans e5 fun b h => .inr (L2.out b h).1)
  clear o5 e5 O2 O3' O4 E4
  go_wp2_with fail
  refine (r2Has_calls (H0.out.kept pairEl_k E5.out fun _ _ _ h => h) (H1.out.kept byteEl_k E5.out fun _ _ _ h => h)).mono ?_
  rintro e w6 ⟨rfl, n6, rfl⟩
  have L5 := Lib.hid O5.out.lt
  cases hk : hasK l k
  · have HK := Lib.hid hk
    clear hk
    go_wp2_with (at_builtin; refine wl_app_list (E := pairEl) rfl (.tmp 30) (.tmp 33) _ rfl tPairs _ _ rfl (O5.out.at rfl) _ _ rfl (((H0.out.kept pairEl_k E5.out fun _ _ _ h => h).at rfl).drop hr rfl) ?c3 ?c4 ?c5 ?c6 ?_; (case c3 => exact fun b hb hlt => ⟨HD.out b hb, fun h => by have := L5.out b h; have := hb.2; omega⟩); (case c4 => simp; omega); (case c5 => omega); (case c6 => exact E5.out.size))
    all_goals
      intro x7 w7 o7 e7 _
      go_wp2
      go_ret
      exact ⟨_, rfl, by simpa [putK, HK.out] using o7, (E5.out.drewN _).trans e7 fun b h => .inr (L5.out b h).1⟩
  · have hlt := hasK_lt hk
    have HK := Lib.hid hk
    clear hk
    go_wp2_with (at_builtin; refine wl_app_list (E := pairEl) rfl (.tmp 30) (.tmp 33) _ rfl tPairs _ _ rfl (O5.out.at rfl) _ _ rfl (((H0.out.kept pairEl_k E5.out fun _ _ _ h => h).at rfl).drop (n := rank l k + 1) (by omega) rfl) ?c3 ?c4 ?c5 ?c6 ?_; (case c3 => exact fun b hb hlt => ⟨HD.out b hb, fun h => by have := L5.out b h; have := hb.2; omega⟩); (case c4 => simp; omega); (case c5 => omega); (case c6 => exact E5.out.size))
    all_goals
      intro x7 w7 o7 e7 _
      go_wp2
      go_ret
      exact ⟨_, rfl, by simpa [putK, HK.out] using o7, (E5.out.drewN _).trans e7 fun b h => .inr (L5.out b h).1⟩
end Go.Proofs.Ytaopjdjbpamhhaa
