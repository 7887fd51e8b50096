/- Proved: contracts of the reference's functions Drop, Mark, Top, SamePairs, Get, Span. Conditions: what is read lies in memory. -/
import Derived.Test.YtaopjdjbpamhhaaR2b
namespace Go.Proofs.Ytaopjdjbpamhhaa
open Go Go.RowKit
set_option linter.unusedVariables false
set_option linter.unusedSimpArgs false

/-- The pairs without a key. -/
def dropK (l : List (Bts × Bts)) (k : Bts) : List (Bts × Bts) := if hasK l k then l.take (rank l k) ++ l.drop (rank l k + 1) else l
set_option maxHeartbeats 400000 in
theorem r2Drop_calls {D D1 : Nat → Prop} {v0 v1 : Value} {l : List (Bts × Bts)} {k : Bts} {w : World} (h0 : SV pairEl D w v0 l) (h1 : BV D1 w v1 k) (hs : l.length ≤ 100000000) :
    Calls Try.prog 144 #[v0, v1] w fun e w' => ∃ v', e = .returned v' ∧ SV pairEl (fun b => D b ∨ w.heap.size ≤ b) w' v' (dropK l k) ∧ Kept Noneof w w' := by
  have H0 := Lib.hid (h0.bd pairEl_k)
  have H1 := Lib.hid h1
  have hr := rank_le l k
  obtain ⟨a0, c0, rfl, ⟨hlc, _⟩, _, _⟩ := h0
  have HD := Lib.hid (show ∀ b, (D b ∧ b < w.heap.size) → (D b ∨ w.heap.size ≤ b) from fun b h => .inl h.1)
  go_enter Try.func144, Try.ntmps144
  go_wp2_with fail
  refine (r2Has_calls (by exact SV.at H0.out rfl) (by exact SV.at H1.out rfl)).mono ?_
  rintro e w1 ⟨rfl, n1, rfl⟩
  cases hk : hasK l k
  · have HK := Lib.hid hk
    clear hk
    go_wp2
    go_ret
    exact ⟨_, rfl, by simp only [dropK, HK.out]; exact (H0.out.at rfl).wide pairEl_k fun b hb _ => .inl hb.1, (Kept.refl _ w).drewN _⟩
  · have hlt := hasK_lt hk
    have HK := Lib.hid hk
    clear hk
    go_wp2_with fail
    refine (r2Rank_calls (by exact SV.at H0.out rfl) (by exact SV.at H1.out rfl)).mono ?_
    rintro e w2 ⟨rfl, n2, rfl⟩
    have hrc : rank l k ≤ c0 := by omega
    go_wp2_with (at_builtin; refine wl_app_list (E := pairEl) (D := fun b => D b ∨ w.heap.size ≤ b) rfl (.tmp 15) (.tmp 18) _ rfl tPairs _ [] rfl (Own.nil 70 pairEl _ w.heap.size _) _ _ rfl (H0.out.at rfl |>.take hr) ?c3 ?c4 ?c5 ?c6 ?_; (case c3 => exact fun b hb hlt => ⟨HD.out b hb, fun h => by cases h⟩); (case c4 => simp; omega); (case c5 => omega); (case c6 => exact Nat.le_refl _))
    intro x2 w2 o2 e2 _
    have O2 := Lib.hid o2
    have E2 := Lib.hid (show Kept Noneof w w2 from ((Kept.refl _ w).drewN _).trans e2 fun b h => by cases h)
    have L2 := Lib.hid o2.lt
    clear o2 e2
    go_wp2_with (at_builtin; refine wl_app_list (E := pairEl) rfl (.tmp 20) (.tmp 24) _ rfl tPairs _ _ rfl O2.out _ _ rfl ((H0.out.kept pairEl_k E2.out fun _ _ _ h => h).drop (n := rank l k + 1) (by omega) rfl) ?c3 ?c4 ?c5 ?c6 ?_; (case c3 => exact fun b hb hlt => ⟨HD.out b hb, fun h => by have := L2.out b h; have := hb.2; omega⟩); (case c4 => simp; omega); (case c5 => omega); (case c6 => exact E2.out.size))
    all_goals
      intro x7 w7 o7 e7 _
      go_wp2
      go_ret
      exact ⟨_, rfl, by simp only [dropK, HK.out]; exact o7.rd (fun _ h => h) fun b hb => .inr (o7.lt b hb).1, E2.out.trans e7 fun b h => .inr (L2.out b h).1⟩

/-- The bytes of which a node's digest is the coin; the digest. -/
def markB (left : Int) (k v : Bts) (right : Int) : Bts := leI left 8 ++ leI k.length 1 ++ k ++ leI v.length 2 ++ v ++ leI right 8
def mark (seed left : Int) (k v : Bts) (right : Int) : Int := coin seed 4 (markB left k v right)
abbrev isU64 (x : Int) : Prop := 0 ≤ x ∧ x ≤ 18446744073709551615

set_option maxHeartbeats 800000 in
theorem r2Mark_calls {D1 D2 : Nat → Prop} {seed left right : Int} {v1 v2 : Value} {k v : Bts} {w : World} (hl : isU64 left) (hr : isU64 right) (h1 : BV D1 w v1 k) (h2 : BV D2 w v2 v) (hs : k.length + v.length ≤ 100000000) :
    Calls Try.prog 202 #[.int .u64 seed, .int .u64 left, v1, v2, .int .u64 right] w fun e w' => e = .returned (.int .u64 (mark seed left k v right)) ∧ Kept Noneof w w' := by
  have H1 := Lib.hid h1
  have H2 := Lib.hid h2
  obtain ⟨a1, c1, rfl, _, _, _⟩ := h1
  obtain ⟨a2, c2, rfl, _, _, _⟩ := h2
  have q1 := leI_len 1 k.length
  have q2 := leI_len 2 v.length
  have q3 := leI_len 8 left
  have q4 := leI_len 8 right
  go_enter Try.func202, Try.ntmps202
  go_wp2_with fail
  refine (r2Little_calls (x := left) (n := 8) hl.1 hl.2 (by omega)).mono ?_
  rintro e w1 ⟨x1, rfl, o1, e1⟩
  have E1 := Lib.hid e1
  have O1 := Lib.hid o1
  clear e1 o1
  go_wp2_with fail
  refine (r2Little_calls (x := k.length) (n := 1) (by omega) (by omega) (by omega)).mono ?_
  rintro e w2 ⟨x2, rfl, o2, e2⟩
  have O2 := Lib.hid (O1.out.kept e2 fun _ h => h.elim)
  have E2 := Lib.hid (E1.out.trans e2 fun _ h => h.elim)
  have S2 := Lib.hid o2.sv
  clear O1 E1 o2 e2
  go_wp2_with (at_builtin; refine wl_app_bytes rfl (.tmp 14) (.tmp 18) _ rfl tBytes _ _ rfl O2.out _ _ rfl S2.out ?c4 ?c6 ?_; (case c4 => omega); (case c6 => exact E2.out.size))
  intro x3 w3 o3 e3 _
  have O3 := Lib.hid o3
  have E3 := Lib.hid (E2.out.trans e3 fun b hb => .inr (O2.out.lt b hb).1)
  clear o3 e3 O2 E2 S2
  go_wp2_with (at_builtin; refine wl_app_bytes rfl (.tmp 20) (.tmp 21) _ rfl tBytes _ _ rfl O3.out _ _ rfl (H1.out.kept byteEl_k E3.out fun _ _ _ h => h) ?c4 ?c6 ?_; (case c4 => simp; omega); (case c6 => exact E3.out.size))
  intro x4 w4 o4 e4 _
  have O4 := Lib.hid o4
  have E4 := Lib.hid (E3.out.trans e4 fun b hb => .inr (O3.out.lt b hb).1)
  clear o4 e4 O3 E3
  go_wp2_with fail
  refine (r2Little_calls (x := v.length) (n := 2) (by omega) (by omega) (by omega)).mono ?_
  rintro e w5 ⟨x5, rfl, o5, e5⟩
  have O5 := Lib.hid (O4.out.kept e5 fun _ h => h.elim)
  have E5 := Lib.hid (E4.out.trans e5 fun _ h => h.elim)
  have S5 := Lib.hid o5.sv
  clear O4 E4 o5 e5
  go_wp2_with (at_builtin; refine wl_app_bytes rfl (.tmp 23) (.tmp 27) _ rfl tBytes _ _ rfl O5.out _ _ rfl S5.out ?c4 ?c6 ?_; (case c4 => simp; omega); (case c6 => exact E5.out.size))
  intro x6 w6 o6 e6 _
  have O6 := Lib.hid o6
  have E6 := Lib.hid (E5.out.trans e6 fun b hb => .inr (O5.out.lt b hb).1)
  clear o6 e6 O5 E5 S5
  go_wp2_with (at_builtin; refine wl_app_bytes rfl (.tmp 29) (.tmp 30) _ rfl tBytes _ _ rfl O6.out _ _ rfl (H2.out.kept byteEl_k E6.out fun _ _ _ h => h) ?c4 ?c6 ?_; (case c4 => simp; omega); (case c6 => exact E6.out.size))
  intro x7 w7 o7 e7 _
  have O7 := Lib.hid o7
  have E7 := Lib.hid (E6.out.trans e7 fun b hb => .inr (O6.out.lt b hb).1)
  clear o7 e7 O6 E6
  go_wp2_with fail
  refine (r2Little_calls (x := right) (n := 8) hr.1 hr.2 (by omega)).mono ?_
  rintro e w8 ⟨x8, rfl, o8, e8⟩
  have O8 := Lib.hid (O7.out.kept e8 fun _ h => h.elim)
  have E8 := Lib.hid (E7.out.trans e8 fun _ h => h.elim)
  have S8 := Lib.hid o8.sv
  clear O7 E7 o8 e8
  go_wp2_with (at_builtin; refine wl_app_bytes rfl (.tmp 32) (.tmp 34) _ rfl tBytes _ _ rfl O8.out _ _ rfl S8.out ?c4 ?c6 ?_; (case c4 => simp; omega); (case c6 => exact E8.out.size))
  intro x9 w9 o9 e9 _
  have E9 := Lib.hid (E8.out.trans e9 fun b hb => .inr (O8.out.lt b hb).1)
  have O9 := Lib.hid o9.sv
  clear o9 e9 O8 E8 S8
  go_wp2_with fail
  refine (r1Coin_calls O9.out).mono ?_
  rintro e w10 ⟨rfl, n10, rfl⟩
  go_wp2
  go_ret
  exact ⟨ret_int (by simp [mark, markB]), E9.out.drewN _⟩

/-- The place of the pair at the root: the first of those of greatest height; -1 if there is none. Behind some pairs: the place, and the height. -/
def topStep (seed : Int) (i : Nat) (k : Bts) (s : Int × Int) : Int × Int := if s.1 < 0 ∨ s.2 < coin seed 3 k then ((i : Int), coin seed 3 k) else s
def topTo (seed : Int) (l : List (Bts × Bts)) : Nat → Int × Int
  | 0 => (-1, 0)
  | n + 1 => match l[n]? with | some p => topStep seed n p.1 (topTo seed l n) | none => topTo seed l n
def topI (seed : Int) (l : List (Bts × Bts)) : Int := (topTo seed l l.length).1
theorem topTo_succ {seed : Int} {l : List (Bts × Bts)} {n : Nat} (h : n < l.length) : topTo seed l (n + 1) = topStep seed n l[n].1 (topTo seed l n) := by
  rw [topTo, List.getElem?_eq_getElem h]
theorem topTo_lt (seed : Int) (l : List (Bts × Bts)) : ∀ n, -1 ≤ (topTo seed l n).1 ∧ (topTo seed l n).1 < n
  | 0 => by simp [topTo]
  | n + 1 => by
    have := topTo_lt seed l n
    rw [topTo]
    split
    · rw [topStep]; split <;> simp <;> omega
    · omega

set_option maxHeartbeats 400000 in
theorem r2Top_calls {D : Nat → Prop} {seed : Int} {v0 : Value} {l : List (Bts × Bts)} {w : World} (h0 : SV pairEl D w v0 l) :
    Calls Try.prog 166 #[.int .u64 seed, v0] w fun e w' => e = .returned (.int .i64 (topI seed l)) ∧ Drew w w' := by
  obtain ⟨a0, c0, rfl, ⟨hlc, _⟩, hm, h0⟩ := h0
  have H0 := Lib.hid h0
  clear h0
  go_enter Try.func166, Try.ntmps166
  go_wp2
  go_loopw [5, 6, 7] (fun b h i w' => ∃ (k : Nat) (s : Int × Int), k ≤ l.length ∧ i = .int .i64 k ∧ b = .int .i64 s.1 ∧ h = .int .u64 s.2 ∧ Hid (topTo seed l k = s) ∧ Drew w w') (fun _ _ i _ => l.length - (intOf i).toNat)
  case atStart => exact ⟨0, (-1, 0), by omega, rfl, rfl, rfl, rfl, Drew.refl _⟩
  case round =>
    obtain ⟨k, s, hk, rfl, rfl, rfl, HS, ⟨n, rfl⟩⟩ := hrel
    by_cases hlt : k < l.length
    · obtain ⟨b1, o1, u, v, rfl, _, g1, _, hk', _⟩ := Rd.pair H0.out hlt
      have HX := Lib.hid hk'
      have hb := topTo_lt seed l k
      rw [HS.out] at hb
      have HT := Lib.hid (topTo_succ (seed := seed) hlt)
      clear hk'
      go_wp2_with fail
      refine (r2Height_calls (by exact SV.at HX.out rfl)).mono ?_
      rintro e w1 ⟨rfl, n1, rfl⟩
      by_cases c1 : s.1 < 0
      · go_wp2
        go_roundw
        case rel => exact ⟨k + 1, ((k : Int), coin seed 3 l[k].1), by omega, by go_num, rfl, rfl, by show _ = _; rw [HT.out, topStep, HS.out, if_pos (.inl c1)], (by repeat (first | exact Drew.refl _ | exact ⟨_, rfl⟩ | apply Drew.step | apply Drew.one))⟩
        case measure => simp [intOf]; omega
      · by_cases c2 : s.2 < coin seed 3 l[k].1
        · go_wp2
          go_roundw
          case rel => exact ⟨k + 1, ((k : Int), coin seed 3 l[k].1), by omega, by go_num, rfl, rfl, by show _ = _; rw [HT.out, topStep, HS.out, if_pos (.inr c2)], (by repeat (first | exact Drew.refl _ | exact ⟨_, rfl⟩ | apply Drew.step | apply Drew.one))⟩
          case measure => simp [intOf]; omega
        · go_wp2
          go_roundw
          case rel => exact ⟨k + 1, s, by omega, by go_num, rfl, rfl, by show _ = _; rw [HT.out, topStep, HS.out, if_neg (by omega)], (by repeat (first | exact Drew.refl _ | exact ⟨_, rfl⟩ | apply Drew.step | apply Drew.one))⟩
          case measure => simp [intOf]; omega
    · obtain rfl : k = l.length := by omega
      go_wp2
      go_ret
      exact ⟨ret_int (by unfold topI; rw [HS.out]), (by repeat (first | exact Drew.refl _ | exact ⟨_, rfl⟩ | apply Drew.step | apply Drew.one))⟩

/-- Whether two lists have the same pairs. -/
def sameP (a b : List (Bts × Bts)) : Bool := a.length == b.length && (a.zip b).all fun p => cmpB p.1.1 p.2.1 == 0 && cmpB p.1.2 p.2.2 == 0
theorem sameP_upto {a b : List (Bts × Bts)} (hl : a.length = b.length) (h : ∀ i (h1 : i < a.length) (h2 : i < b.length), cmpB a[i].1 b[i].1 = 0 ∧ cmpB a[i].2 b[i].2 = 0) : sameP a b = true := by
  simp only [sameP, hl, beq_self_eq_true, Bool.true_and, List.all_eq_true, Bool.and_eq_true, beq_iff_eq]
  intro p hp
  obtain ⟨i, hi, rfl⟩ := List.getElem_of_mem hp
  rw [List.getElem_zip]
  have hi' : i < min a.length b.length := by simpa using hi
  exact h i (by omega) (by omega)
theorem sameP_not {a b : List (Bts × Bts)} {i : Nat} (h1 : i < a.length) (h2 : i < b.length) (h : ¬ (cmpB a[i].1 b[i].1 = 0 ∧ cmpB a[i].2 b[i].2 = 0)) : sameP a b = false := by
  rw [Bool.eq_false_iff]
  intro hs
  simp only [sameP, Bool.and_eq_true, List.all_eq_true, beq_iff_eq] at hs
  refine h (hs.2 (a[i], b[i]) ?_)
  rw [← List.getElem_zip (h := by simp; omega)]
  exact List.getElem_mem _

set_option maxHeartbeats 1000000 in
theorem r2SamePairs_calls {D1 D2 : Nat → Prop} {v1 v2 : Value} {la lb : List (Bts × Bts)} {w : World} (h1 : SV pairEl D1 w v1 la) (h2 : SV pairEl D2 w v2 lb) :
    Calls Try.prog 125 #[v1, v2] w fun e w' => e = .returned (.bool (sameP la lb)) ∧ Drew w w' := by
  obtain ⟨a1, c1, rfl, ⟨_, _⟩, m1, h1⟩ := h1
  obtain ⟨a2, c2, rfl, ⟨_, _⟩, m2, h2⟩ := h2
  have H1 := Lib.hid h1
  have H2 := Lib.hid h2
  clear h1 h2
  by_cases hl : la.length = lb.length
  case neg =>
    have hne : ((la.length : Int) != (lb.length : Int)) = true := by rw [bne_iff_ne]; omega
    have HR := Lib.hid (show sameP la lb = false by simp [sameP, hl])
    have HL := Lib.hid hl
    clear hl
    go_enter Try.func125, Try.ntmps125
    go_wp2
    go_ret
    exact ⟨ret_bool HR.out.symm, (by repeat (first | exact Drew.refl _ | exact ⟨_, rfl⟩ | apply Drew.step | apply Drew.one))⟩
  case pos =>
    have hne : ((la.length : Int) != (lb.length : Int)) = false := by rw [bne_eq_false_iff_eq]; omega
    have HL := Lib.hid hl
    clear hl
    go_enter Try.func125, Try.ntmps125
    go_wp2
    go_loopw [5] (fun i w' => ∃ k : Nat, k ≤ la.length ∧ i = .int .i64 k ∧ Hid (∀ i, i < k → ∀ (h1 : i < la.length) (h2 : i < lb.length), cmpB la[i].1 lb[i].1 = 0 ∧ cmpB la[i].2 lb[i].2 = 0) ∧ Drew w w') (fun i _ => la.length - (intOf i).toNat)
    case atStart => exact ⟨0, by omega, rfl, fun i hi => absurd hi (by omega), Drew.refl _⟩
    case round =>
      obtain ⟨k, hk, rfl, HK, ⟨n, rfl⟩⟩ := hrel
      by_cases hlt : k < la.length
      · have hlt2 : k < lb.length := by have := HL.out; omega
        obtain ⟨b1, o1, u1, x1, rfl, _, g1, g1', q1, r1⟩ := Rd.pair H1.out hlt
        obtain ⟨b2, o2, u2, x2, rfl, _, g2, g2', q2, r2⟩ := Rd.pair H2.out hlt2
        have Q1 := Lib.hid q1
        have R1 := Lib.hid r1
        have Q2 := Lib.hid q2
        have R2 := Lib.hid r2
        clear q1 r1 q2 r2
        by_cases hc : cmpB la[k].1 lb[k].1 = 0
        · have e1 : (cmpB la[k].1 lb[k].1 != 0) = false := by rw [bne_eq_false_iff_eq]; exact hc
          have HC := Lib.hid hc
          clear hc
          by_cases hd : cmpB la[k].2 lb[k].2 = 0
          · have e2 : (cmpB la[k].2 lb[k].2 != 0) = false := by rw [bne_eq_false_iff_eq]; exact hd
            have HK2 := Lib.hid (show ∀ i, i < k + 1 → ∀ (h1 : i < la.length) (h2 : i < lb.length), cmpB la[i].1 lb[i].1 = 0 ∧ cmpB la[i].2 lb[i].2 = 0 from fun i hi h1 h2 => by
              rcases Nat.lt_or_ge i k with h | h
              · exact HK.out i h h1 h2
              · obtain rfl : i = k := by omega
                exact ⟨HC.out, hd⟩)
            clear hd
            go_wp2
            go_quiet (first | ((go_at_call 61; first | exact Drew.q (r2Compare_calls (Q1.out.at rfl) (Q2.out.at rfl)) | exact Drew.qa (r2Compare_calls (Q1.out.at rfl) (Q2.out.at rfl)))) | ((go_at_call 61; first | exact Drew.q (r2Compare_calls (R1.out.at rfl) (R2.out.at rfl)) | exact Drew.qa (r2Compare_calls (R1.out.at rfl) (R2.out.at rfl)))))
            go_wp2
            go_roundw
            case rel => exact ⟨k + 1, by omega, by go_num, HK2, (by repeat (first | exact Drew.refl _ | exact ⟨_, rfl⟩ | apply Drew.step | apply Drew.one))⟩
            case measure => simp [intOf]; omega
          · have e2 : (cmpB la[k].2 lb[k].2 != 0) = true := by rw [bne_iff_ne]; exact hd
            have HR := Lib.hid (sameP_not hlt hlt2 fun h => hd h.2)
            clear hd
            go_wp2
            go_quiet (first | ((go_at_call 61; first | exact Drew.q (r2Compare_calls (Q1.out.at rfl) (Q2.out.at rfl)) | exact Drew.qa (r2Compare_calls (Q1.out.at rfl) (Q2.out.at rfl)))) | ((go_at_call 61; first | exact Drew.q (r2Compare_calls (R1.out.at rfl) (R2.out.at rfl)) | exact Drew.qa (r2Compare_calls (R1.out.at rfl) (R2.out.at rfl)))))
            go_wp2
            go_ret
            exact ⟨ret_bool HR.out.symm, (by repeat (first | exact Drew.refl _ | exact ⟨_, rfl⟩ | apply Drew.step | apply Drew.one))⟩
        · have e1 : (cmpB la[k].1 lb[k].1 != 0) = true := by rw [bne_iff_ne]; exact hc
          have HR := Lib.hid (sameP_not hlt hlt2 fun h => hc h.1)
          clear hc
          go_wp2
          go_quiet (first | ((go_at_call 61; first | exact Drew.q (r2Compare_calls (Q1.out.at rfl) (Q2.out.at rfl)) | exact Drew.qa (r2Compare_calls (Q1.out.at rfl) (Q2.out.at rfl)))))
          go_wp2
          go_ret
          exact ⟨ret_bool HR.out.symm, (by repeat (first | exact Drew.refl _ | exact ⟨_, rfl⟩ | apply Drew.step | apply Drew.one))⟩
      · have HR := Lib.hid (sameP_upto HL.out fun i h1 h2 => HK.out i (by omega) h1 h2)
        go_wp2
        go_ret
        exact ⟨ret_bool HR.out.symm, (by repeat (first | exact Drew.refl _ | exact ⟨_, rfl⟩ | apply Drew.step | apply Drew.one))⟩
end Go.Proofs.Ytaopjdjbpamhhaa
