/- Proved: contract of the reference 07's Differ. Conditions: pairs in memory. -/
import Derived.Test.YtaopjdjbpamhhaaSl4
namespace Go.Proofs.Ytaopjdjbpamhhaa
open Go Go.RowKit
set_option linter.unusedVariables false
set_option linter.unusedSimpArgs false

theorem countP_succ {α : Type} {f : α → Bool} {l : List α} {n : Nat} (h : n < l.length) : (l.take (n + 1)).countP f = (l.take n).countP f + if f l[n] = true then 1 else 0 := by
  rw [List.take_succ_eq_append_getElem h, List.countP_append, List.countP_cons, List.countP_nil, Nat.zero_add]
def dif1 (b : List (Bts × Bts)) (p : Bts × Bts) : Bool := getK b p.1 != some p.2
def dif2 (a : List (Bts × Bts)) (p : Bts × Bts) : Bool := !hasK a p.1
def differK (a b : List (Bts × Bts)) : Nat := a.countP (dif1 b) + b.countP (dif2 a)
theorem differ_diffS (F U : List (Bts × Bts)) : differK F U = diffS F U [] [] false := by
  simp only [differK, diffS, inS_all, Bool.true_and]
  rfl

set_option maxRecDepth 100000 in
set_option maxHeartbeats 2000000 in
theorem r7Differ_calls {D1 D2 : Nat → Prop} {v1 v2 : Value} {a b : List (Bts × Bts)} {w : World} (h1 : SV pairEl D1 w v1 a) (h2 : SV pairEl D2 w v2 b) :
    Calls Try.prog 132 #[v1, v2] w fun e w' => e = .returned (.int .i64 (differK a b)) ∧ Drew w w' := by
  have H1 := Lib.hid h1
  have H2 := Lib.hid h2
  obtain ⟨a1, c1, rfl, _, m1, rd1⟩ := h1
  obtain ⟨a2, c2, rfl, _, m2, rd2⟩ := h2
  have R1 := Lib.hid rd1
  have R2 := Lib.hid rd2
  clear rd1 rd2
  go_enter Try.func132, Try.ntmps132
  go_wp2
  go_loopw [5, 6] (fun n i w' => ∃ k c : Nat, k ≤ a.length ∧ c ≤ k ∧ i = .int .i64 k ∧ n = .int .i64 c ∧ Hid (c = (a.take k).countP (dif1 b)) ∧ Drew w w') (fun _ i _ => a.length - (intOf i).toNat)
  case atStart => exact ⟨0, 0, by omega, by omega, rfl, rfl, Lib.hid (by simp), Drew.refl _⟩
  case round =>
    obtain ⟨k, c, hk, hck, rfl, rfl, HC, ⟨n, rfl⟩⟩ := hrel
    by_cases hl : k < a.length
    · obtain ⟨b1, o1, u, v, rfl, _, g0, g1, hkv, hvv⟩ := Rd.pair R1.out hl
      have HK := Lib.hid hkv
      have HV := Lib.hid hvv
      have CS := Lib.hid (countP_succ (f := dif1 b) hl)
      clear hkv hvv
      go_wp2_with fail
      refine (r2Get_calls (w := w.drewN n) (by exact SV.at H2.out rfl) (by exact SV.at HK.out rfl)).mono ?_
      rintro e w1 ⟨h1 | h1, n1, rfl⟩
      · obtain ⟨vx, x, hx, rfl, hvx⟩ := h1
        have HX := Lib.hid hvx
        have GX := Lib.hid hx
        obtain ⟨a3, c3, rfl, _⟩ := id hvx
        clear hx hvx
        by_cases hc : cmpB x a[k].2 = 0
        · have e1 : (cmpB x a[k].2 != 0) = false := by rw [bne_eq_false_iff_eq]; exact hc
          have HF := Lib.hid (show dif1 b a[k] = false by rw [dif1, GX.out, cmpB_zero hc]; simp)
          clear hc
          go_wp2_with fail
          refine (r2Compare_calls (by exact SV.at HX.out rfl) (by exact SV.at HV.out rfl)).mono ?_
          rintro e w2 ⟨rfl, n2, rfl⟩
          go_wp2
          go_roundw
          case rel => exact ⟨k + 1, c, by omega, by omega, by go_num, rfl, Lib.hid (by rw [CS.out, HF.out, ← HC.out]; simp), (by repeat (first | exact Drew.refl _ | exact ⟨_, rfl⟩ | apply Drew.step | apply Drew.one))⟩
          case measure => simp [intOf]; omega
        · have e1 : (cmpB x a[k].2 != 0) = true := by rw [bne_iff_ne]; exact hc
          have HF := Lib.hid (show dif1 b a[k] = true by
            rw [dif1, GX.out, bne_iff_ne]
            intro h
            exact hc (by rw [Option.some.inj h, cmpB_self]))
          clear hc
          go_wp2_with fail
          refine (r2Compare_calls (by exact SV.at HX.out rfl) (by exact SV.at HV.out rfl)).mono ?_
          rintro e w2 ⟨rfl, n2, rfl⟩
          go_wp2
          go_roundw
          case rel => exact ⟨k + 1, c + 1, by omega, by omega, by go_num, by go_num, Lib.hid (by rw [CS.out, HF.out, ← HC.out]; simp), (by repeat (first | exact Drew.refl _ | exact ⟨_, rfl⟩ | apply Drew.step | apply Drew.one))⟩
          case measure => simp [intOf]; omega
      · obtain ⟨hx, rfl⟩ := h1
        have HF := Lib.hid (show dif1 b a[k] = true by rw [dif1, hx]; rfl)
        clear hx
        go_wp2
        go_roundw
        case rel => exact ⟨k + 1, c + 1, by omega, by omega, by go_num, by go_num, Lib.hid (by rw [CS.out, HF.out, ← HC.out]; simp), (by repeat (first | exact Drew.refl _ | exact ⟨_, rfl⟩ | apply Drew.step | apply Drew.one))⟩
        case measure => simp [intOf]; omega
    · obtain rfl : k = a.length := by omega
      have HD := Lib.hid (show c = a.countP (dif1 b) by rw [HC.out, List.take_length])
      clear HC
      go_wp2
      go_loopw [5, 9] (fun n i w' => ∃ k d : Nat, k ≤ b.length ∧ d ≤ a.length + k ∧ i = .int .i64 k ∧ n = .int .i64 d ∧ Hid (d = c + (b.take k).countP (dif2 a)) ∧ Drew w w') (fun _ i _ => b.length - (intOf i).toNat)
      case atStart => exact ⟨0, c, by omega, by omega, rfl, rfl, Lib.hid (by simp), (by repeat (first | exact Drew.refl _ | exact ⟨_, rfl⟩ | apply Drew.step | apply Drew.one))⟩
      case round =>
        obtain ⟨k, d, hk, hdk, rfl, rfl, HE, ⟨n, rfl⟩⟩ := hrel
        by_cases hl : k < b.length
        · obtain ⟨b1, o1, u, v, rfl, _, g0, g1, hkv, hvv⟩ := Rd.pair R2.out hl
          have HK := Lib.hid hkv
          have CS := Lib.hid (countP_succ (f := dif2 a) hl)
          clear hkv hvv
          go_wp2_with fail
          refine (r2Has_calls (by exact SV.at H1.out rfl) (by exact SV.at HK.out rfl)).mono ?_
          rintro e w1 ⟨rfl, n1, rfl⟩
          cases hh : hasK a b[k].1
          · have HF := Lib.hid (show dif2 a b[k] = true by rw [dif2, hh]; rfl)
            clear hh
            go_wp2
            go_roundw
            case rel => exact ⟨k + 1, d + 1, by omega, by omega, by go_num, by go_num, Lib.hid (by rw [CS.out, HF.out, HE.out]; simp [Nat.add_assoc]), (by repeat (first | exact Drew.refl _ | exact ⟨_, rfl⟩ | apply Drew.step | apply Drew.one))⟩
            case measure => simp [intOf]; omega
          · have HF := Lib.hid (show dif2 a b[k] = false by rw [dif2, hh]; rfl)
            clear hh
            go_wp2
            go_roundw
            case rel => exact ⟨k + 1, d, by omega, by omega, by go_num, rfl, Lib.hid (by rw [CS.out, HF.out, HE.out]; simp), (by repeat (first | exact Drew.refl _ | exact ⟨_, rfl⟩ | apply Drew.step | apply Drew.one))⟩
            case measure => simp [intOf]; omega
        · obtain rfl : k = b.length := by omega
          go_wp2
          go_ret
          exact ⟨ret_int (by rw [HE.out, HD.out, List.take_length]; rfl), (by repeat (first | exact Drew.refl _ | exact ⟨_, rfl⟩ | apply Drew.step | apply Drew.one))⟩
end Go.Proofs.Ytaopjdjbpamhhaa
