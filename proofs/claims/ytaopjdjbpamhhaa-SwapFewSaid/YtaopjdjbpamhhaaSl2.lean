/- Proved: contract of the reference 02's Get. Conditions: pairs in memory. -/
import Derived.Test.YtaopjdjbpamhhaaSl1
namespace Go.Proofs.Ytaopjdjbpamhhaa
open Go Go.RowKit
set_option linter.unusedVariables false
set_option linter.unusedSimpArgs false

set_option maxRecDepth 100000 in
set_option maxHeartbeats 1000000 in
theorem r2Get_calls {D1 D2 : Nat → Prop} {v1 v2 : Value} {l : List (Bts × Bts)} {key : Bts} {w : World} (h1 : SV pairEl D1 w v1 l) (h2 : BV D2 w v2 key) :
    Calls Try.prog 143 #[v1, v2] w fun e w' => ((∃ v x, getK l key = some x ∧ e = .returned (.tuple #[v, .int .i64 0]) ∧ BV D1 w v x) ∨ (getK l key = none ∧ e = .returned (.tuple #[.slice none 0 0, .int .i64 3]))) ∧ Drew w w' := by
  have H1 := Lib.hid h1
  have H2 := Lib.hid h2
  obtain ⟨a, c, rfl, _, m, rd⟩ := h1
  have RD := Lib.hid rd
  obtain ⟨a2, c2, rfl, _⟩ := h2
  clear rd
  go_enter Try.func143, Try.ntmps143
  go_wp2_with fail
  refine (r2Has_calls H1.out H2.out).mono ?_
  rintro e w1 ⟨rfl, n1, rfl⟩
  cases hh : hasK l key
  · go_wp2
    go_ret2
    exact ⟨.inr ⟨by rw [hasK_getK] at hh; simpa using hh, rfl⟩, ⟨n1, rfl⟩⟩
  · have hlt := hasK_lt hh
    obtain ⟨b1, o1, uk, uv, rfl, hDb, g0, g1, hkv, hvv⟩ := Rd.pair RD.out hlt
    have HVV := Lib.hid hvv
    obtain ⟨a8, c8, rfl, _⟩ := id hvv
    clear hkv hvv
    go_wp2_with fail
    refine (r2Rank_calls (w := w.drewN n1) (H1.out.at rfl) (H2.out.at rfl)).mono ?_
    rintro e w2 ⟨rfl, n2, rfl⟩
    go_wp2
    go_ret2
    obtain ⟨x, hx⟩ := Option.isSome_iff_exists.1 (by rw [← hasK_getK]; exact hh : (getK l key).isSome = true)
    obtain ⟨y, hy⟩ := rank_getK hx
    have hxx : l[rank l key].2 = x := by
      rw [List.getElem?_eq_getElem hlt] at hy
      rw [Option.some.inj hy]
    refine ⟨.inl ⟨_, x, hx, rfl, ?_⟩, ⟨n1 + n2, rfl⟩⟩
    · rw [← hxx]; exact HVV.out.at rfl
end Go.Proofs.Ytaopjdjbpamhhaa
