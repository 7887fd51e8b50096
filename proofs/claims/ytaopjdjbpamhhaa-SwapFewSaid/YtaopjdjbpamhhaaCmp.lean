/- Proved: the contract of bytes.Compare: below 0, 0 or above 0 as the bytes stand to each other. Conditions: what is read lies in memory. -/
import Derived.Test.YtaopjdjbpamhhaaOrd1
import Derived.Lib.BytesEntry
import Derived.Laws.Externs
namespace Go.Proofs.Ytaopjdjbpamhhaa
open Go Go.RowKit
set_option linter.unusedVariables false
set_option linter.unusedSimpArgs false

/-- -1, 0 or 1 as the first bytes stand ahead of the others, are the same, or stand behind them. -/
def cmpS (a b : Bts) : Int := if cmpB a b < 0 then -1 else if 0 < cmpB a b then 1 else 0
theorem cmpB_gt (x : UInt8) (t : Bts) : 0 < cmpB (x :: t) [] := by
  rw [cmpB]
  omega
def cmpF (a b : Bts) : Int :=
  match (List.range (min a.length b.length)).find? fun i => a[i]! != b[i]! with
  | some i => if a[i]! < b[i]! then -1 else 1
  | none => if a.length < b.length then -1 else if b.length < a.length then 1 else 0
theorem cmpF_cons (x y : UInt8) (t u : Bts) : cmpF (x :: t) (y :: u) = if x = y then cmpF t u else if x < y then -1 else 1 := by
  unfold cmpF
  simp only [List.length_cons, Nat.add_min_add_right, List.range_succ_eq_map, List.find?_cons, List.find?_map]
  by_cases h : x = y
  · subst h
    simp only [List.getElem!_cons_zero, bne_self_eq_false, if_true]
    have e : ((fun i => (x :: t)[i]! != (x :: u)[i]!) ∘ Nat.succ) = fun i => t[i]! != u[i]! := by
      funext i
      simp
    rw [e]
    cases (List.range (min t.length u.length)).find? fun i => t[i]! != u[i]! <;> simp
  · have hb : (x != y) = true := by simpa using h
    simp [hb, h]
theorem cmpF_eq : ∀ a b : Bts, cmpF a b = cmpS a b
  | [], [] => by simp [cmpF, cmpS, cmpB]
  | [], y :: u => by
    have h : cmpB [] (y :: u) < 0 := by rw [cmpB, List.length_cons]; omega
    rw [cmpS, if_pos h]
    simp [cmpF]
  | x :: t, [] => by
    have := cmpB_gt x t
    simp [cmpF, cmpS]
    omega
  | x :: t, y :: u => by
    rw [cmpF_cons, cmpF_eq t u, cmpS, cmpS, cmpB]
    by_cases h : x = y
    · rw [if_pos h, if_pos h]
    · rw [if_neg h, if_neg h]
      have hx := x.toNat_lt
      have hy := y.toNat_lt
      have hne : x.toNat ≠ y.toNat := fun e => h (UInt8.toNat_inj.1 e)
      by_cases h2 : x < y
      · have : x.toNat < y.toNat := UInt8.lt_iff_toNat_lt.1 h2
        rw [if_pos h2, if_pos (by omega)]
      · have : ¬ x.toNat < y.toNat := fun e => h2 (UInt8.lt_iff_toNat_lt.2 e)
        rw [if_neg h2, if_neg (by omega), if_pos (by omega)]
theorem ba_get (l : Bts) (i : Nat) : (⟨l.toArray⟩ : ByteArray)[i]! = l[i]! := by
  have hs : (⟨l.toArray⟩ : ByteArray).size = l.length := rfl
  by_cases h : i < l.length
  · rw [getElem!_pos (⟨l.toArray⟩ : ByteArray) i h, getElem!_pos l i h]
    rfl
  · rw [getElem!_neg (⟨l.toArray⟩ : ByteArray) i h, getElem!_neg l i h]
theorem cmp_bytes (a b : Bts) : Extern.BytealgCompare.cmp ⟨a.toArray⟩ ⟨b.toArray⟩ = cmpS a b := by
  rw [← cmpF_eq]
  unfold Extern.BytealgCompare.cmp cmpF
  simp only [ba_get]
  rfl
theorem run_bytesOf {P : Program} {D : Nat → Prop} {w : World} {v : Value} {l : Bts} (h : BV D w v l) : (Extern.Bytes.bytesOf v).run P w = .ok ⟨l.toArray⟩ w := by
  obtain ⟨a, c, rfl, ⟨_, _⟩, _, hr⟩ := h
  cases a with
  | none =>
    have : l = [] := by
      cases l with
      | nil => rfl
      | cons x t => obtain ⟨b, o, cs, h1, _⟩ := hr 0 (by simp); cases h1
    subst this
    rfl
  | some p =>
    have h0 := Lib.run_loadBytesX (P := P) w (l.map fun x => ((x.toNat : Nat) : Int)) p .empty fun j x hx => by
      rw [List.getElem?_map] at hx
      obtain ⟨y, hy, rfl⟩ := Option.map_eq_some_iff.1 hx
      obtain ⟨hj, rfl⟩ := List.getElem?_eq_some_iff.1 hy
      obtain ⟨b, o, he, _, hc⟩ := hr.byte hj
      obtain rfl := Option.some.inj he
      rw [Addr.add_lit]
      exact hc
    have hb : Lib.bytesOf (l.map fun x => ((x.toNat : Nat) : Int)) = l := by
      rw [Lib.bytesOf, List.map_map]
      exact (List.map_congr_left fun x _ => by simp).trans (List.map_id l)
    rw [hb, List.length_map] at h0
    show (Extern.Bytes.loadBytes p l.length .empty).run P w = _
    rw [h0]
    simp
theorem run_bcmp {P : Program} {D1 D2 : Nat → Prop} {w : World} {v1 v2 : Value} {a b : Bts} (h1 : BV D1 w v1 a) (h2 : BV D2 w v2 b) : (Extern.BytealgCompare.compare #[v1, v2]).run P w = .ok (.int .i64 (cmpS a b)) w := by
  show Sem.run P (do pure (goInt (Extern.BytealgCompare.cmp (← Extern.Bytes.bytesOf v1) (← Extern.Bytes.bytesOf v2)))) w = _
  simp only [Sem.run_bind, Sem.run_pure, run_bytesOf h1, run_bytesOf h2, Result.andThen, cmp_bytes, goInt]
theorem byCompare_calls {D1 D2 : Nat → Prop} {v1 v2 : Value} {a b : Bts} {w : World} (h1 : BV D1 w v1 a) (h2 : BV D2 w v2 b) :
    Calls Try.prog 154 #[v1, v2] w fun e w' => e = .returned (.int .i64 (cmpS a b)) ∧ w' = w := by
  have hrun : (callFunc 184 #[v1, v2]).run Try.prog w = .ok (.value (.int .i64 (cmpS a b))) w := by
    rw [run_callFunc_extern Try.func184 (by kernel_rfl) (by kernel_rfl) (by kernel_rfl) (by kernel_rfl), run_bcmp h1 h2]
    rfl
  clear h1 h2
  go_enter Try.func154, Try.ntmps154
  go_wp2
  go_ret
  exact ⟨rfl, rfl⟩
theorem byCompare_drew {D1 D2 : Nat → Prop} {v1 v2 : Value} {a b : Bts} {w : World} (h1 : BV D1 w v1 a) (h2 : BV D2 w v2 b) :
    Calls Try.prog 154 #[v1, v2] w fun e w' => e = .returned (.int .i64 (cmpS a b)) ∧ Drew w w' :=
  (byCompare_calls h1 h2).mono fun _ _ ⟨he, hw⟩ => ⟨he, by rw [hw]; exact Drew.refl _⟩
end Go.Proofs.Ytaopjdjbpamhhaa
