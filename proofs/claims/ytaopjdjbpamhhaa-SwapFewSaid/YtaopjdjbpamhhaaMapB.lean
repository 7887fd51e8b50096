/- Proved: contract of the map's function Nodes. Conditions: a map in memory. -/
import Derived.Test.YtaopjdjbpamhhaaMapA
namespace Go.Proofs.Ytaopjdjbpamhhaa
open Go Go.RowKit
set_option linter.unusedVariables false
set_option linter.unusedSimpArgs false

set_option maxRecDepth 100000 in
set_option maxHeartbeats 2000000 in
theorem orNodes_calls {seed : Int} {w : World} {m : Nat} {t : Tr} {F : Nat → Prop} (h : MapAt seed w m t F) (hs : t.size ≤ 1000000) :
    Calls Try.prog 116 #[.pointer (some ⟨m, 0, none⟩)] w fun e w' => ∃ v', e = .returned v' ∧ Own 172 nodeEl (fun b => w.heap.size ≤ b) w.heap.size w' v' (t.nodes seed 0) ∧ Kept Noneof w w' := by
  have H := Lib.hid h
  obtain ⟨p, S, D, hm, hlt⟩ := h.open
  have HL := Lib.hid hlt
  have c2 := hm.c2
  have HM := Lib.hid hm
  have SZ := Lib.hid hs
  clear h hm hlt hs
  go_enter Try.func116, Try.ntmps116
  go_wp2_with fail
  refine (orreal_calls H.out).mono ?_
  rintro e w' ⟨rfl, rfl⟩
  have c2A : ∀ o, (w'.alloc o).cell? ⟨m, 2, none⟩ = some (ptr p) := fun o => ((Kept.refl Noneof w').alloc o).cell (p := ⟨m, 2, none⟩) (fun h => h) c2
  go_wp2_with fail
  have G1 := heap_alloc_new w' (.cells #[.int .i64 (-1)] 3)
  have K1 := (Kept.refl Noneof w').alloc (.cells #[.int .i64 (-1)] 3)
  have hsz : (w'.alloc (.cells #[.int .i64 (-1)] 3)).heap.size = w'.heap.size + 1 := by simp
  generalize w'.alloc (.cells #[.int .i64 (-1)] 3) = w1 at *
  have T1 := HM.out.kept0 K1
  refine (orgather_nodes (seed := seed) (D := fun b => D b ∧ b < w'.heap.size) (B := w'.heap.size + 1) (q := w'.heap.size) (fun b h => by omega) (by omega) t p S w1 _ [] (-1) 0 T1.ht (fun b hb => by have := HM.out.ht.lt b hb; omega) (by omega) G1 rfl (by omega) (by have := SZ.out; omega) (Own.nil _ _ _ _ _) (by have := SZ.out; simp only [List.length_nil]; omega)).mono ?_
  rintro e w2 ⟨v2, rfl, o2, _, k2⟩
  have K2 := Lib.hid (K1.trans (T := fun b => b = w'.heap.size ∨ w'.heap.size + 1 ≤ b) k2 fun b hb => .inr (by omega))
  have O2 := Lib.hid o2
  obtain ⟨a2, n2, c2', rfl⟩ := o2.slice'
  clear o2 k2
  go_wp2
  go_ret
  exact ⟨_, rfl, (O2.out.wide fun b hb => by omega).base (by omega), K2.out⟩
end Go.Proofs.Ytaopjdjbpamhhaa
