/- Proved: a law for a range over a function whose rounds are handed values that lead into memory. Condition: the iterator's contract tells what the memory holds at each round. -/
import Derived.Test.YtaopjdjbpamhhaaBase
import Derived.RangeFuncNested
import Derived.RangeFuncBound
import Derived.RangeFuncCalls
import Derived.RangeFuncLeaves
import Derived.Shelf.Abstract
import Derived.Shelf.RegionOpen
import Derived.OwnWalkIn
import Derived.TacticsInMore
import Derived.LoopNIn
import Derived.LoopIn
namespace Go.Proofs.Ytaopjdjbpamhhaa
open Go Go.RowKit
set_option linter.unusedVariables false
set_option linter.unusedSimpArgs false

theorem Kept.putObj {S : Nat → Prop} {a w : World} {l : Nat} (h : Kept S a w) (hp : S l ∨ a.heap.size ≤ l) (o : Obj) : Kept S a (w.putObj l o) :=
  h.grown (grownBy_putObj' w l o) fun k hk => by cases hk; exact hp

/-- What a round keeps: all blocks from the loop's own ones on that were there ahead of the first round. -/
abbrev KpN (B N : Nat) (W W' : World) : Prop := Kept (fun b => b < B ∨ N ≤ b) W W'

section
variable {α : Type} {P : Program} {g : Operand} {ps : Array Tmp} {assign body : Code} {Q : Exit → Act → World → Prop} {a : Act} {w : World} {gf : Nat} {lb : Array Value} {encs : α → Array Value} {n : Nat}
/-- How a body may be left: on, or by a jump out of the loop. -/
def roundEnd (B : Nat) (I Ix : Nat → List α → World → Prop) (N : Nat) (xs : List α) (W : World) : Exit → Act → World → Prop
  | .normal, _, W' => KpN B N W W' ∧ I N xs W'
  | .exit id, _, W' => id = 0 ∧ KpN B N W W' ∧ Ix N xs W'
  | _, _, _ => False
/-- What an iterator is asked: it hands on the elements, one by one, each as Rx says, until a round ends the loop. -/
def IterRel (n : Nat) (P : Program) (gf : Nat) (lb : Array Value) (encs : α → Array Value) (B : Nat) (Rx : Nat → α → World → Prop) (S Sp : List α → Prop) (M : Nat) (W : World) : Prop :=
  ∀ (J Jx : Nat → List α → World → Prop),
    (∀ N pre x W1, B + 2 ≤ N → pre.length < M → J N pre W1 → Rx N x W1 → YieldAt Fence.wide (n - 1) P (B + 1) (encs x) W1 fun e W' => (e = .returned (.bool true) ∧ J N (pre ++ [x]) W' ∧ KpN (B + 2) N W1 W') ∨ (e = .returned (.bool false) ∧ Jx N (pre ++ [x]) W')) →
    (∀ N pre W1 W', J N pre W1 → Kept Noneof W1 W' → J N pre W') → (∀ N pre W1 W', Jx N pre W1 → Kept Noneof W1 W' → Jx N pre W') → (∀ W', Kept Noneof W W' → J W'.heap.size [] W') →
    CallsIn Fence.wide n P gf (#[.func (.yield (B + 1)) #[] #[]] ++ lb) W fun e W' => (∃ v, e = .returned v) ∧ ((∃ N xs, B + 2 ≤ N ∧ S xs ∧ J N xs W') ∨ (∃ N pre, B + 2 ≤ N ∧ Sp pre ∧ Jx N pre W'))

theorem range_rel (h1 : 1 ≤ n) (hg : a.eval g = .func (.func gf) #[] lb) (eg : ∀ args w, (callFunc gf args).run P w = .ok (.enter gf args) w) (hps : ∀ x, (encs x).size = ps.size)
    {Rx : Nat → α → World → Prop} {S Sp : List α → Prop} {M : Nat} (hit : ∀ W, Kept Noneof w W → W.heap.size = w.heap.size + 2 → IterRel (n - 1) P gf lb encs w.heap.size Rx S Sp M W)
    (I Ix : Nat → List α → World → Prop) (hI : ∀ N pre W W', w.heap.size + 2 ≤ N → I N pre W → Kept (fun b => b = w.heap.size ∨ b = w.heap.size + 1) W W' → I N pre W') (hIx : ∀ N pre W W', w.heap.size + 2 ≤ N → Ix N pre W → Kept (fun b => b = w.heap.size ∨ b = w.heap.size + 1) W W' → Ix N pre W')
    (hRx : ∀ N x W W', w.heap.size + 2 ≤ N → Rx N x W → Kept (fun b => b = w.heap.size ∨ b = w.heap.size + 1) W W' → Rx N x W')
    (h0 : ∀ W, Kept Noneof w W → w.heap.size + 2 ≤ W.heap.size → I W.heap.size [] W) (a₁ : α → Act)
    (hassign : ∀ (x : α) (W : World) (K : Act → World → Prop), K (a₁ x) W →
      assign.wpIn (Fence.wide.inRound (w.heap.size + 1)) (n - 1 - 1) P (Exit.then K (fun _ _ _ => False)) { tmps := (ps.zip (encs x)).foldl (fun t (p, v) => t.setIfInBounds p v) a.tmps, defers := [] } W)
    (hbody : ∀ (N : Nat) (pre : List α) (x : α) (W : World), w.heap.size + 2 ≤ N → pre.length < M → I N pre W → Rx N x W → body.wpIn (Fence.wide.inRound (w.heap.size + 1)) (n - 1 - 1) P (roundEnd w.heap.size I Ix N (pre ++ [x]) W) (a₁ x) W)
    (hdone : ∀ (N : Nat) (xs : List α) (W : World), w.heap.size + 2 ≤ N → S xs → I N xs W → W.heap[w.heap.size]? = some (.deferred (some [])) → Q .normal { a with defers := { target := .collected w.heap.size, args := #[] } :: a.defers } W)
    (hstop : ∀ (N : Nat) (pre : List α) (W : World), w.heap.size + 2 ≤ N → Sp pre → Ix N pre W → W.heap[w.heap.size]? = some (.deferred (some [])) → (Code.exit 0).wpIn Fence.wide n P Q { a with defers := { target := .collected w.heap.size, args := #[] } :: a.defers } W) :
    (Code.rangeFunc g ps assign body).wpIn Fence.wide n P Q a w := by
  refine wpIn_rangeFunc fun fn hfn => ?_
  obtain ⟨r, hr⟩ : ∃ r : LoopState → Option Code → Loop, r = fun st pe => { state := st, pending := pe, fn, tmps := a.tmps, params := ps, assign, body, defers := w.heap.size } := ⟨_, rfl⟩
  have hsz : ((w.alloc (.deferred (some []))).alloc (.loop (r .ready none))).heap.size = w.heap.size + 2 := by simp
  have hk0 : Kept Noneof w ((w.alloc (.deferred (some []))).alloc (.loop (r .ready none))) := ((Kept.refl Noneof w).alloc _).alloc _
  have hl0 : ((w.alloc (.deferred (some []))).alloc (.loop (r .ready none))).heap[w.heap.size + 1]? = some (.loop (r .ready none)) := by
    have := World.alloc_heap_new (w.alloc (.deferred (some []))) (.loop (r .ready none)); rwa [World.size_alloc] at this
  have hd0 : ((w.alloc (.deferred (some []))).alloc (.loop (r .ready none))).heap[w.heap.size]? = some (.deferred (some [])) :=
    ((Kept.refl Noneof _).alloc _).obj (fun h => h) (World.alloc_heap_new w _)
  have hent : (Instr.enterLoop fn a.tmps ps assign body Fence.wide.round).run P w = .ok (w.heap.size + 1, [{ target := .collected w.heap.size, args := #[] }]) ((w.alloc (.deferred (some []))).alloc (.loop (r .ready none))) := by
    rw [hr]; exact run_enterLoop_outer _ _ _ _ _
  generalize (w.alloc (.deferred (some []))).alloc (.loop (r .ready none)) = W0 at *
  refine ⟨w.heap.size + 1, _, W0, { target := .fn (.func gf) lb, args := #[.func (.yield (w.heap.size + 1)) #[] #[]] }, W0, gf, #[.func (.yield (w.heap.size + 1)) #[] #[]] ++ lb, W0, hent, ?_, fun _ _ => trivial, ?_, fun _ => h1, ?_⟩
  · simp only [resolve, hg]
    simp [go_sem]
  · simp [invoke, go_sem, eg]
  have two : ∀ {X : Nat → Prop} {A A' : World}, Kept X A A' → (∀ b, X b → b = w.heap.size ∨ b = w.heap.size + 1) → Kept (fun b => b = w.heap.size ∨ b = w.heap.size + 1) A A' := fun h k => h.mono k
  refine CallsIn.mono (hit W0 hk0 hsz (fun N pre W => w.heap.size + 2 ≤ N ∧ I N pre W ∧ W.heap[w.heap.size + 1]? = some (.loop (r .ready none)) ∧ W.heap[w.heap.size]? = some (.deferred (some [])))
    (fun N pre W => w.heap.size + 2 ≤ N ∧ Ix N pre W ∧ W.heap[w.heap.size + 1]? = some (.loop (r .done (some (.exit 0)))) ∧ W.heap[w.heap.size]? = some (.deferred (some [])))
    ?_ (fun N pre W1 W' h k => ⟨h.1, hI N pre W1 W' h.1 h.2.1 (two k fun _ h => h.elim), k.obj (fun h => h) h.2.2.1, k.obj (fun h => h) h.2.2.2⟩) (fun N pre W1 W' h k => ⟨h.1, hIx N pre W1 W' h.1 h.2.1 (two k fun _ h => h.elim), k.obj (fun h => h) h.2.2.1, k.obj (fun h => h) h.2.2.2⟩)
    (fun W' k => ⟨by have := k.size; omega, h0 W' (hk0.trans k fun _ h => h.elim) (by have := k.size; omega), k.obj (fun h => h) hl0, k.obj (fun h => h) hd0⟩)) ?_
  · rintro N pre x W hN hM ⟨_, hi, hl, hd⟩ hx
    have hlt := block_lt hl
    have hy := run_yield (P := P) (args := encs x) hl (by rw [hr]; exact hps x)
    rw [hr] at hy
    refine ⟨fn, _, assign, body, hy, roundIn_of_wpIn hfn (hassign x W _ ⟨_, run_beginRound hl (by rw [hr]), ?_⟩)⟩
    have kb : Kept (fun b => b = w.heap.size ∨ b = w.heap.size + 1) W (W.putObj (w.heap.size + 1) (.loop { r .ready none with state := .busy })) := (Kept.refl _ W).putObj (.inl (.inr rfl)) _
    have hl2 : (W.putObj (w.heap.size + 1) (.loop { r .ready none with state := .busy })).heap[w.heap.size + 1]? = some (.loop { r .ready none with state := .busy }) := World.putObj_heap_same hlt
    have hd2 : (W.putObj (w.heap.size + 1) (.loop { r .ready none with state := .busy })).heap[w.heap.size]? = some (.deferred (some [])) := (World.putObj_heap_other (by omega)).trans hd
    have hi2 := hI N pre _ _ hN hi kb
    have hx2 := hRx N x _ _ hN hx kb
    generalize W.putObj (w.heap.size + 1) (.loop { r .ready none with state := .busy }) = W2 at *
    refine wpIn_mono (hbody N pre x W2 hN hM hi2 hx2) ?_
    have fin : ∀ (jump : Option Code) (W3 : World), KpN w.heap.size N W2 W3 → ∃ W4, (Instr.endRound (w.heap.size + 1) jump).run P W3 = .ok (.bool jump.isNone) W4 ∧ W4.heap[w.heap.size + 1]? = some (.loop (r (if jump.isNone then .ready else .done) jump)) ∧ W4.heap[w.heap.size]? = some (.deferred (some [])) ∧ Kept (fun b => b = w.heap.size ∨ b = w.heap.size + 1) W3 W4 := fun jump W3 hk3 => by
      have hl3 := hk3.obj (p := w.heap.size + 1) (by omega) hl2
      have hd3 := hk3.obj (p := w.heap.size) (by omega) hd2
      have := run_endRound (P := P) jump hl3
      rw [hr] at this
      exact ⟨_, this, by rw [hr]; exact World.putObj_heap_same (block_lt hl3), (World.putObj_heap_other (by omega)).trans hd3, (Kept.refl _ W3).putObj (.inl (.inr rfl)) _⟩
    rintro e a3 W3 hp
    cases e with
    | normal =>
      obtain ⟨hk3, hi3⟩ := hp
      obtain ⟨W4, e4, l4, d4, k4⟩ := fin none W3 hk3
      exact ⟨_, _, e4, .inl ⟨rfl, ⟨hN, hI N _ _ _ hN hi3 k4, l4, d4⟩, ((kb.mono fun b h => .inl (by omega)).trans hk3 fun b h => .inl (by omega)).trans k4 fun b h => .inl (.inl (by omega))⟩⟩
    | exit id =>
      obtain ⟨rfl, hk3, hi3⟩ := hp
      obtain ⟨W4, e4, l4, d4, k4⟩ := fin (some (.exit 0)) W3 hk3
      exact ⟨_, _, e4, .inr ⟨rfl, hN, hIx N _ _ _ hN hi3 k4, l4, d4⟩⟩
    | ret => exact hp.elim
    | goto t => exact hp.elim
    | panic ch => exact hp.elim
    | outgrown => exact hp.elim
  · rintro e W2 ⟨⟨v, rfl⟩, (⟨N, xs, hN, hS, _, hi, hl, hd⟩ | ⟨N, pre, hN, hSp, _, hi, hl, hd⟩)⟩
    · have := run_endLoop (P := P) hl (by rw [hr]; simp)
      rw [hr] at this
      exact ⟨none, _, this, hdone N xs _ hN hS (hI N xs _ _ hN hi ((Kept.refl _ W2).putObj (.inl (.inr rfl)) _)) ((World.putObj_heap_other (by omega)).trans hd)⟩
    · have := run_endLoop (P := P) hl (by rw [hr]; simp)
      rw [hr] at this
      exact ⟨some (.exit 0), _, this, hstop N pre _ hN hSp (hIx N pre _ _ hN hi ((Kept.refl _ W2).putObj (.inl (.inr rfl)) _)) ((World.putObj_heap_other (by omega)).trans hd)⟩
end
end Go.Proofs.Ytaopjdjbpamhhaa
