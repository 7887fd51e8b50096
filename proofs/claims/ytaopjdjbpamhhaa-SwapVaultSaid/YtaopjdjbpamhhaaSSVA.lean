/- Proved: texts of the families over slots, order and swap, joined, as far as the claim needs them. Conditions: as each theorem says. -/
import Derived.WalkKit
import Derived.WalkSpells
import Derived.WalkLawsBesides
import Derived.BigQuiet
import Derived.Deep.QuietTactic
import Derived.Deep.LoopGhost
import Derived.Below
import Derived.Lib.Hide
import Derived.IntWalk
import Derived.Laws.AppendOwn
import Derived.Laws.OwnMore
import Derived.Laws.AppendOwnNone
import Derived.OwnWalk
import Derived.Laws.CopyOwn
import Derived.Laws.IdiomRangeMap
import Derived.StillTail
import Derived.Deep.Upon
import Derived.Deep.Slices
import Derived.SizedLaws
import Derived.ChangeSame
import Derived.OpenShut
/- Proved: general facts on worlds that change only in some blocks, on slices that read as lists, and on bytes; no program is named. No condition. -/
namespace Go.Proofs.Ytaopjdjbpamhhaa
open Go Go.RowKit
set_option linter.unusedVariables false
set_option linter.unusedSimpArgs false
/-- The bytes of a slice. -/
abbrev Bts := List UInt8

theorem ret_int {k : IntKind} {a b : Int} (h : a = b) : Ending.returned (.int k a) = .returned (.int k b) := by rw [h]
theorem ret_bool {a b : Bool} (h : a = b) : Ending.returned (.bool a) = .returned (.bool b) := by rw [h]

/-! ### Draws alone -/
def Drew (w w' : World) : Prop := ∃ n, w' = w.drewN n
theorem Drew.refl (w : World) : Drew w w := ⟨0, rfl⟩
theorem Drew.step {w w' : World} {n : Nat} (h : Drew w w') : Drew w (w'.drewN n) := by
  obtain ⟨m, rfl⟩ := h
  exact ⟨m + n, by unfold World.drewN; simp [Nat.add_assoc]⟩
theorem Drew.one {w w' : World} (h : Drew w w') : Drew w w'.drew := Drew.step (n := 1) h
theorem Drew.trans {a b c : World} (h : Drew a b) (k : Drew b c) : Drew a c := by
  obtain ⟨m, rfl⟩ := k
  exact h.step
theorem Drew.heap {w w' : World} (h : Drew w w') : w'.heap = w.heap := by obtain ⟨n, rfl⟩ := h; rfl

theorem Drew.q {P : Program} {f : FuncId} {args : Array Value} {w : World} {n : Nat} {v : Value} (h : Calls P f args (w.drewN n) fun e w' => e = .returned v ∧ Drew (w.drewN n) w') :
    Calls P f args (w.drewN n) fun e w'' => e = .returned v ∧ ∃ m, w'' = w.drewN m := Calls.quiet_of h
/-! ### Worlds that changed in the blocks S alone -/
structure Kept (S : Nat → Prop) (w w' : World) : Prop where
  os : w'.os = w.os
  tape : w'.tape = w.tape
  output : w'.output = w.output
  size : w.heap.size ≤ w'.heap.size
  block : ∀ k, k < w.heap.size → ¬ S k → w'.heap[k]? = w.heap[k]?
/-- No block that was there. -/
def Noneof : Nat → Prop := fun _ => False
theorem Kept.refl (S : Nat → Prop) (w : World) : Kept S w w := ⟨rfl, rfl, rfl, Nat.le_refl _, fun _ _ _ => rfl⟩
theorem Kept.trans {S T : Nat → Prop} {a b c : World} (h : Kept S a b) (k : Kept T b c) (hT : ∀ n, T n → S n ∨ a.heap.size ≤ n) : Kept S a c :=
  ⟨k.os.trans h.os, k.tape.trans h.tape, k.output.trans h.output, Nat.le_trans h.size k.size, fun i hi hs =>
    (k.block i (Nat.lt_of_lt_of_le hi h.size) (fun ht => (hT i ht).elim hs (by omega))).trans (h.block i hi hs)⟩
theorem Kept.mono {S T : Nat → Prop} {a b : World} (h : Kept S a b) (hT : ∀ n, S n → T n) : Kept T a b :=
  ⟨h.os, h.tape, h.output, h.size, fun i hi hs => h.block i hi fun x => hs (hT i x)⟩
theorem Kept.drewN {S : Nat → Prop} {a w : World} (h : Kept S a w) (n : Nat) : Kept S a (w.drewN n) := ⟨h.os, h.tape, h.output, h.size, h.block⟩
theorem Kept.drew {S : Nat → Prop} {a w : World} (h : Kept S a w) : Kept S a w.drew := ⟨h.os, h.tape, h.output, h.size, h.block⟩
theorem Kept.drewn {S : Nat → Prop} {a w w' : World} (h : Kept S a w) (k : Drew w w') : Kept S a w' := by obtain ⟨n, rfl⟩ := k; exact h.drewN n
theorem Kept.alloc {S : Nat → Prop} {a w : World} (h : Kept S a w) (o : Obj) : Kept S a (w.alloc o) :=
  h.trans (T := Noneof) ⟨rfl, rfl, rfl, by simp, fun k hk _ => Below.heap_alloc _ _ _ hk⟩ (fun _ => False.elim)
theorem Kept.setCell {S : Nat → Prop} {a w : World} (h : Kept S a w) {p : Addr} (hp : S p.block ∨ a.heap.size ≤ p.block) (u : Value) : Kept S a (w.setCell p u) :=
  h.trans (T := fun k => k = p.block) ⟨rfl, rfl, rfl, by simp [World.setCell], fun k _ hn => Below.heap_setCell _ _ _ _ hn⟩ (fun _ e => e ▸ hp)
theorem Kept.grown {S : Nat → Prop} {a w w' : World} {row : Option Nat} (h : Kept S a w) (hg : w.grownBy w' row) (hr : ∀ k, row = some k → S k ∨ a.heap.size ≤ k) : Kept S a w' :=
  h.trans (T := fun k => row = some k) ⟨hg.os, hg.tape, hg.output, hg.size, fun k hk hn => hg.block k hk fun e => hn e.symm⟩ hr
theorem Kept.below {S : Nat → Prop} {w w' : World} {B : Nat} (h : Kept S w w') (hB : B ≤ w.heap.size) (hS : ∀ k, S k → B ≤ k) : Below B w w' :=
  ⟨h.os, h.tape, h.output, h.size, fun k hk => h.block k (by omega) fun hs => by have := hS k hs; omega⟩
theorem Kept.of_below {w w' : World} (h : Below w.heap.size w w') (S : Nat → Prop) : Kept S w w' := ⟨h.os, h.tape, h.output, h.size, fun k hk _ => h.block k hk⟩
theorem Kept.of_grown {w w' : World} {row : Option Nat} (hg : w.grownBy w' row) : Kept (fun k => row = some k) w w' := (Kept.refl _ w).grown hg fun _ h => .inl h
theorem Kept.cell {S : Nat → Prop} {w w' : World} (h : Kept S w w') {p : Addr} {v : Value} (hn : ¬ S p.block) (hc : w.cell? p = some v) : w'.cell? p = some v := by
  have hb : p.block < w.heap.size := by
    rcases Nat.lt_or_ge p.block w.heap.size with hb | hb
    · exact hb
    · simp [World.cell?, Array.getElem?_eq_none hb] at hc
  rw [World.cell?_of_block (h.block _ hb hn), hc]
theorem Kept.obj {S : Nat → Prop} {w w' : World} (h : Kept S w w') {p : Nat} {o : Obj} (hn : ¬ S p) (hc : w.heap[p]? = some o) : w'.heap[p]? = some o := by
  rw [h.block p (by obtain ⟨x, _⟩ := Array.getElem?_eq_some_iff.1 hc; exact x) hn, hc]
theorem block_lt {w : World} {p : Nat} {o : Obj} (hc : w.heap[p]? = some o) : p < w.heap.size := (Array.getElem?_eq_some_iff.1 hc).1
theorem cell_lt {w : World} {p : Addr} {v : Value} (hc : w.cell? p = some v) : p.block < w.heap.size := by
  rcases Nat.lt_or_ge p.block w.heap.size with hb | hb
  · exact hb
  · simp [World.cell?, Array.getElem?_eq_none hb] at hc

/-! ### Slices that read as lists -/
/-- How an element reads: its number of cells, and what they say; what they lead to lies in the blocks D. -/
structure El (α : Type) where
  k : Nat
  R : (Nat → Prop) → World → List Value → α → Prop
  mono : ∀ {D D' : Nat → Prop} {w w' : World} {cs : List Value} {x : α}, (∀ b, D b → b < w.heap.size → D' b ∧ w'.heap[b]? = w.heap[b]?) → R D w cs x → R D' w' cs x
  len : ∀ {D : Nat → Prop} {w : World} {cs : List Value} {x : α}, R D w cs x → cs.length = k
  one : ∀ {D : Nat → Prop} {w : World} {cs : List Value} {x : α}, R D w cs x → ∀ u ∈ cs, u.oneCell' = true
/-- From an address on lie the elements l. -/
def Rd {α : Type} (E : El α) (D : Nat → Prop) (w : World) (a : Option Addr) (l : List α) : Prop :=
  ∀ (i : Nat) (h : i < l.length), ∃ b o cs, a = some ⟨b, o, none⟩ ∧ D b ∧ (∀ (j : Nat) (hj : j < cs.length), w.cell? ⟨b, o + (i * E.k + j), none⟩ = some cs[j]) ∧ E.R D w cs l[i]
theorem Rd.nil {α : Type} (E : El α) (D : Nat → Prop) (w : World) (a : Option Addr) : Rd E D w a [] := fun _ h => absurd h (by simp)
section
variable {α : Type} {E : El α} {D D' S : Nat → Prop} {w w' : World} {a : Option Addr} {l : List α} {v : Value}
theorem Rd.mono (hk : 0 < E.k) (h : Rd E D w a l) (hw : ∀ b, D b → b < w.heap.size → D' b ∧ w'.heap[b]? = w.heap[b]?) : Rd E D' w' a l := by
  intro i hi
  obtain ⟨b, o, cs, rfl, hb, hc, hr⟩ := h i hi
  have hlt := cell_lt (hc 0 (by rw [E.len hr]; exact hk))
  refine ⟨b, o, cs, rfl, (hw b hb hlt).1, fun j hj => ?_, E.mono hw hr⟩
  rw [World.cell?_of_block (hw b hb hlt).2, hc j hj]
/-- A slice's value reads as the list. -/
def SV (E : El α) (D : Nat → Prop) (w : World) (v : Value) (l : List α) : Prop :=
  ∃ a c, v = .slice a l.length c ∧ (l.length ≤ c ∧ (a = none → c = 0)) ∧ l.length ≤ 140737488355328 ∧ Rd E D w a l
theorem SV.mono (hk : 0 < E.k) (h : SV E D w v l) (hw : ∀ b, D b → b < w.heap.size → D' b ∧ w'.heap[b]? = w.heap[b]?) : SV E D' w' v l := by
  obtain ⟨a, c, h1, h2, h3, h4⟩ := h
  exact ⟨a, c, h1, h2, h3, h4.mono hk hw⟩
end
def byteEl : El UInt8 where
  k := 1
  R := fun _ _ cs x => cs = [.int .u8 ((x.toNat : Nat) : Int)]
  mono := fun _ h => h
  len := fun h => by rw [h]; rfl
  one := fun h u hu => by rw [h] at hu; exact (by simpa using hu : u = _) ▸ rfl
abbrev BV := SV byteEl
theorem byteEl_k : 0 < byteEl.k := by decide
theorem BV.cell1 {D : Nat → Prop} {w : World} {v : Value} {l : Bts} (h : BV D w v l) : v.oneCell' = true := by obtain ⟨a, c, rfl, _⟩ := h; rfl
/-- A cell that holds a slice of bytes. -/
def bytesEl : El Bts where
  k := 1
  R := fun D w cs x => ∃ v, cs = [v] ∧ BV D w v x
  mono := fun hw ⟨v, h1, h2⟩ => ⟨v, h1, h2.mono byteEl_k hw⟩
  len := fun ⟨v, h1, _⟩ => by rw [h1]; rfl
  one := fun ⟨v, h1, h2⟩ u hu => by rw [h1] at hu; exact (by simpa using hu : u = v) ▸ h2.cell1
/-- A pair of two slices of bytes. -/
def pairEl : El (Bts × Bts) where
  k := 2
  R := fun D w cs x => ∃ u v, cs = [u, v] ∧ BV D w u x.1 ∧ BV D w v x.2
  mono := fun hw ⟨u, v, h1, h2, h3⟩ => ⟨u, v, h1, h2.mono byteEl_k hw, h3.mono byteEl_k hw⟩
  len := fun ⟨u, v, h1, _⟩ => by rw [h1]; rfl
  one := fun ⟨u, v, h1, h2, h3⟩ x hx => by
    rw [h1] at hx
    rcases List.mem_cons.1 hx with rfl | hx
    · exact h2.cell1
    · obtain rfl : x = v := by simpa using hx
      exact h3.cell1
theorem pairEl_k : 0 < pairEl.k := by decide
section
variable {α : Type} {E : El α} {D D' S : Nat → Prop} {w w' : World} {a : Option Addr} {l : List α} {v : Value}
theorem SV.kept (hk : 0 < E.k) (h : SV E D w v l) (kw : Kept S w w') (hD : ∀ b, D b → b < w.heap.size → ¬ S b) : SV E D w' v l :=
  h.mono hk fun b hb hlt => ⟨hb, kw.block b hlt (hD b hb hlt)⟩
theorem Rd.kept (hk : 0 < E.k) (h : Rd E D w a l) (kw : Kept S w w') (hD : ∀ b, D b → b < w.heap.size → ¬ S b) : Rd E D w' a l :=
  h.mono hk fun b hb hlt => ⟨hb, kw.block b hlt (hD b hb hlt)⟩
theorem SV.wide (hk : 0 < E.k) (h : SV E D w v l) (hD : ∀ b, D b → b < w.heap.size → D' b) : SV E D' w v l := h.mono hk fun b hb hlt => ⟨hD b hb hlt, rfl⟩
theorem Rd.wide (hk : 0 < E.k) (h : Rd E D w a l) (hD : ∀ b, D b → b < w.heap.size → D' b) : Rd E D' w a l := h.mono hk fun b hb hlt => ⟨hD b hb hlt, rfl⟩
theorem Rd.at (h : Rd E D w a l) (e : w'.heap = w.heap) : Rd E D w' a l := by
  intro i hi
  obtain ⟨b, o, cs, h1, h2, h3, h4⟩ := h i hi
  exact ⟨b, o, cs, h1, h2, fun j hj => by rw [World.cell?_of_block (w := w) (by rw [e])]; exact h3 j hj, E.mono (fun b hb _ => ⟨hb, by rw [e]⟩) h4⟩
theorem SV.at (h : SV E D w v l) (e : w'.heap = w.heap) : SV E D w' v l := by
  obtain ⟨a, c, h1, h2, h3, h4⟩ := h
  exact ⟨a, c, h1, h2, h3, h4.at e⟩
end
/-- One byte. -/
theorem Rd.byte {D : Nat → Prop} {w : World} {a : Option Addr} {l : Bts} (h : Rd byteEl D w a l) {i : Nat} (hi : i < l.length) : ∃ b o, a = some ⟨b, o, none⟩ ∧ D b ∧ w.cell? ⟨b, o + i, none⟩ = some (.int .u8 ((l[i].toNat : Nat) : Int)) := by
  obtain ⟨b, o, cs, h1, h2, h4, h5⟩ := h i hi
  have h5 : cs = [.int .u8 ((l[i].toNat : Nat) : Int)] := h5
  subst h5
  have := h4 0 (by simp)
  exact ⟨b, o, h1, h2, by simpa [byteEl] using this⟩
theorem u8_lt (x : UInt8) : ((x.toNat : Nat) : Int) < 256 := by have := x.toNat_lt; omega
theorem u8_eq {x y : UInt8} (h : x = y) : (((x.toNat : Nat) : Int) != ((y.toNat : Nat) : Int)) = false := by rw [h]; simp
theorem u8_ne {x y : UInt8} (h : ¬ x = y) : (((x.toNat : Nat) : Int) != ((y.toNat : Nat) : Int)) = true := by
  rw [bne_iff_ne]
  intro e
  exact h (UInt8.toNat_inj.1 (by exact_mod_cast e))
/-- One pair. -/
theorem Rd.pair {D : Nat → Prop} {w : World} {a : Option Addr} {l : List (Bts × Bts)} (h : Rd pairEl D w a l) {i : Nat} (hi : i < l.length) : ∃ b o u v, a = some ⟨b, o, none⟩ ∧ D b ∧ w.cell? ⟨b, o + i * 2, none⟩ = some u ∧ w.cell? ⟨b, o + i * 2 + 1, none⟩ = some v ∧ BV D w u l[i].1 ∧ BV D w v l[i].2 := by
  obtain ⟨b, o, cs, h1, h2, h4, u, v, h5, h6, h7⟩ := h i hi
  subst h5
  have e0 := h4 0 (by simp)
  have e1 := h4 1 (by simp)
  exact ⟨b, o, u, v, h1, h2, by simpa [pairEl] using e0, by simpa [pairEl, Nat.add_assoc] using e1, h6, h7⟩

/-! ### How bytes stand to each other -/
/-- Below 0, 0 or above 0 as the first bytes stand ahead of the others, are the same, or stand behind them. -/
def cmpB : Bts → Bts → Int
  | [], b => 0 - b.length
  | _ :: t, [] => t.length + 1
  | x :: t, y :: u => if x = y then cmpB t u else (x.toNat : Int) - y.toNat
theorem cmpB_step {a b : Bts} {k : Nat} (h1 : k < a.length) (h2 : k < b.length) : cmpB (a.drop k) (b.drop k) = if a[k] = b[k] then cmpB (a.drop (k + 1)) (b.drop (k + 1)) else (a[k].toNat : Int) - b[k].toNat := by
  rw [List.drop_eq_getElem_cons h1, List.drop_eq_getElem_cons h2, cmpB]
theorem cmpB_end {a b : Bts} {k : Nat} (h1 : k ≤ a.length) (h2 : k ≤ b.length) (h : ¬ (k < a.length ∧ k < b.length)) : cmpB (a.drop k) (b.drop k) = (a.length : Int) - b.length := by
  rcases Nat.lt_or_ge k a.length with h3 | h3
  · have h4 : b.drop k = [] := List.drop_eq_nil_of_le (by omega)
    rw [List.drop_eq_getElem_cons h3, h4, cmpB, List.length_drop]; omega
  · have h4 : a.drop k = [] := List.drop_eq_nil_of_le (by omega)
    rw [h4, cmpB, List.length_drop]; omega
end Go.Proofs.Ytaopjdjbpamhhaa
/- Proved: laws of append, make and of rows of the call's own, over slices that read as lists. No program is named. No condition. -/
namespace Go.Proofs.Ytaopjdjbpamhhaa
open Go Go.RowKit
set_option linter.unusedVariables false
set_option linter.unusedSimpArgs false
/-- A slice type t of elements e of so many cells and bytes. -/
structure SlT (P : Program) (t e : TypeId) (size bytes : Nat) (z : Value) : Prop where
  ht : P.underlying t = some (.slice e)
  hi : ∃ i, P.info? e = some i ∧ i.zero = some z ∧ i.size = size ∧ i.bytes = bytes ∧ z.cells.size = size
  pos : 0 < size
theorem SlT.of {P : Program} {t e : TypeId} {size bytes : Nat} {z : Value} (ht : P.underlying t = some (.slice e)) (hi : (P.info? e).map (fun i => (i.zero, i.size, i.bytes)) = some (some z, size, bytes)) (hz : z.cells.size = size) (hp : 0 < size) : SlT P t e size bytes z := by
  obtain ⟨i, h, hzz⟩ := Option.map_eq_some_iff.1 hi
  simp only [Prod.mk.injEq] at hzz
  exact ⟨ht, ⟨i, h, hzz.1, hzz.2.1, hzz.2.2, hz⟩, hp⟩

/-- Cells, one behind another, that read as elements. -/
def Cells {α : Type} (E : El α) (D : Nat → Prop) (w : World) : List Value → List α → Prop
  | xs, [] => xs = []
  | xs, x :: l => ∃ cs ys, xs = cs ++ ys ∧ E.R D w cs x ∧ Cells E D w ys l
section
variable {α : Type} {E : El α} {D D' : Nat → Prop} {w w' : World} {xs ys : List Value} {l m : List α}
theorem Cells.length : ∀ {l : List α} {xs : List Value}, Cells E D w xs l → xs.length = l.length * E.k
  | [], _, h => by rw [show _ = [] from h]; simp
  | x :: l, _, ⟨cs, ys, h1, h2, h3⟩ => by rw [h1, List.length_append, E.len h2, Cells.length h3, List.length_cons, Nat.add_mul]; omega
theorem Cells.one : ∀ {l : List α} {xs : List Value}, Cells E D w xs l → ∀ u ∈ xs, u.oneCell' = true
  | [], _, h => by rw [show _ = [] from h]; simp
  | x :: l, _, ⟨cs, ys, h1, h2, h3⟩ => by
    intro u hu
    rw [h1] at hu
    rcases List.mem_append.1 hu with hu | hu
    · exact E.one h2 u hu
    · exact Cells.one h3 u hu
theorem Cells.mono (hw : ∀ b, D b → b < w.heap.size → D' b ∧ w'.heap[b]? = w.heap[b]?) : ∀ {l : List α} {xs : List Value}, Cells E D w xs l → Cells E D' w' xs l
  | [], _, h => h
  | x :: l, _, ⟨cs, ys, h1, h2, h3⟩ => ⟨cs, ys, h1, E.mono hw h2, Cells.mono hw h3⟩
theorem Cells.append : ∀ {l : List α} {xs : List Value}, Cells E D w xs l → Cells E D w ys m → Cells E D w (xs ++ ys) (l ++ m)
  | [], _, h, k => by rw [show _ = [] from h]; exact k
  | x :: l, _, ⟨cs, zs, h1, h2, h3⟩, k => ⟨cs, zs ++ ys, by rw [h1, List.append_assoc], h2, Cells.append h3 k⟩
theorem Cells.single {x : α} {cs : List Value} (h : E.R D w cs x) : Cells E D w cs [x] := ⟨cs, [], by simp, h, rfl⟩
theorem Cells.at_ : ∀ {l : List α} {xs : List Value}, Cells E D w xs l → ∀ (i : Nat) (h : i < l.length), ∃ cs, E.R D w cs l[i] ∧ ∀ (j : Nat) (hj : j < cs.length), xs[i * E.k + j]? = some cs[j]
  | x :: l, _, ⟨cs, ys, h1, h2, h3⟩, 0, _ => ⟨cs, h2, fun j hj => by rw [h1, Nat.zero_mul, Nat.zero_add, List.getElem?_append_left hj, List.getElem?_eq_getElem hj]⟩
  | x :: l, _, ⟨cs, ys, h1, h2, h3⟩, i + 1, h => by
    obtain ⟨ds, h4, h5⟩ := Cells.at_ h3 i (by simpa using h)
    refine ⟨ds, h4, fun j hj => ?_⟩
    have hl := E.len h2
    rw [h1, List.getElem?_append_right (by rw [hl, Nat.add_mul]; omega), hl, ← h5 j hj]
    congr 1
    rw [Nat.add_mul]; omega
/-- What lies from an address on, as cells. -/
theorem Rd.cells {a : Option Addr} (h : Rd E D w a l) : ∃ xs, Cells E D w xs l ∧ ∀ j u, xs[j]? = some u → ∃ p, a = some p ∧ w.cell? (p.add j) = some u := by
  induction l generalizing a with
  | nil => exact ⟨[], rfl, fun j u hu => by simp at hu⟩
  | cons x l ih =>
    obtain ⟨b, o, cs, rfl, hb, hc, hr⟩ := h 0 (by simp)
    have hl := E.len hr
    obtain ⟨ys, h1, h2⟩ := ih (a := some ⟨b, o + E.k, none⟩) (fun i hi => by
      obtain ⟨b', o', cs', e1, e2, e3, e4⟩ := h (i + 1) (by simpa using hi)
      simp only [Option.some.injEq, Addr.mk.injEq, and_true] at e1
      obtain ⟨rfl, rfl⟩ := e1
      refine ⟨b, o + E.k, cs', rfl, e2, fun j hj => ?_, by simpa using e4⟩
      have := e3 j hj
      rw [Nat.add_mul] at this
      rw [show o + E.k + (i * E.k + j) = o + (i * E.k + 1 * E.k + j) by omega]
      exact this)
    refine ⟨cs ++ ys, ⟨cs, ys, rfl, hr, h1⟩, fun j u hu => ⟨_, rfl, ?_⟩⟩
    rcases Nat.lt_or_ge j cs.length with hj | hj
    · rw [List.getElem?_append_left hj, List.getElem?_eq_getElem hj] at hu
      have := hc j hj
      rw [Nat.zero_mul, Nat.zero_add] at this
      rw [Addr.add_lit, this, ← Option.some.inj hu]
    · rw [List.getElem?_append_right hj] at hu
      obtain ⟨p, hp, hc'⟩ := h2 _ _ hu
      obtain rfl := Option.some.inj hp
      rw [Addr.add_lit] at hc' ⊢
      rw [show o + j = o + E.k + (j - cs.length) by omega]
      exact hc'
end
theorem Cells.bytes {D D' : Nat → Prop} {w w' : World} : ∀ {l : Bts} {xs : List Value}, Cells byteEl D w xs l → Cells byteEl D' w' xs l
  | [], _, h => h
  | x :: l, _, ⟨cs, ys, h1, h2, h3⟩ => ⟨cs, ys, h1, h2, Cells.bytes h3⟩

theorem SV.take {α : Type} {E : El α} {D : Nat → Prop} {w : World} {a : Option Addr} {c n : Nat} {l : List α} (h : SV E D w (.slice a l.length c) l) (hn : n ≤ l.length) : SV E D w (.slice a n c) (l.take n) := by
  obtain ⟨a', c', h1, h2, h3, h4⟩ := h
  simp only [Value.slice.injEq, true_and] at h1
  obtain ⟨rfl, rfl⟩ := h1
  refine ⟨a, c, by rw [List.length_take, Nat.min_eq_left hn], ⟨by rw [List.length_take]; omega, h2.2⟩, by rw [List.length_take]; omega, fun i hi => ?_⟩
  rw [List.length_take] at hi
  obtain ⟨b, o, cs, r1, r2, r3, r4⟩ := h4 i (by omega)
  exact ⟨b, o, cs, r1, r2, r3, by rw [List.getElem_take]; exact r4⟩
theorem SV.drop {α : Type} {E : El α} {D : Nat → Prop} {w : World} {a : Option Addr} {c n d : Nat} {l : List α} (h : SV E D w (.slice a l.length c) l) (hn : n ≤ l.length) (hd : d = n * E.k) : SV E D w (.slice (if c = n then a else Option.map (fun x => x.add d) a) (l.length - n) (c - n)) (l.drop n) := by
  subst hd
  obtain ⟨a'', c', h1, h2, h3, h4⟩ := h
  simp only [Value.slice.injEq, true_and] at h1
  obtain ⟨rfl, rfl⟩ := h1
  refine ⟨_, c - n, by rw [List.length_drop], ⟨by rw [List.length_drop]; omega, fun h0 => ?_⟩, by rw [List.length_drop]; omega, fun i hi => ?_⟩
  · by_cases hc : c = n
    · omega
    · rw [if_neg hc] at h0
      have := h2.2 (by simpa using h0)
      omega
  rw [List.length_drop] at hi
  obtain ⟨b, o, cs, r1, r2, r3, r4⟩ := h4 (n + i) (by omega)
  subst r1
  refine ⟨b, o + n * E.k, cs, by rw [if_neg (by omega), Option.map_some, Addr.add_lit], r2, fun j hj => ?_, by rw [List.getElem_drop]; exact r4⟩
  rw [← r3 j hj, Nat.add_mul]
  congr 2
  omega
theorem SV.bd {α : Type} {E : El α} {D : Nat → Prop} {w : World} {v : Value} {l : List α} (hk : 0 < E.k) (h : SV E D w v l) : SV E (fun b => D b ∧ b < w.heap.size) w v l :=
  h.mono hk fun b hb hlt => ⟨⟨hb, hlt⟩, rfl⟩

/-- A slice value that is nil, or at the head of a row of the call's own (from block B on), with the elements l; what they lead to lies in blocks D, and not in this row. -/
def Own {α : Type} (e : TypeId) (E : El α) (D : Nat → Prop) (B : Nat) (w : World) (v : Value) (l : List α) : Prop :=
  l.length ≤ 140737488355328 ∧ ∃ D0 : Nat → Prop, (∀ b, D0 b → D b ∧ b < w.heap.size ∧ v.ownBlock ≠ some b) ∧ ∃ xs, w.ownsRow B e E.k v l.length xs ∧ Cells E D0 w xs l
section
variable {α : Type} {E : El α} {D D' S : Nat → Prop} {w w' : World} {v : Value} {l : List α} {e : TypeId} {B : Nat}
theorem Own.nil (e : TypeId) (E : El α) (D : Nat → Prop) (B : Nat) (w : World) : Own e E D B w (.slice none 0 0) [] :=
  ⟨by simp, fun _ => False, fun _ => False.elim, [], World.ownsRow_nil w B e E.k, rfl⟩
theorem Own.lt (h : Own e E D B w v l) : ∀ k, v.ownBlock = some k → B ≤ k ∧ k < w.heap.size := by
  obtain ⟨_, _, _, xs, h1, _⟩ := h
  exact h1.lt
theorem Own.len (h : Own e E D B w v l) : l.length ≤ 140737488355328 := h.1
theorem Own.slice (h : Own e E D B w v l) : ∃ a c, v = .slice a l.length c := by
  obtain ⟨_, _, _, xs, ⟨_, h1⟩, _⟩ := h
  rcases h1 with ⟨rfl, hn⟩ | ⟨g, cap, cur, rfl, _⟩
  · exact ⟨none, 0, by rw [hn]⟩
  · exact ⟨_, _, rfl⟩
theorem Own.slice' (h : Own e E D B w v l) : ∃ a n c, v = .slice a n c := by
  obtain ⟨a, c, h⟩ := h.slice
  exact ⟨a, _, c, h⟩
/-- '[]T{}': a row of no element. -/
theorem Own.lit0 (e : TypeId) (E : El α) (D : Nat → Prop) (w : World) : Own e E D w.heap.size (w.alloc (.cells #[] e)) (.slice (some ⟨w.heap.size, 0, none⟩) 0 0) [] :=
  ⟨by simp, fun _ => False, fun _ => False.elim, [], ⟨by simp, .inr ⟨w.heap.size, 0, #[], rfl, Nat.le_refl _, heap_alloc_new _ _, Nat.le_refl _, by unfold maxLen; omega, by simp, by simp⟩⟩, rfl⟩
/-- It stays where other blocks change. -/
theorem Own.kept (h : Own e E D B w v l) (kw : Kept S w w') (hS : ∀ b, S b → b < w.heap.size → ¬ D b ∧ v.ownBlock ≠ some b) : Own e E D B w' v l := by
  obtain ⟨hl, D0, h0, xs, h1, h2⟩ := h
  have hsz := kw.size
  refine ⟨hl, D0, fun b hb => ⟨(h0 b hb).1, by have := (h0 b hb).2.1; omega, (h0 b hb).2.2⟩, xs, ?_, h2.mono fun b hb hlt => ⟨hb, kw.block b hlt fun hs => (hS b hs hlt).1 (h0 b hb).1⟩⟩
  have hlt := h1.lt
  obtain ⟨h3, h4⟩ := h1
  refine ⟨h3, ?_⟩
  rcases h4 with h4 | ⟨g, cap, cur, rfl, hg, hh, r⟩
  · exact .inl h4
  · refine .inr ⟨g, cap, cur, rfl, hg, ?_, r⟩
    rw [kw.block g (hlt g rfl).2 fun hs => (hS g hs (hlt g rfl).2).2 rfl]
    exact hh
theorem Own.alloc (h : Own e E D B w v l) (o : Obj) : Own e E D B (w.alloc o) v l := h.kept ((Kept.refl Noneof w).alloc o) fun _ h => h.elim
theorem Own.at (h : Own e E D B w v l) (he : w'.heap = w.heap) : Own e E D B w' v l := by
  obtain ⟨hl, D0, h0, xs, h1, h2⟩ := h
  refine ⟨hl, D0, by rw [he]; exact h0, xs, ?_, h2.mono fun b hb _ => ⟨hb, by rw [he]⟩⟩
  unfold World.ownsRow at h1 ⊢
  rw [he]
  exact h1
/-- It reads as its elements. -/
theorem Own.rd (h : Own e E D B w v l) (hD : ∀ b, D b → D' b) (hB : ∀ b, v.ownBlock = some b → D' b) : SV E D' w v l := by
  obtain ⟨hl, D0, h0, xs, h1, h2⟩ := h
  obtain ⟨h3, h4⟩ := h1
  rcases h4 with ⟨rfl, hn⟩ | ⟨g, cap, cur, rfl, hg, hh, hc, hm, hs, ht⟩
  · obtain rfl : l = [] := List.eq_nil_of_length_eq_zero hn
    exact ⟨none, 0, rfl, ⟨by simp, fun _ => rfl⟩, by simp, Rd.nil _ _ _ _⟩
  · refine ⟨_, _, rfl, ⟨hc, fun h => by cases h⟩, hl, fun i hi => ?_⟩
    obtain ⟨cs, h5, h6⟩ := h2.at_ i hi
    refine ⟨g, 0, cs, rfl, hB g rfl, fun j hj => ?_, E.mono (fun b hb _ => ⟨hD b (h0 b hb).1, rfl⟩) h5⟩
    have h7 := h6 j hj
    have hlt := (List.getElem?_eq_some_iff.1 h7).1
    rw [← ht] at h7
    rw [List.getElem?_take, if_pos (by omega), Array.getElem?_toList] at h7
    simp [World.cell?, hh, h7]
/-- Where it was made in the call, it reads as its elements, from the blocks D or new ones. -/
theorem Own.sv (h : Own e E D B w v l) : SV E (fun b => D b ∨ B ≤ b) w v l := h.rd (fun _ h => .inl h) fun b hb => .inr (h.lt b hb).1
theorem Own.wide (h : Own e E D B w v l) (hD : ∀ b, D b → D' b) : Own e E D' B w v l := by
  obtain ⟨hl, D0, h0, r⟩ := h
  exact ⟨hl, D0, fun b hb => ⟨hD b (h0 b hb).1, (h0 b hb).2⟩, r⟩
theorem Own.base {B' : Nat} (h : Own e E D B w v l) (hB : B' ≤ B) : Own e E D B' w v l := by
  obtain ⟨hl, D0, h0, xs, ⟨h1, h2⟩, r⟩ := h
  refine ⟨hl, D0, h0, xs, ⟨h1, ?_⟩, r⟩
  rcases h2 with h2 | ⟨g, cap, cur, h3, h4, h5⟩
  · exact .inl h2
  · exact .inr ⟨g, cap, cur, h3, by omega, h5⟩
end
/-- append to a row of the call's own: and the row is the old one, or a new one. -/
theorem run_app {P : Program} (w : World) (base : Nat) (t ty e : TypeId) (i : TypeInfo) (z : Value) (size bytes : Nat) (ht : P.underlying t = some (.slice e)) (hi : P.info? e = some i) (hz : i.zero = some z)
    (hsize : i.size = size) (hby : i.bytes = bytes) (hzs : z.cells.size = size) (hsz : 0 < size) (v : Value) (n : Nat) (xs : List Value) (hown : w.ownsRow base e size v n xs)
    (a : Addr) (m c : Nat) (news : List Value) (hl : news.length = m * size) (hnews : ∀ j u, news[j]? = some u → w.cell? (a.add j) = some u) (h1 : ∀ u ∈ news, u.oneCell' = true)
    (h63 : n + m ≤ maxLen) (hbytes : (n + m) * bytes ≤ 140737488355328) (hbase : base ≤ w.heap.size) :
    ∃ v' w', (Builtin.append_ #[t, t] ty #[v, .slice (some a) m c]).run P w = .ok v' w' ∧ w'.ownsRow base e size v' (n + m) (xs ++ news) ∧ w.grownBy w' v.ownBlock ∧
      (v' = .slice none 0 0 ↔ v = .slice none 0 0 ∧ m = 0) ∧ ∀ b, v'.ownBlock = some b → v.ownBlock = some b ∨ w.heap.size ≤ b := by
  have hown' := hown
  obtain ⟨hx, h2⟩ := hown
  rcases h2 with ⟨rfl, rfl⟩ | ⟨g, cap, cur, rfl, hbg, hg, hnc, hcm, hcs, htake⟩
  · have hx0 : xs = [] := List.eq_nil_of_length_eq_zero (by simpa using hx)
    subst hx0
    obtain ⟨v', w', k0, k1, k2, k3⟩ := run_append_own (P := P) w w.heap.size t ty e i z size bytes ht hi hz hsize hby hzs hsz _ 0 [] (World.ownsRow_nil w _ e size) a m c news hl hnews h1 h63 hbytes (Nat.le_refl _)
    refine ⟨v', w', k0, ⟨k1.1, ?_⟩, k2, k3, fun b hb => .inr (k1.lt b hb).1⟩
    rcases k1.2 with k | ⟨g, cap, cur, r1, r2, r3⟩
    · exact .inl k
    · exact .inr ⟨g, cap, cur, r1, Nat.le_trans hbase r2, r3⟩
  · by_cases hroom : n + m ≤ cap
    · obtain ⟨w', k0, k1, k2⟩ := run_append_fits (P := P) w base t ty e i size ht hi hsize g n cap xs hown' a m c news hl hnews h1 hroom
      exact ⟨_, w', k0, k1, k2, by simp, fun b hb => .inl hb⟩
    · subst hsize
      subst hby
      have hsmall : n + m ≤ 9223372036854775807 := by simp only [maxLen] at h63; omega
      have holds : ∀ j u, xs[j]? = some u → w.cell? ((⟨g, 0, none⟩ : Addr).add j) = some u := hown'.cells (g := g) rfl
      have hr := run_append_grow (P := P) w t ty e i z ht hi hz ⟨g, 0, none⟩ n cap xs hx holds a m c news hl hnews (by omega) (by omega) (growslice_fits (by omega) hbytes)
      have hge := grownCap_ge w (n + m) cap e
      have hcm' : grownCap w (n + m) cap e ≤ maxLen := grownCap_le_maxLen w (n + m) cap e h63
      refine ⟨_, _, hr, ⟨by rw [List.length_append, hx, hl, Nat.add_mul], .inr ⟨w.heap.size, _, _, rfl, hbase, heap_alloc_new w.drew _, hge, hcm', ?_, ?_⟩⟩, ⟨rfl, rfl, rfl, by simp, fun k hk _ => heap_alloc_old w.drew _ hk⟩, by simp, fun b hb => .inr ?_⟩
      · simp only [Array.size_append, List.size_toArray, size_zeroCells, hzs, hx, hl, ← Nat.add_mul]
        congr 1
        omega
      · simp only [Array.toList_append, List.append_assoc]
        rw [← List.append_assoc, show (n + m) * i.size = (xs ++ news).length by rw [List.length_append, hx, hl, Nat.add_mul]]
        exact List.take_left
      · simp only [Value.ownBlock, Option.some.injEq] at hb
        omega

theorem made_cells (z : Array Value) (hz : 0 < z.size) : ∀ k, (madeCells z (k * z.size)).toList = (List.replicate k z.toList).flatten
  | 0 => by simp [madeCells]
  | k + 1 => by
    rw [List.replicate_succ', List.flatten_append, ← made_cells z hz k, Nat.add_mul, Nat.one_mul]
    simp only [madeCells, Array.toList_map, Array.toList_range, List.range_add, List.map_append, List.map_map, List.flatten_cons, List.flatten_nil, List.append_nil]
    congr 1
    refine List.ext_getElem (by simp) fun i h1 h2 => ?_
    have hi : i < z.size := by simpa using h2
    simp [Nat.mul_add_mod, Nat.mod_eq_of_lt hi, hi, Nat.mul_comm]

section
variable {α : Type} {E : El α} {P : Program} {w : World} {ops : Array Oper} {rest : List Oper} {o : Oper} {a : Act} {Q : Exit → Act → World → Prop}
/-- append of cells that read as elements to a row of the call's own. -/
theorem wp_app {K : Act → World → Prop} (s x : Operand) (t : TypeId) (ho : o.op = .call { callee := .builtin .append, args := #[s, x], argTypes := #[t, t] })
    {e : TypeId} {bytes : Nat} {z : Value} (T : SlT P t e E.k bytes z) {D D' : Nat → Prop} {B : Nat} (v : Value) (l : List α) (hs : a.eval s = v) (hown : Own e E D B w v l)
    (ao : Option Addr) (c : Nat) (m : List α) (hx : a.eval x = .slice ao m.length c) (hc0 : m.length ≤ c) (hnil : ao = none → c = 0) (news : List Value) (hm : Cells E D' w news m) (hnews : ∀ j u, news[j]? = some u → ∃ p, ao = some p ∧ w.cell? (p.add j) = some u)
    (hD : ∀ b, D' b → b < w.heap.size → D b ∧ v.ownBlock ≠ some b) (hbytes : (l.length + m.length) * bytes ≤ 140737488355328) (hb1 : 0 < bytes) (hbase : B ≤ w.heap.size)
    (h : ∀ v' w', Own e E D B w' v' (l ++ m) → Kept (fun k => v.ownBlock = some k) w w' → (∀ b, v'.ownBlock = some b → v.ownBlock = some b ∨ w.heap.size ≤ b) → (v' = .slice none 0 0 ↔ v = .slice none 0 0 ∧ m = []) → K (a.put o.dst v') w') : o.wp P a w K Q := by
  obtain ⟨hl, D0, h0, xs, h1, h2⟩ := hown
  obtain ⟨i, hi, hz, hsize, hby, hzs⟩ := T.hi
  have hlen : l.length + m.length ≤ 140737488355328 := Nat.le_trans (Nat.le_mul_of_pos_right _ hb1) hbytes
  have hcl := hm.length
  cases ao with
  | none =>
    have hc := hnil rfl
    subst hc
    obtain rfl : m = [] := List.eq_nil_of_length_eq_zero (by omega)
    have hrun := run_append_owned_none (P := P) (w := w) B t o.type e i E.k T.ht hi v l.length xs h1
    unfold Oper.wp
    simp only [execOp, ho, resolve, invoke, builtin, Sem.run_bind, Sem.run_pure, Result.andThen_ok, List.map_toArray, List.map_cons, List.map_nil, hs, hx, List.length_nil, hrun]
    refine h v w ?_ (Kept.refl _ _) (fun b hb => .inl hb) (by simp)
    rw [List.append_nil]
    exact ⟨hl, D0, h0, xs, h1, h2⟩
  | some ad =>
    obtain ⟨v', w', k0, k1, k2, k3, hrow⟩ := run_app (P := P) w B t o.type e i z E.k bytes T.ht hi hz hsize hby hzs T.pos v l.length xs h1 ad m.length c news hcl (fun j u hu => by
      obtain ⟨p, hp, hc⟩ := hnews j u hu
      obtain rfl := Option.some.inj hp
      exact hc) hm.one (by unfold maxLen; omega) hbytes hbase
    have hk := Kept.of_grown k2
    have hsz := k2.size
    have hgo : K (a.put o.dst v') w' := by
      refine h v' w' ⟨by rw [List.length_append]; exact hlen, fun b => (D0 b ∨ D' b) ∧ b < w.heap.size, fun b hb => ?_, xs ++ news, by rw [List.length_append]; exact k1, ?_⟩ (hk.mono fun k hk => hk) hrow (by simpa using k3)
      · obtain ⟨hb, hlt⟩ := hb
        have hd : D b ∧ v.ownBlock ≠ some b := hb.elim (fun hb => ⟨(h0 b hb).1, (h0 b hb).2.2⟩) fun hb => hD b hb hlt
        refine ⟨hd.1, by omega, fun he => ?_⟩
        rcases hrow b he with hv | hge
        · exact hd.2 hv
        · omega
      · refine Cells.append (h2.mono fun b hb hlt => ⟨⟨.inl hb, hlt⟩, k2.block b hlt fun e => (h0 b hb).2.2 e.symm⟩) (hm.mono fun b hb hlt => ⟨⟨.inr hb, hlt⟩, k2.block b hlt fun e => (hD b hb hlt).2 e.symm⟩)
    unfold Oper.wp execOp
    simp only [ho, resolve, invoke, builtin, Sem.run_bind, Sem.run_pure, Result.andThen_ok, List.map_toArray, List.map_cons, List.map_nil, hs, hx, k0]
    exact hgo
theorem wl_app (hgd : o.guard = none) (s x : Operand) (t : TypeId) (ho : o.op = .call { callee := .builtin .append, args := #[s, x], argTypes := #[t, t] })
    {e : TypeId} {bytes : Nat} {z : Value} (T : SlT P t e E.k bytes z) {D D' : Nat → Prop} {B : Nat} (v : Value) (l : List α) (hs : a.eval s = v) (hown : Own e E D B w v l)
    (ao : Option Addr) (c : Nat) (m : List α) (hx : a.eval x = .slice ao m.length c) (hc0 : m.length ≤ c) (hnil : ao = none → c = 0) (news : List Value) (hm : Cells E D' w news m) (hnews : ∀ j u, news[j]? = some u → ∃ p, ao = some p ∧ w.cell? (p.add j) = some u)
    (hD : ∀ b, D' b → b < w.heap.size → D b ∧ v.ownBlock ≠ some b) (hbytes : (l.length + m.length) * bytes ≤ 140737488355328) (hb1 : 0 < bytes) (hbase : B ≤ w.heap.size)
    (h : ∀ v' w', Own e E D B w' v' (l ++ m) → Kept (fun k => v.ownBlock = some k) w w' → (∀ b, v'.ownBlock = some b → v.ownBlock = some b ∨ w.heap.size ≤ b) → (v' = .slice none 0 0 ↔ v = .slice none 0 0 ∧ m = []) → wpList P ops Q rest (a.put o.dst v') w') : wpList P ops Q (o :: rest) a w :=
  wpList_plain hgd fun _ hK => wp_app s x t ho T v l hs hown ao c m hx hc0 hnil news hm hnews hD hbytes hb1 hbase fun v' w' k1 k2 k3 k4 => hK _ _ (h v' w' k1 k2 k3 k4)
/-- append of a slice that reads as a list. -/
theorem wl_app_list (hgd : o.guard = none) (s x : Operand) (t : TypeId) (ho : o.op = .call { callee := .builtin .append, args := #[s, x], argTypes := #[t, t] })
    {e : TypeId} {bytes : Nat} {z : Value} (T : SlT P t e E.k bytes z) {D D' : Nat → Prop} {B : Nat} (v : Value) (l : List α) (hs : a.eval s = v) (hown : Own e E D B w v l)
    (vx : Value) (m : List α) (hx : a.eval x = vx) (hm : SV E D' w vx m) (hD : ∀ b, D' b → b < w.heap.size → D b ∧ v.ownBlock ≠ some b) (hbytes : (l.length + m.length) * bytes ≤ 140737488355328) (hb1 : 0 < bytes) (hbase : B ≤ w.heap.size)
    (h : ∀ v' w', Own e E D B w' v' (l ++ m) → Kept (fun k => v.ownBlock = some k) w w' → (∀ b, v'.ownBlock = some b → v.ownBlock = some b ∨ w.heap.size ≤ b) → wpList P ops Q rest (a.put o.dst v') w') : wpList P ops Q (o :: rest) a w := by
  obtain ⟨ao, c, rfl, ⟨hc, hn⟩, _, hr⟩ := hm
  obtain ⟨news, h1, h2⟩ := hr.cells
  exact wl_app hgd s x t ho T v l hs hown ao c m hx hc hn news h1 h2 hD hbytes hb1 hbase fun v' w' k1 k2 k3 _ => h v' w' k1 k2 k3
/-- append of bytes, wherever they lie. -/
theorem wl_app_bytes (hgd : o.guard = none) (s x : Operand) (t : TypeId) (ho : o.op = .call { callee := .builtin .append, args := #[s, x], argTypes := #[t, t] })
    {e : TypeId} {z : Value} (T : SlT P t e 1 1 z) {D' : Nat → Prop} {B : Nat} (v : Value) (l : Bts) (hs : a.eval s = v) (hown : Own e byteEl Noneof B w v l)
    (vx : Value) (m : Bts) (hx : a.eval x = vx) (hm : SV byteEl D' w vx m) (hbytes : l.length + m.length ≤ 140737488355328) (hbase : B ≤ w.heap.size)
    (h : ∀ v' w', Own e byteEl Noneof B w' v' (l ++ m) → Kept (fun k => v.ownBlock = some k) w w' → (∀ b, v'.ownBlock = some b → v.ownBlock = some b ∨ w.heap.size ≤ b) → wpList P ops Q rest (a.put o.dst v') w') : wpList P ops Q (o :: rest) a w := by
  obtain ⟨ao, c, rfl, ⟨hc, hn⟩, _, hr⟩ := hm
  obtain ⟨news, h1, h2⟩ := hr.cells
  exact wl_app (E := byteEl) hgd s x t ho T v l hs hown ao c m hx hc hn news (h1.bytes (D' := Noneof)) h2 (fun _ h => h.elim) (by omega) (by decide) hbase fun v' w' k1 k2 k3 _ => h v' w' k1 k2 k3
/-- append of one element, whose cells lie in a block of their own. -/
theorem wl_app_one (hgd : o.guard = none) (s x : Operand) (t : TypeId) (ho : o.op = .call { callee := .builtin .append, args := #[s, x], argTypes := #[t, t] })
    {e : TypeId} {bytes : Nat} {z : Value} (T : SlT P t e E.k bytes z) {D D' : Nat → Prop} {B : Nat} (v : Value) (l : List α) (hs : a.eval s = v) (hown : Own e E D B w v l)
    (g : Nat) (cs : List Value) (y : α) (hx : a.eval x = .slice (some ⟨g, 0, none⟩) 1 1) (hg : ∃ e' f, w.heap[g]? = some (.cells cs.toArray e' f)) (hm : E.R D' w cs y) (hD : ∀ b, D' b → b < w.heap.size → D b ∧ v.ownBlock ≠ some b) (hbytes : (l.length + 1) * bytes ≤ 140737488355328) (hb1 : 0 < bytes) (hbase : B ≤ w.heap.size)
    (h : ∀ v' w', Own e E D B w' v' (l ++ [y]) → Kept (fun k => v.ownBlock = some k) w w' → (∀ b, v'.ownBlock = some b → v.ownBlock = some b ∨ w.heap.size ≤ b) → wpList P ops Q rest (a.put o.dst v') w') : wpList P ops Q (o :: rest) a w := by
  obtain ⟨e', f, hg⟩ := hg
  refine wl_app hgd s x t ho T v l hs hown _ 1 [y] hx (by simp) (fun h => by cases h) cs (Cells.single hm) (fun j u hu => ⟨_, rfl, ?_⟩) hD hbytes hb1 hbase fun v' w' k1 k2 k3 _ => h v' w' k1 k2 k3
  rw [Addr.add_lit, Nat.zero_add]
  simp [World.cell?, hg, hu]
/-- make of so many elements that are zero. -/
theorem wl_make (hgd : o.guard = none) (n c : Operand) (t : TypeId) (ho : o.op = Op.makeSlice t n c) {e : TypeId} {bytes : Nat} {z : Value} (T : SlT P t e E.k bytes z) (D : Nat → Prop) (B : Nat)
    (N : Nat) (kl kc : IntKind) (L C : Int) (hl : a.eval n = .int kl L) (hc : a.eval c = .int kc C) (hL : L = (N : Int)) (hC : C = (N : Int)) (zero : α) (hz : ∀ w, E.R (fun _ => False) w z.cells.toList zero)
    (hbytes : bytes * N ≤ 140737488355328) (hb1 : 0 < bytes) (hbase : B ≤ w.heap.size)
    (h : ∀ w' g, Own e E D B w' (.slice (some ⟨g, 0, none⟩) N N) (List.replicate N zero) → Kept Noneof w w' → w.heap.size ≤ g → wpList P ops Q rest (a.put o.dst (.slice (some ⟨g, 0, none⟩) N N)) w') : wpList P ops Q (o :: rest) a w := by
  obtain ⟨i, hi, hzz, hsize, hby, hzs⟩ := T.hi
  have hN : N ≤ 140737488355328 := Nat.le_trans (Nat.le_mul_of_pos_left _ hb1) hbytes
  refine wpList_make_full w hgd n c t ho B e i z E.k T.ht hi hzz hsize kl kc L C N hl hc hL hC (by rw [hby]; omega) (by unfold maxLen; omega) hbase fun w' k1 k2 => ?_
  refine h w' _ ⟨by simpa using hN, fun _ => False, fun _ => False.elim, _, by simpa using k1, ?_⟩ ((Kept.of_grown k2).mono fun _ h => by cases h) (Nat.le_refl _)
  have hcells : ∀ k, (madeCells z.cells (k * E.k)).toList = (List.replicate k z.cells.toList).flatten := fun k => by rw [← hzs]; exact made_cells _ (by rw [hzs]; exact T.pos) k
  rw [hcells]
  clear h k1 hN hbytes hl hc hL hC
  induction N with
  | zero => rfl
  | succ N ih => exact ⟨_, _, by simp [List.replicate_succ], hz w', ih⟩
/-- make with a capacity, no element yet. -/
theorem wl_make0 (hgd : o.guard = none) (n c : Operand) (t : TypeId) (ho : o.op = Op.makeSlice t n c) {e : TypeId} {bytes : Nat} {z : Value} (T : SlT P t e E.k bytes z) (D : Nat → Prop) (B : Nat)
    (N : Nat) (kl kc : IntKind) (C : Int) (hl : a.eval n = .int kl 0) (hc : a.eval c = .int kc C) (hC : C = (N : Int)) (hbytes : bytes * N ≤ 140737488355328) (hb1 : 0 < bytes) (hbase : B ≤ w.heap.size)
    (h : ∀ w' g, Own e E D B w' (.slice (some ⟨g, 0, none⟩) 0 N) [] → Kept Noneof w w' → w.heap.size ≤ g → wpList P ops Q rest (a.put o.dst (.slice (some ⟨g, 0, none⟩) 0 N)) w') : wpList P ops Q (o :: rest) a w := by
  obtain ⟨i, hi, hzz, hsize, hby, hzs⟩ := T.hi
  have hN : N ≤ 140737488355328 := Nat.le_trans (Nat.le_mul_of_pos_left _ hb1) hbytes
  refine wpList_make_own w hgd n c t ho B e i z E.k T.ht hi hzz hsize kl kc C N hl hc hC (by rw [hby]; omega) (by unfold maxLen; omega) hbase fun w' k1 k2 => ?_
  exact h w' _ ⟨by simp, fun _ => False, fun _ => False.elim, [], by simpa using k1, rfl⟩ ((Kept.of_grown k2).mono fun _ h => by cases h) (Nat.le_refl _)
/-- copy of bytes over a row of the call's own that is as long. -/
theorem wl_copy (hgd : o.guard = none) (d s : Operand) (t : TypeId) (ho : o.op = .call { callee := .builtin .copy, args := #[d, s], argTypes := #[t, t] }) {e : TypeId} {z : Value} (T : SlT P t e 1 1 z) {D D' : Nat → Prop} {B : Nat}
    (g N c : Nat) (l : Bts) (hd : a.eval d = .slice (some ⟨g, 0, none⟩) N c) (hown : Own e byteEl D B w (.slice (some ⟨g, 0, none⟩) N c) l) (hlN : l.length = N) (vx : Value) (m : Bts) (hx : a.eval s = vx) (hm : SV byteEl D' w vx m) (hlen : m.length = N)
    (h : ∀ w', Own e byteEl D B w' (.slice (some ⟨g, 0, none⟩) N c) m → Kept (fun k => k = g) w w' → wpList P ops Q rest (a.put o.dst (goInt N)) w') : wpList P ops Q (o :: rest) a w := by
  obtain ⟨i, hi, hzz, hsize, hby, hzs⟩ := T.hi
  obtain ⟨ao, cx, rfl, ⟨hcx, hnx⟩, hlx, hr⟩ := hm
  obtain ⟨hl, D0, h0, xs, h1, h2⟩ := hown
  obtain ⟨news, k1, k2⟩ := hr.cells
  have hkl := k1.length
  simp only [byteEl, Nat.mul_one] at hkl
  rcases h1.2 with ⟨hh, _⟩ | ⟨g', cap, cur, hv, hg, hh, hc, hm', hs, ht⟩
  · cases hh
  · simp only [Value.slice.injEq, Option.some.injEq, Addr.mk.injEq, and_true] at hv
    obtain ⟨rfl, rfl, rfl⟩ := hv
    simp only [byteEl, Nat.mul_one] at hs
    have hlen' : m.length ≤ 140737488355328 := hlx
    have hone := k1.one
    rcases Nat.eq_zero_or_pos m.length with hz | hz
    · have hm0 : m = [] := List.eq_nil_of_length_eq_zero hz
      have hl0 : l = [] := List.eq_nil_of_length_eq_zero (by omega)
      subst hm0
      subst hl0
      refine wpList_copy_nothing hgd d s t t ho e T.ht (by rw [hi]; simp [hsize]) _ _ _ _ _ _ hd hx (by simp) ?_
      exact h w ⟨by simp, D0, h0, xs, h1, h2⟩ (Kept.refl _ _)
    · obtain ⟨ad, hao, _⟩ := k2 0 (news[0]'(by omega)) (by simp)
      subst hao
      refine wpList_copy_own hgd d s t t ho e T.ht (by rw [hi]; simp [hsize]) g 0 l.length _ ad _ _ hd hx cur e hh news (by rw [hkl, hlen]; simp) (fun j u hu => ?_) (by omega) hone ?_
      · obtain ⟨p, hp, hc'⟩ := k2 j u hu
        obtain rfl := Option.some.inj hp
        exact hc'
      · rw [hkl, hlen]
        refine h _ ⟨by omega, fun _ => False, fun _ => False.elim, news, ⟨by simp [byteEl, hkl], .inr ⟨g, _, _, by rw [hlen], hg, setRow_heap w g cur _ e _ hh, by omega, hm', ?_, ?_⟩⟩, ?_⟩ ⟨rfl, rfl, rfl, by simp, fun k _ hk => setRow_other w g k _ hk⟩
        · simp [byteEl, hkl]; omega
        · simp [byteEl, ← hkl]
        · exact k1.bytes
end
end Go.Proofs.Ytaopjdjbpamhhaa
/- Proved: a law for a region that draws its order and whose operations may make memory: one walk in the order of the text serves every order; no program is named. No condition. -/
namespace Go.Proofs.Ytaopjdjbpamhhaa
open Go Go.RowKit
set_option linter.unusedVariables false
set_option linter.unusedSimpArgs false
/-- What is said of an operation: it yields a value by itself; it leaves the value c; it leaves some value, of which Φ is known. -/
inductive Kd where
  | val
  | con (c : Value)
  | act (V : Value → Prop) (Φ : Value → World → Prop)
def kds (l : List (Nat × Kd)) (i : Nat) : Kd := (l.lookup i).getD .val
/-- Operation i waits for k, by a chain of edges. -/
def waitsN (ops : Array Oper) : Nat → Nat → Nat → Bool
  | 0, _, _ => false
  | f + 1, i, k => match ops[i]? with
    | none => false
    | some o => o.after.any fun e => Region.binds .any e && (e.on == k || waitsN ops f e.on k)
def waits (ops : Array Oper) (i k : Nat) : Bool := waitsN ops ops.size i k
def Act.val (a : Act) : Option Tmp → Value
  | some d => a.tmps.getD d undef
  | none => undef
def Held (ops : Array Oper) (Ext : World → World → Prop) (w0 : World) (K : Nat → Kd) (j : Nat) (a : Act) (w : World) : Prop :=
  ∀ V Φ o, K j = .act V Φ → ops[j]? = some o → ∃ w1, Ext w0 w1 ∧ Φ (Act.val a o.dst) w1 ∧ Ext w1 w
def Cls (ops : Array Oper) (Ext : World → World → Prop) (w0 : World) (K : Nat → Kd) (i : Nat) (a : Act) (w : World) : Prop :=
  Ext w0 w ∧ ∀ j, j < i → waits ops i j = true → Held ops Ext w0 K j a w
/-- The value that a slot gets: none where there is no slot. -/
def rv (d : Option Tmp) (u : Value) : Value := match d with | some _ => u | none => undef
/-- What an operation leaves, and where. -/
def Res (P : Program) (o : Oper) (a : Act) (w : World) (R : Value → World → Prop) : Prop :=
  match (execOp a.eval o).run P w with
  | .ok (.value u) w' => R u w'
  | .ok .skip w' => R undef w'
  | .ok (.enter f args) w' => Calls P f args w' fun
      | .returned u, w'' => R u w''
      | _, _ => False
  | .ok (.row row args) w' => Rows P row args w' R
  | _ => False
def Spec (P : Program) (ops : Array Oper) (Ext : World → World → Prop) (w0 : World) (K : Nat → Kd) (i : Nat) (o : Oper) (a : Act) (V : Value → Prop) : Prop :=
  if Region.wanted o (yielded ops a.tmps) = true then
    match K i with
    | .val => ∃ v, V = (fun u => u = v) ∧ ∀ w, Cls ops Ext w0 K i a w → (execOp a.eval o).run P w = .ok (.value v) w
    | .con c => V = (fun u => u = c) ∧ ∀ w, Cls ops Ext w0 K i a w → Res P o a w fun u w' => u = c ∧ Ext w w'
    | .act V0 Φ => (∃ v, V0 v) ∧ V = V0 ∧ ∀ w, Cls ops Ext w0 K i a w → Res P o a w fun u w' => V0 u ∧ Ext w w' ∧ Φ (rv o.dst u) w'
  else V = (fun u => u = undef)
/-- The walk in the order of the text. -/
def SeqG (P : Program) (ops : Array Oper) (Ext : World → World → Prop) (w0 : World) (K : Nat → Kd) (Fin : Act → Prop) : List Nat → Act → Prop
  | [], a => Fin a
  | i :: rest, a => ∃ o, ops[i]? = some o ∧ ∃ V, Spec P ops Ext w0 K i o a V ∧ ∀ v, V v → SeqG P ops Ext w0 K Fin rest (a.put o.dst v)

/-- What is asked of the region itself. -/
structure HeadOk (ops : Array Oper) (K : Nat → Kd) (n : Nat) : Prop where
  nosel : Region.noSelect ops = true
  le : n ≤ ops.size
  look : ∀ i k oi ok d, i < n → k < n → ops[i]? = some oi → ops[k]? = some ok → ok.dst = some d → d ∈ oi.looksAt ops → waits ops i k = true
  dst : ∀ i k oi ok d, i < n → k < n → i ≠ k → ops[i]? = some oi → ops[k]? = some ok → oi.dst = some d → ok.dst ≠ some d
  ord : ∀ i k, i < n → k < n → waits ops i k = true → k < i
  edge : ∀ i oi, i < n → ops[i]? = some oi → ∀ e ∈ oi.after, Region.binds .any e = true → e.on < i
  act : ∀ i V Φ oi, i < n → K i = .act V Φ → ops[i]? = some oi → oi.guard = none
def headB (ops : Array Oper) (K : Nat → Kd) (n : Nat) : Bool :=
  Region.noSelect ops && decide (n ≤ ops.size) && (List.range n).all fun i => match ops[i]? with
    | none => false
    | some oi =>
      (match K i with | .act .. => oi.guard.isNone | _ => true) && (oi.after.all fun e => !Region.binds .any e || decide (e.on < i)) &&
      (List.range n).all fun k => match ops[k]? with
        | none => false
        | some ok => (!waits ops i k || decide (k < i)) && match ok.dst with
          | none => true
          | some d => (!(oi.looksAt ops).contains d || waits ops i k) && (i == k || oi.dst != some d)
theorem HeadOk.of {ops : Array Oper} {K : Nat → Kd} {n : Nat} (h : headB ops K n = true) : HeadOk ops K n := by
  unfold headB at h
  simp only [Bool.and_eq_true, decide_eq_true_eq, List.all_eq_true, List.mem_range] at h
  obtain ⟨⟨h1, h2⟩, h3⟩ := h
  have pair : ∀ i k oi ok, i < n → k < n → ops[i]? = some oi → ops[k]? = some ok → (waits ops i k = true → k < i) ∧ ∀ d, ok.dst = some d → (d ∈ oi.looksAt ops → waits ops i k = true) ∧ (i = k ∨ oi.dst ≠ some d) := by
    intro i k oi ok hi hk ho hok
    have := h3 i hi
    simp only [ho, Bool.and_eq_true, List.all_eq_true, List.mem_range] at this
    have := this.2 k hk
    simp only [hok, Bool.and_eq_true, Bool.or_eq_true, Bool.not_eq_true', decide_eq_true_eq] at this
    obtain ⟨w1, w2⟩ := this
    refine ⟨fun hw => w1.resolve_left (by rw [hw]; simp), fun d hd => ?_⟩
    simp only [hd, Bool.and_eq_true, Bool.or_eq_true, Bool.not_eq_true', beq_iff_eq, bne_iff_ne, ne_eq] at w2
    refine ⟨fun hm => w2.1.resolve_left ?_, w2.2⟩
    intro hc
    have : (oi.looksAt ops).contains d = true := by simpa using hm
    rw [hc] at this
    cases this
  refine ⟨h1, h2, fun i k oi ok d hi hk ho hok hd hm => ((pair i k oi ok hi hk ho hok).2 d hd).1 hm, fun i k oi ok d hi hk hne ho hok hd hd' => ?_, fun i k hi hk hw => ?_, fun i oi hi ho e he hb => ?_, fun i V Φ oi hi hK ho => ?_⟩
  · exact (((pair i k oi ok hi hk ho hok).2 d hd').2.resolve_left hne) hd
  · have hik : i < ops.size := by omega
    have hkk : k < ops.size := by omega
    exact (pair i k _ _ hi hk (Array.getElem?_eq_getElem hik) (Array.getElem?_eq_getElem hkk)).1 hw
  · have := h3 i hi
    simp only [ho, Bool.and_eq_true] at this
    have := Array.all_eq_true_iff_forall_mem.1 this.1.2 e he
    simpa [hb] using this
  · have := h3 i hi
    simp only [ho, Bool.and_eq_true] at this
    have := this.1.1
    simp only [hK, Bool.and_eq_true, Option.isNone_iff_eq_none] at this
    exact this

section
variable {P : Program} {ops : Array Oper} {Ext : World → World → Prop} {w0 : World} {K : Nat → Kd} {n : Nat} {Fin : Act → Prop}
theorem Act.val_put_ne {a : Act} {x y : Option Tmp} {v : Value} (h : ∀ d, x = some d → y ≠ some d) : Act.val (a.put x v) y = Act.val a y := by
  cases y with
  | none => rfl
  | some e =>
    cases x with
    | none => rfl
    | some d =>
      have hne : d ≠ e := fun he => h d rfl (he ▸ rfl)
      simp [Act.val, Act.put, Array.getD_eq_getD_getElem?, Array.getElem?_setIfInBounds_ne hne]
theorem Act.val_put_eq {a : Act} {d : Tmp} {v : Value} (h : d < a.tmps.size) : Act.val (a.put (some d) v) (some d) = v := by
  simp [Act.val, Act.put, Array.getD_eq_getD_getElem?, h]
theorem Act.put_size (a : Act) (x : Option Tmp) (v : Value) : (a.put x v).tmps.size = a.tmps.size := by cases x <;> simp [Act.put]

theorem Held.put {a : Act} {x : Option Tmp} {v : Value} {w : World} {j : Nat} (h : ∀ o, ops[j]? = some o → ∀ d, x = some d → o.dst ≠ some d) : Held ops Ext w0 K j (a.put x v) w ↔ Held ops Ext w0 K j a w := by
  unfold Held
  constructor
  · intro H V Φ o hK ho
    have := H V Φ o hK ho
    rwa [Act.val_put_ne (h o ho)] at this
  · intro H V Φ o hK ho
    rw [Act.val_put_ne (h o ho)]
    exact H V Φ o hK ho

/-- Two operations of the head, of which none waits for the other, do not feel each other. -/
theorem Spec.put (H : HeadOk ops K n) {i k : Nat} {oi ok : Oper} (hi : i < n) (hk : k < n) (hoi : ops[i]? = some oi) (hok : ops[k]? = some ok) (hik : waits ops i k = false) {a : Act} {v : Value} {V : Value → Prop} :
    Spec P ops Ext w0 K i oi (a.put ok.dst v) V ↔ Spec P ops Ext w0 K i oi a V := by
  have hl : ∀ d, ok.dst = some d → d ∉ oi.looksAt ops := fun d hd hm => by rw [H.look i k oi ok d hi hk hoi hok hd hm] at hik; cases hik
  have e1 := execOp_put (ops := ops) oi (fun cs b => Region.noSelect_spec H.nosel i oi cs b hoi) a ok.dst v hl
  have e2 := wanted_put (ops := ops) oi a ok.dst v hl
  have e3 : ∀ w, Cls ops Ext w0 K i (a.put ok.dst v) w ↔ Cls ops Ext w0 K i a w := by
    intro w
    unfold Cls
    refine and_congr_right fun _ => forall_congr' fun j => imp_congr_right fun hji => imp_congr_right fun hj => Held.put fun o ho d hd => ?_
    exact H.dst k j ok o d hk (by omega) (fun e => by subst e; rw [hj] at hik; cases hik) hok ho hd
  unfold Spec Res
  simp only [e1, e2, e3]

theorem Spec.uniq {i : Nat} {o : Oper} {a : Act} {w : World} {V V' : Value → Prop} (hc : Cls ops Ext w0 K i a w) (h : Spec P ops Ext w0 K i o a V) (h' : Spec P ops Ext w0 K i o a V') : V = V' := by
  unfold Spec at h h'
  split at h
  · rename_i hw
    rw [if_pos hw] at h'
    cases hK : K i with
    | val =>
      rw [hK] at h h'
      obtain ⟨v, rfl, h1⟩ := h
      obtain ⟨v', rfl, h2⟩ := h'
      have := (h1 w hc).symm.trans (h2 w hc)
      simp only [Result.ok.injEq, Next.value.injEq, and_true] at this
      rw [this]
    | con c => rw [hK] at h h'; rw [h.1, h'.1]
    | act V0 Φ => rw [hK] at h h'; rw [h.2.1, h'.2.1]
  · rename_i hw
    rw [if_neg hw] at h'
    rw [h, h']
theorem Spec.some {i : Nat} {o : Oper} {a : Act} {V : Value → Prop} (h : Spec P ops Ext w0 K i o a V) : ∃ v, V v := by
  unfold Spec at h
  split at h
  · cases hK : K i with
    | val =>
      rw [hK] at h
      obtain ⟨v, rfl, _⟩ := h
      exact ⟨v, rfl⟩
    | con c => rw [hK] at h; rw [h.1]; exact ⟨c, rfl⟩
    | act V0 Φ => rw [hK] at h; rw [h.2.1]; exact h.1
  · rw [h]; exact ⟨undef, rfl⟩

/-- An operation that waits for nobody that is still to come may come up first. -/
theorem SeqG.extract (H : HeadOk ops K n) {i : Nat} {oi : Oper} {w : World} (hi : i < n) (hoi : ops[i]? = some oi) {post : List Nat} : ∀ (pre : List Nat) (a : Act), (∀ k ∈ pre, k < n ∧ k ≠ i ∧ waits ops i k = false ∧ waits ops k i = false) → Cls ops Ext w0 K i a w →
    SeqG P ops Ext w0 K Fin (pre ++ i :: post) a → ∃ V, Spec P ops Ext w0 K i oi a V ∧ ∀ v, V v → SeqG P ops Ext w0 K Fin (pre ++ post) (a.put oi.dst v)
  | [], a, _, hc, h => by
    obtain ⟨o, ho, V, hV, hr⟩ := h
    obtain rfl : o = oi := Option.some.inj (ho.symm.trans hoi)
    exact ⟨V, hV, hr⟩
  | k :: pre, a, hp, hc, h => by
    obtain ⟨ok, hok, Vk, hVk, hr⟩ := h
    obtain ⟨hkn, hki, hik, hwk⟩ := hp k (by simp)
    have hc' : ∀ v, Cls ops Ext w0 K i (a.put ok.dst v) w := fun v => ⟨hc.1, fun j hj hw => (Held.put fun o ho d hd => H.dst k j ok o d hkn (by omega) (fun e => by subst e; rw [hw] at hik; cases hik) hok ho hd).2 (hc.2 j hj hw)⟩
    have step : ∀ vk, Vk vk → ∃ V, Spec P ops Ext w0 K i oi a V ∧ ∀ v, V v → SeqG P ops Ext w0 K Fin (pre ++ post) ((a.put ok.dst vk).put oi.dst v) := fun vk hvk => by
      obtain ⟨V, h1, h2⟩ := SeqG.extract H hi hoi pre (a.put ok.dst vk) (fun k' hk' => hp k' (by simp [hk'])) (hc' vk) (hr vk hvk)
      exact ⟨V, (Spec.put H hi hkn hoi hok hik).1 h1, h2⟩
    obtain ⟨vk0, hvk0⟩ := hVk.some
    obtain ⟨V, h1, _⟩ := step vk0 hvk0
    refine ⟨V, h1, fun v hv => ⟨ok, hok, Vk, (Spec.put H hkn hi hok hoi hwk).2 hVk, fun vk hvk => ?_⟩⟩
    obtain ⟨V', h3, h4⟩ := step vk hvk
    obtain rfl := Spec.uniq hc h1 h3
    rw [Act.put_comm a v vk (fun d hd => H.dst i k oi ok d hi hkn (Ne.symm hki) hoi hok hd)]
    exact h4 v hv

theorem waitsN_listed {listed : Array Bool} (hc : ∀ j oj, ops[j]? = some oj → listed.getD j false = true → ∀ e ∈ oj.after, Region.binds .any e = true → listed.getD e.on false = true) {k : Nat} :
    ∀ (f i : Nat), (∀ oi, ops[i]? = some oi → ∀ e ∈ oi.after, Region.binds .any e = true → listed.getD e.on false = true) → waitsN ops f i k = true → listed.getD k false = true
  | 0, _, _, h => by simp [waitsN] at h
  | f + 1, i, hi, h => by
    unfold waitsN at h
    cases ho : ops[i]? with
    | none => rw [ho] at h; simp at h
    | some o =>
      rw [ho] at h
      obtain ⟨e, he, hb⟩ := Array.any_eq_true'.1 h
      simp only [Bool.and_eq_true, Bool.or_eq_true, beq_iff_eq] at hb
      have hl := hi o ho e he hb.1
      rcases hb.2 with rfl | hw
      · exact hl
      · exact waitsN_listed hc f e.on (fun oj hoj => hc e.on oj hoj hl) hw

def unl (n : Nat) (listed : Array Bool) : List Nat := (List.range n).filter fun i => !listed.getD i true
theorem mem_unl {listed : Array Bool} {i : Nat} : i ∈ unl n listed ↔ i < n ∧ listed.getD i true = false := by simp [unl]
theorem unl_set {listed : Array Bool} {i : Nat} (hi : i < listed.size) {pre post : List Nat} (h : unl n listed = pre ++ i :: post) : unl n (listed.setIfInBounds i true) = pre ++ post := by
  have hnd : (unl n listed).Nodup := List.Pairwise.filter _ List.nodup_range
  have e : unl n (listed.setIfInBounds i true) = (unl n listed).filter fun k => k != i := by
    unfold unl
    rw [List.filter_filter]
    refine List.filter_congr fun k _ => ?_
    by_cases hk : i = k
    · subst hk; simp [hi]
    · rw [getD_set_ne true hk]; simp [Ne.symm hk]
  rw [e, h]
  rw [h] at hnd
  have h2 := List.nodup_append.1 hnd
  have h3 := List.nodup_cons.1 h2.2.1
  rw [List.filter_append, List.filter_cons]
  simp only [bne_self_eq_false, Bool.false_eq_true, if_false]
  rw [List.filter_eq_self.2, List.filter_eq_self.2]
  · intro k hk; simp; rintro rfl; exact h3.1 hk
  · intro k hk; simp; rintro rfl; exact h2.2.2 k hk k (by simp) rfl

theorem Res.wp {o : Oper} {a : Act} {w : World} {R : Value → World → Prop} {next : Act → World → Prop} {Q : Exit → Act → World → Prop} (h : Res P o a w R) (hn : ∀ u w', R u w' → next (a.put o.dst u) w') : o.wp P a w next Q := by
  unfold Res at h
  unfold Oper.wp
  generalize (execOp a.eval o).run P w = r at *
  cases r with
  | ok x w' =>
    cases x <;> simp only [Oper.upon] at h ⊢
    case value u => exact hn _ _ h
    case skip => exact hn _ _ h
    case enter f args =>
      refine Calls.mono h fun e w'' he => ?_
      cases e with
      | returned u => exact hn _ _ he
      | panicked c => exact he.elim
      | outgrown => exact he.elim
    case row row args => exact Rows.mono h fun u w'' he => hn _ _ he
  | halt x w' => cases x <;> exact h.elim

theorem grow_any (H : HeadOk ops K n) (refl : ∀ w, Ext w w) (trans : ∀ {a b c}, Ext a b → Ext b c → Ext a c) {Q : Exit → Act → World → Prop} {tail : List Oper}
    (hT : ∀ listed, HeadInv .any ops n listed → ∀ i, i < n → listed.getD i true = false → ∀ j ∈ Region.ready .any ops listed, j < n)
    (hE : ∀ listed, HeadInv .any ops n listed → (∀ i, i < n → listed.getD i false = true) → ∀ a w, wpList P ops Q tail a w → wpAny P .any ops Q tail.length listed a w) (tmps : Nat) (ht : ∀ i o d, i < n → ops[i]? = some o → o.dst = some d → d < tmps) :
    ∀ (m : Nat) (listed : Array Bool) (a : Act) (w : World), (unl n listed).length = m → HeadInv .any ops n listed → a.tmps.size = tmps →
      SeqG P ops Ext w0 K (fun a' => ∀ w', Ext w0 w' → (∀ j, j < n → Held ops Ext w0 K j a' w') → wpList P ops Q tail a' w') (unl n listed) a → Ext w0 w → (∀ j, j < n → listed.getD j false = true → Held ops Ext w0 K j a w) →
      wpAny P .any ops Q (m + tail.length) listed a w := by
  intro m
  induction m with
  | zero =>
    intro listed a w hm inv hz hs hx hh
    rw [List.length_eq_zero_iff] at hm
    rw [hm] at hs
    have hall : ∀ i, i < n → listed.getD i false = true := fun i hi => by
      cases hl : listed.getD i false with
      | true => rfl
      | false =>
        have : i ∈ unl n listed := mem_unl.2 ⟨hi, getD_in (by rw [inv.size]; exact Nat.lt_of_lt_of_le hi H.le) hl⟩
        rw [hm] at this
        cases this
    rw [Nat.zero_add]
    exact hE listed inv hall a w (hs w hx fun j hj => hh j hj (hall j hj))
  | succ m ih =>
    intro listed a w hm inv hz hs hx hh
    have hne : ∃ i0, i0 ∈ unl n listed := by
      cases hu : unl n listed with
      | nil => rw [hu] at hm; cases hm
      | cons x t => exact ⟨x, by simp⟩
    obtain ⟨i0, hi0⟩ := hne
    have hlt : ∀ j ∈ Region.ready .any ops listed, j < n := hT listed inv i0 (mem_unl.1 hi0).1 (mem_unl.1 hi0).2
    rw [show m + 1 + tail.length = (m + tail.length) + 1 by omega]
    have main : ∀ i ∈ Region.ready .any ops listed, wpOp P ops Q i (wpAny P .any ops Q (m + tail.length) (listed.setIfInBounds i true)) a w := by
      intro i hr
      have hin := hlt i hr
      obtain ⟨hun, oi, hoi, hall⟩ := mem_ready.1 hr
      have hisz : i < listed.size := by rw [inv.size]; exact Nat.lt_of_lt_of_le hin H.le
      obtain ⟨pre, post, hu⟩ := List.append_of_mem (mem_unl.2 ⟨hin, hun⟩)
      have hwl : ∀ k, waits ops i k = true → listed.getD k false = true := fun k hk => waitsN_listed inv.closed ops.size i (fun o ho => by
        obtain rfl : o = oi := Option.some.inj (ho.symm.trans hoi)
        exact hall) hk
      have hsort : ((unl n listed)).Pairwise (· < ·) := List.Pairwise.filter _ List.pairwise_lt_range
      rw [hu] at hsort
      have hlt' : ∀ k ∈ pre, k < i := fun k hk => (List.pairwise_append.1 hsort).2.2 k hk i (by simp)
      have hpre : ∀ k ∈ pre, k < n ∧ k ≠ i ∧ waits ops i k = false ∧ waits ops k i = false := fun k hk => by
        have hku := mem_unl.1 (show k ∈ unl n listed by rw [hu]; simp [hk])
        have hki := hlt' k hk
        refine ⟨hku.1, by omega, ?_, ?_⟩
        · cases hw : waits ops i k with
          | false => rfl
          | true => have h1 := hwl k hw; rw [getD_both hku.2] at h1; cases h1
        · cases hw : waits ops k i with
          | false => rfl
          | true => have := H.ord k i hku.1 hin hw; omega
      have hcls : Cls ops Ext w0 K i a w := ⟨hx, fun j hj hw => hh j (by omega) (hwl j hw)⟩
      rw [hu] at hs
      obtain ⟨V, hV, hrest⟩ := SeqG.extract H hin hoi pre a hpre hcls hs
      have hul := unl_set hisz hu
      have hlen : (unl n (listed.setIfInBounds i true)).length = m := by
        rw [hul]
        rw [hu] at hm
        simp only [List.length_append, List.length_cons] at hm ⊢
        omega
      have go : ∀ v w', V v → Ext w w' → (∀ V0 Φ, K i = .act V0 Φ → Φ (rv oi.dst v) w') → wpAny P .any ops Q (m + tail.length) (listed.setIfInBounds i true) (a.put oi.dst v) w' := by
        intro v w' hv hxx hΦ
        refine ih _ _ _ hlen (inv.set hr hin) (by rw [Act.put_size]; exact hz) (by rw [hul]; exact hrest v hv) (trans hx hxx) fun j hj hl => ?_
        by_cases hji : i = j
        · subst hji
          intro V0 Φ o hK ho
          obtain rfl : o = oi := Option.some.inj (ho.symm.trans hoi)
          refine ⟨w', trans hx hxx, ?_, refl w'⟩
          have h9 := hΦ V0 Φ hK
          cases hd : o.dst with
          | none => rw [hd] at h9; exact h9
          | some d =>
            rw [hd] at h9
            rw [Act.val_put_eq (by rw [hz]; exact ht i o d hin ho hd)]
            exact h9
        · rw [getD_set_ne false hji] at hl
          refine (Held.put fun o ho d hd => H.dst i j oi o d hin hj hji hoi ho hd).2 ?_
          intro V0 Φ o hK ho
          obtain ⟨w1, h1, h2, h3⟩ := hh j hj hl V0 Φ o hK ho
          exact ⟨w1, h1, h2, trans h3 hxx⟩
      unfold wpOp
      simp only [hoi]
      unfold Spec at hV
      split
      · rename_i hw
        rw [if_pos hw] at hV
        refine .inl ?_
        cases hK : K i with
        | val =>
          rw [hK] at hV
          obtain ⟨v, rfl, h1⟩ := hV
          unfold Oper.wp
          rw [h1 w hcls]
          exact go v w rfl (refl w) (fun V0 Φ h => by rw [hK] at h; cases h)
        | con c =>
          rw [hK] at hV
          obtain ⟨rfl, h1⟩ := hV
          refine (h1 w hcls).wp fun u w' hu => ?_
          exact go u w' hu.1 hu.2 (fun V0 Φ h => by rw [hK] at h; cases h)
        | act V1 Φ0 =>
          rw [hK] at hV
          obtain ⟨_, rfl, h1⟩ := hV
          refine (h1 w hcls).wp fun u w' hu => ?_
          refine go u w' hu.1 hu.2.1 (fun V0 Φ h => ?_)
          rw [hK] at h
          obtain ⟨rfl, rfl⟩ := Kd.act.inj h
          exact hu.2.2
      · rename_i hw
        rw [if_neg hw] at hV
        subst hV
        refine go undef w rfl (refl w) (fun V0 Φ h => ?_)
        have hg := H.act i V0 Φ oi hin h hoi
        simp [Region.wanted, hg] at hw
    refine ⟨fun h0 => ?_, main⟩
    exfalso
    have hmin : ∃ i, i ∈ unl n listed ∧ ∀ k ∈ unl n listed, i ≤ k := by
      cases hu : unl n listed with
      | nil => rw [hu] at hm; cases hm
      | cons x t =>
        refine ⟨x, by simp, fun k hk => ?_⟩
        have hsort : ((unl n listed)).Pairwise (· < ·) := List.Pairwise.filter _ List.pairwise_lt_range
        rw [hu] at hsort
        rcases List.mem_cons.1 hk with rfl | hk
        · exact Nat.le_refl _
        · exact Nat.le_of_lt ((List.pairwise_cons.1 hsort).1 k hk)
    obtain ⟨i, hi, hmin⟩ := hmin
    have hiu := mem_unl.1 hi
    have hisz : i < ops.size := Nat.lt_of_lt_of_le hiu.1 H.le
    have : i ∈ Region.ready .any ops listed := mem_ready.2 ⟨hiu.2, ops[i], Array.getElem?_eq_getElem hisz, fun e he hb => ?_⟩
    · rw [h0] at this; cases this
    · have hlt := H.edge i _ hiu.1 (Array.getElem?_eq_getElem hisz) e he hb
      cases hl : listed.getD e.on false with
      | true => rfl
      | false =>
        have := hmin e.on (mem_unl.2 ⟨by omega, getD_in (by rw [inv.size]; omega) hl⟩)
        omega

def canon (n m : Nat) : Array Bool := Array.replicate n true ++ Array.replicate m false
theorem canon_of {listed : Array Bool} (hn : n ≤ ops.size) (inv : HeadInv .any ops n listed) (h : ∀ i, i < n → listed.getD i false = true) : listed = canon n (ops.size - n) := by
  refine Array.ext (by rw [inv.size]; simp [canon]; omega) fun i h1 h2 => ?_
  by_cases hi : i < n
  · have := h i hi
    rw [Array.getD_eq_getD_getElem?, Array.getElem?_eq_getElem h1] at this
    simp only [Option.getD_some] at this
    rw [this]
    simp [canon, Array.getElem_append, hi]
  · have := inv.tail i (by omega) (by rw [← inv.size]; exact h1)
    rw [Array.getD_eq_getD_getElem?, Array.getElem?_eq_getElem h1] at this
    simp only [Option.getD_some] at this
    rw [this]
    simp [canon, Array.getElem_append, hi]
def growB (ops : Array Oper) (K : Nat → Kd) (n : Nat) : Bool :=
  headB ops K n && Region.seqB .any ops (ops.size - n) n (canon n (ops.size - n)) && (decide (n = ops.size) || (decide (n < ops.size) && Region.sinkB .any ops n && Region.chainB .any ops n))
def sizesB (l : List Oper) (m : Nat) : Bool := l.all fun o => match o.dst with | none => true | some d => decide (d < m)
/-- The walk in the order of the text, over the operations themselves. -/
def SeqL (P : Program) (ops : Array Oper) (Ext : World → World → Prop) (w0 : World) (K : Nat → Kd) (Fin : Act → Prop) : Nat → List Oper → Act → Prop
  | _, [], a => Fin a
  | k, o :: rest, a => ∃ V, Spec P ops Ext w0 K k o a V ∧ ∀ v, V v → SeqL P ops Ext w0 K Fin (k + 1) rest (a.put o.dst v)
theorem SeqL.seq {Fin : Act → Prop} : ∀ (l : List Oper) (k : Nat) (a : Act), (∀ j, j < l.length → l[j]? = ops[k + j]?) → SeqL P ops Ext w0 K Fin k l a → SeqG P ops Ext w0 K Fin (List.range' k l.length) a
  | [], k, a, _, h => h
  | o :: l, k, a, hl, h => by
    obtain ⟨V, h1, h2⟩ := h
    rw [List.length_cons, List.range'_succ]
    refine ⟨o, by simpa using (hl 0 (by simp)).symm, V, h1, fun v hv => ?_⟩
    exact SeqL.seq l (k + 1) _ (fun j hj => by have := hl (j + 1) (by simp; omega); simpa [Nat.add_assoc, Nat.add_comm 1 j] using this) (h2 v hv)

theorem wp_region_grow {id : Nat} {Q : Exit → Act → World → Prop} {a : Act} {w : World} {l : List Oper} (n : Nat) (kl : List (Nat × Kd)) (Ext : World → World → Prop) (refl : ∀ w, Ext w w) (trans : ∀ {a b c}, Ext a b → Ext b c → Ext a c) (h0 : Ext w w.drew) (hm : P.follows .mixedOrders = true)
    (hB : growB l.toArray (kds kl) n = true) (hz : sizesB (l.take n) a.tmps.size = true)
    (h : SeqL P l.toArray Ext w (kds kl) (fun a' => ∀ w', Ext w w' → (∀ j, j < n → Held l.toArray Ext w (kds kl) j a' w') → wpList P l.toArray Q (l.drop n) a' w') 0 (l.take n) a) : (Code.region id l.toArray true).wp P Q a w := by
  simp only [growB, Bool.and_eq_true, Bool.or_eq_true, decide_eq_true_eq] at hB
  obtain ⟨⟨hH, hS⟩, hE⟩ := hB
  have H := HeadOk.of hH
  have hle : n ≤ l.length := by simpa using H.le
  have htl : (l.take n).length = n := by simp; omega
  refine wp_region_any hm ?_
  have inv0 : HeadInv .any l.toArray n (Array.replicate l.toArray.size false) :=
    ⟨by simp, fun j oj _ hl => (by rw [getD_replicate_false] at hl; cases hl), fun t _ ht => getD_in (by simpa using ht) (getD_replicate_false _ _)⟩
  have hu : unl n (Array.replicate l.toArray.size false) = List.range n := by
    unfold unl
    refine List.filter_eq_self.2 fun i hi => ?_
    rw [getD_in (by simp; have := List.mem_range.1 hi; omega) (getD_replicate_false _ _)]
    rfl
  have h' := SeqL.seq (l.take n) 0 a (fun j hj => by rw [htl] at hj; simp [hj]) h
  rw [htl, ← List.range_eq_range'] at h'
  have := grow_any (K := kds kl) (w0 := w) (tail := l.drop n) (Q := Q) H refl trans (fun listed inv i hi hun j hj => ?_) (fun listed inv hall a' w' hw => ?_) a.tmps.size (fun i o d hi ho hd => ?_) n _ a w.drew (by rw [hu]; simp) inv0 rfl (by rw [hu]; exact h') h0 (fun j hj hl => by rw [getD_replicate_false] at hl; cases hl)
  · rw [show n + (l.drop n).length = l.toArray.size by simp; omega] at this
    exact this
  · rcases hE with hE | ⟨⟨hn, hs⟩, hc⟩
    · obtain ⟨_, oj, hoj, _⟩ := mem_ready.1 hj
      rw [hE]
      exact (Array.getElem?_eq_some_iff.1 hoj).1
    · rcases Nat.lt_or_ge j n with h1 | h1
      · exact h1
      · exact absurd hj (tail_waits hs hc hn inv _ i rfl hi hun j h1)
  · rw [canon_of H.le inv hall]
    refine wpAny_of_seq (l.drop n) n _ a' w' (fun j => by simp [List.getElem?_drop]) ?_ hw
    rw [show (l.drop n).length = l.toArray.size - n by simp]
    exact hS
  · have hm' : o ∈ l.take n := by
      have hio : l[i]? = some o := by simpa using ho
      have : (l.take n)[i]? = some o := by rw [List.getElem?_take, if_pos hi]; exact hio
      exact List.mem_of_getElem? this
    have := List.all_eq_true.1 hz o hm'
    rw [hd] at this
    simpa using this
end
/-! ### The steps of a walk -/
section
variable {P : Program} {ops : Array Oper} {Ext : World → World → Prop} {w0 : World} {K : Nat → Kd} {Fin : Act → Prop} {k : Nat} {o : Oper} {rest : List Oper} {a : Act}
theorem SeqL.nil (h : Fin a) : SeqL P ops Ext w0 K Fin k [] a := h
theorem SeqL.val {S : World → Prop} {v : Value} (hS : ∀ w, Ext w0 w → S w) (hK : K k = .val) (hw : Region.wanted o (yielded ops a.tmps) = true) (h : ∀ w, S w → (execOp a.eval o).run P w = .ok (.value v) w)
    (hn : SeqL P ops Ext w0 K Fin (k + 1) rest (a.put o.dst v)) : SeqL P ops Ext w0 K Fin k (o :: rest) a := by
  refine ⟨fun u => u = v, ?_, fun u hu => by rw [hu]; exact hn⟩
  unfold Spec
  rw [if_pos hw, hK]
  exact ⟨v, rfl, fun w hc => h w (hS w hc.1)⟩
theorem SeqL.skip (hw : Region.wanted o (yielded ops a.tmps) = false) (hn : SeqL P ops Ext w0 K Fin (k + 1) rest (a.put o.dst undef)) : SeqL P ops Ext w0 K Fin k (o :: rest) a := by
  refine ⟨fun u => u = undef, ?_, fun u hu => by rw [hu]; exact hn⟩
  unfold Spec
  rw [if_neg (by rw [hw]; simp)]
theorem Res.of {d : Tmp} {w : World} {R : Value → World → Prop} (hd : o.dst = some d) (hs : d < a.tmps.size) (h : o.wp P a w (fun a' w' => ∃ u, a' = a.put o.dst u ∧ R u w') (fun _ _ _ => False)) : Res P o a w R := by
  have inj : ∀ u u', a.put o.dst u = a.put o.dst u' → u = u' := fun u u' e => by
    have := congrArg (fun x => Act.val x (some d)) e
    simp only [hd] at this
    rwa [Act.val_put_eq hs, Act.val_put_eq hs] at this
  unfold Oper.wp at h
  unfold Res
  generalize (execOp a.eval o).run P w = r at *
  cases r with
  | ok x w' =>
    cases x <;> simp only [Oper.upon] at h ⊢
    case value u => obtain ⟨u', h1, h2⟩ := h; rw [inj _ _ h1]; exact h2
    case skip => obtain ⟨u', h1, h2⟩ := h; rw [inj _ _ h1]; exact h2
    case defer dd =>
      obtain ⟨u', h1, _⟩ := h
      have := congrArg (fun x => x.defers.length) h1
      rw [hd] at this
      simp [Act.put] at this
    case enter f args =>
      refine Calls.mono h fun e w'' he => ?_
      cases e with
      | returned u => obtain ⟨u', h1, h2⟩ := he; rw [inj _ _ h1]; exact h2
      | panicked c => exact he.elim
      | outgrown => obtain ⟨_, _, h⟩ := he; exact h
    case row row args => exact Rows.mono h fun u w'' ⟨u', h1, h2⟩ => by rw [inj _ _ h1]; exact h2
  | halt x w' => cases x <;> exact h
theorem SeqL.con {d : Tmp} {c : Value} (hK : K k = .con c) (hd : o.dst = some d) (hs : decide (d < a.tmps.size) = true) (hw : Region.wanted o (yielded ops a.tmps) = true)
    (h : ∀ w, Ext w0 w → (∀ j, j < k → waits ops k j = true → Held ops Ext w0 K j a w) → ∀ K' : Act → World → Prop, Hid (∀ w', Ext w w' → K' (a.put o.dst c) w') → o.wp P a w K' (fun _ _ _ => False))
    (hn : SeqL P ops Ext w0 K Fin (k + 1) rest (a.put o.dst c)) : SeqL P ops Ext w0 K Fin k (o :: rest) a := by
  refine ⟨fun u => u = c, ?_, fun u hu => by rw [hu]; exact hn⟩
  unfold Spec
  rw [if_pos hw, hK]
  exact ⟨rfl, fun w hc => Res.of hd (of_decide_eq_true hs) (h w hc.1 hc.2 _ (fun w' hx => ⟨c, rfl, rfl, hx⟩))⟩
theorem SeqL.act {d : Tmp} {V : Value → Prop} {Φ : Value → World → Prop} (hK : K k = .act V Φ) (hd : o.dst = some d) (hs : decide (d < a.tmps.size) = true) (hw : Region.wanted o (yielded ops a.tmps) = true) (hV : ∃ v, V v)
    (h : ∀ w, Ext w0 w → (∀ j, j < k → waits ops k j = true → Held ops Ext w0 K j a w) → ∀ K' : Act → World → Prop, Hid (∀ u w', V u → Ext w w' → Φ u w' → K' (a.put o.dst u) w') → o.wp P a w K' (fun _ _ _ => False))
    (hn : ∀ u, V u → SeqL P ops Ext w0 K Fin (k + 1) rest (a.put o.dst u)) : SeqL P ops Ext w0 K Fin k (o :: rest) a := by
  refine ⟨V, ?_, hn⟩
  unfold Spec
  rw [if_pos hw, hK]
  exact ⟨hV, rfl, fun w hc => Res.of hd (of_decide_eq_true hs) (h w hc.1 hc.2 _ (fun u w' hv hx hΦ => ⟨u, rfl, hv, hx, by rw [hd]; exact hΦ⟩))⟩
end
/-- Shapes of values. -/
def IsSlice (v : Value) : Prop := ∃ a n c, v = .slice a n c
theorem isSlice : ∃ v, IsSlice v := ⟨_, none, 0, 0, rfl⟩
theorem Kept.drew1 (S : Nat → Prop) (w : World) : Kept S w w.drew := (Kept.refl S w).drew
theorem Kept.tr {S : Nat → Prop} {a b c : World} (h : Kept S a b) (k : Kept S b c) : Kept S a c := h.trans k fun _ h => .inl h
theorem wp_region_kept {P : Program} {id : Nat} {Q : Exit → Act → World → Prop} {a : Act} {w : World} {l : List Oper} (n : Nat) (kl : List (Nat × Kd)) (S : Nat → Prop) (hm : P.follows .mixedOrders = true)
    (hB : growB l.toArray (kds kl) n = true) (hz : sizesB (l.take n) a.tmps.size = true)
    (h : SeqL P l.toArray (Kept S) w (kds kl) (fun a' => ∀ w', Kept S w w' → (∀ j, j < n → Held l.toArray (Kept S) w (kds kl) j a' w') → wpList P l.toArray Q (l.drop n) a' w') 0 (l.take n) a) : (Code.region id l.toArray true).wp P Q a w :=
  wp_region_grow n kl (Kept S) (Kept.refl S) Kept.tr (Kept.drew1 S w) hm hB hz h
end Go.Proofs.Ytaopjdjbpamhhaa
/- Proved: append to a row of the call's own that is full: nothing that was there changes. No program is named. No condition. -/
namespace Go.Proofs.Ytaopjdjbpamhhaa
open Go Go.RowKit
set_option linter.unusedVariables false
set_option linter.unusedSimpArgs false
section
variable {α : Type} {E : El α} {P : Program} {w : World} {ops : Array Oper} {o : Oper} {a : Act} {Q : Exit → Act → World → Prop}
theorem wp_app_fullc {K : Act → World → Prop} (s x : Operand) (t : TypeId) (ho : o.op = .call { callee := .builtin .append, args := #[s, x], argTypes := #[t, t] })
    {e : TypeId} {bytes : Nat} {z : Value} (T : SlT P t e E.k bytes z) {D D' : Nat → Prop} {B : Nat} (v : Value) (l : List α) (hs : a.eval s = v) (hown : Own e E D B w v l) (hfull : ∀ p n c, v = .slice (some p) n c → c = n)
    (ao : Option Addr) (c : Nat) (m : List α) (hx : a.eval x = .slice ao m.length c) (hc : m.length ≤ c) (hn : ao = none → c = 0) (news : List Value) (h1 : Cells E D' w news m) (h2 : ∀ j u, news[j]? = some u → ∃ p, ao = some p ∧ w.cell? (p.add j) = some u)
    (hD : ∀ b, D' b → b < w.heap.size → D b ∧ v.ownBlock ≠ some b) (hbytes : (l.length + m.length) * bytes ≤ 140737488355328) (hb1 : 0 < bytes) (hbase : B ≤ w.heap.size)
    (h : ∀ v' w', Own e E D B w' v' (l ++ m) → Kept Noneof w w' → (∀ b, v'.ownBlock = some b → v.ownBlock = some b ∨ w.heap.size ≤ b) → K (a.put o.dst v') w') : o.wp P a w K Q := by
  by_cases hm0 : m = []
  · subst hm0
    obtain ⟨hl, D0, h0, xs, ⟨k1, k2⟩, k3⟩ := hown
    obtain ⟨i, hi, hz, hsize, hby, hzs⟩ := T.hi
    have hsrc : Src P i.size t (.slice ao 0 c) 0 [] w := by
      cases ao with
      | none => exact Src.ofNil w T.ht c
      | some ad => exact Src.ofSlice w T.ht ad 0 c [] (by simp) (fun j u hu => by simp at hu) (by simp)
    have hrun : (Builtin.append_ #[t, t] o.type #[v, .slice ao 0 c]).run P w = .ok v w := by
      rcases k2 with ⟨rfl, _⟩ | ⟨g, cap, cur, rfl, _, _, hle, _⟩
      · exact run_append_nothing w t t o.type e i T.ht hi none 0 0 (Nat.le_refl _) _ hsrc
      · exact run_append_nothing w t t o.type e i T.ht hi (some ⟨g, 0, none⟩) l.length cap hle _ hsrc
    unfold Oper.wp
    simp only [execOp, ho, resolve, invoke, builtin, Sem.run_bind, Sem.run_pure, Result.andThen_ok, List.map_toArray, List.map_cons, List.map_nil, hs, hx, List.length_nil, hrun]
    refine h v w ?_ (Kept.refl _ _) (fun b hb => .inl hb)
    rw [List.append_nil]
    exact ⟨hl, D0, h0, xs, ⟨k1, k2⟩, k3⟩
  · have hpos : 0 < m.length := List.length_pos_iff.2 hm0
    obtain ⟨hl, D0, h0, xs, hrow, k3⟩ := hown
    rcases hrow.2 with ⟨rfl, hn0⟩ | ⟨g, cap, cur, rfl, hg, hh, hle, hcm, hcs, ht⟩
    · exact wp_app s x t ho T _ l hs ⟨hl, D0, h0, xs, hrow, k3⟩ ao c m hx hc hn news h1 h2 hD hbytes hb1 hbase fun v' w' q1 q2 q3 _ => h v' w' q1 (q2.mono fun k hk => by cases hk) q3
    · obtain rfl := hfull _ _ _ rfl
      obtain ⟨i, hi, hz, hsize, hby, hzs⟩ := T.hi
      have hlen : l.length + m.length ≤ 140737488355328 := Nat.le_trans (Nat.le_mul_of_pos_right _ hb1) hbytes
      obtain ⟨ad, rfl⟩ : ∃ ad, ao = some ad := by
        cases ao with
        | none => have := hn rfl; omega
        | some ad => exact ⟨ad, rfl⟩
      have hcl := h1.length
      have hxl := hrow.1
      have hr := run_append_grow (P := P) w t o.type e i z T.ht hi hz ⟨g, 0, none⟩ l.length l.length xs (by rw [hsize]; exact hxl) (hrow.cells (g := g) rfl) ad m.length c news (by rw [hsize]; exact hcl) (fun j u hu => by
        obtain ⟨p, hp, hc'⟩ := h2 j u hu
        obtain rfl := Option.some.inj hp
        exact hc') (by omega) (by omega) (growslice_fits (by omega) (by rw [hby]; exact hbytes))
      have hge := grownCap_ge w (l.length + m.length) l.length e
      have hcm' : grownCap w (l.length + m.length) l.length e ≤ maxLen := grownCap_le_maxLen w (l.length + m.length) l.length e (by unfold maxLen; omega)
      unfold Oper.wp
      simp only [execOp, ho, resolve, invoke, builtin, Sem.run_bind, Sem.run_pure, Result.andThen_ok, List.map_toArray, List.map_cons, List.map_nil, hs, hx, hr]
      have kk : Kept Noneof w (w.drew.alloc (.cells (xs.toArray ++ news.toArray ++ Builtin.zeroCells z.cells (grownCap w (l.length + m.length) l.length e - (l.length + m.length))) e)) := ((Kept.refl _ w).drew).alloc _
      refine h _ _ ⟨by simpa using hlen, fun b => D b ∧ b < w.heap.size, ?_, xs ++ news, ⟨by simp [hxl, hcl, Nat.add_mul], .inr ⟨w.heap.size, _, _, by rw [List.length_append], hbase, heap_alloc_new w.drew _, by rw [List.length_append]; exact hge, hcm', ?_, ?_⟩⟩, ?_⟩ kk ?_
      · intro b hb
        refine ⟨hb.1, by have := kk.size; omega, ?_⟩
        simp only [Value.ownBlock, ne_eq, Option.some.injEq]
        have : w.drew.heap.size = w.heap.size := rfl
        omega
      · simp only [Array.size_append, List.size_toArray, size_zeroCells, hzs, hxl, hcl, ← Nat.add_mul]
        congr 1
        omega
      · simp only [Array.toList_append, List.append_assoc, List.length_append]
        rw [← List.append_assoc, show (l.length + m.length) * E.k = (xs ++ news).length by rw [List.length_append, hxl, hcl, Nat.add_mul]]
        exact List.take_left
      · refine Cells.append (k3.mono fun b hb hlt => ⟨⟨(h0 b hb).1, hlt⟩, kk.block b hlt fun h => h⟩) (h1.mono fun b hb hlt => ⟨⟨(hD b hb hlt).1, hlt⟩, kk.block b hlt fun h => h⟩)
      · intro b hb
        simp only [Value.ownBlock, Option.some.injEq] at hb
        exact .inr (by rw [← hb]; exact Nat.le_refl _)
theorem wp_app_full_bytes {K : Act → World → Prop} (s x : Operand) (t : TypeId) (ho : o.op = .call { callee := .builtin .append, args := #[s, x], argTypes := #[t, t] })
    {e : TypeId} {z : Value} (T : SlT P t e 1 1 z) {D' : Nat → Prop} {B : Nat} (v : Value) (l : Bts) (hs : a.eval s = v) (hown : Own e byteEl Noneof B w v l) (hfull : ∀ p n c, v = .slice (some p) n c → c = n)
    (vx : Value) (m : Bts) (hx : a.eval x = vx) (hm : SV byteEl D' w vx m)
    (hbytes : l.length + m.length ≤ 140737488355328) (hbase : B ≤ w.heap.size)
    (h : ∀ v' w', Own e byteEl Noneof B w' v' (l ++ m) → Kept Noneof w w' → (∀ b, v'.ownBlock = some b → v.ownBlock = some b ∨ w.heap.size ≤ b) → K (a.put o.dst v') w') : o.wp P a w K Q := by
  obtain ⟨ao, c, rfl, ⟨hc, hn⟩, _, hr⟩ := hm
  obtain ⟨news, h1, h2⟩ := hr.cells
  exact wp_app_fullc (E := byteEl) s x t ho T v l hs hown hfull ao c m hx hc hn news (h1.bytes (D' := Noneof)) h2 (fun _ h => h.elim) (by omega) (by decide) hbase h
/-- append of one element, whose cells lie in a block of their own. -/
theorem wp_app_one {K : Act → World → Prop} (s x : Operand) (t : TypeId) (ho : o.op = .call { callee := .builtin .append, args := #[s, x], argTypes := #[t, t] })
    {e : TypeId} {bytes : Nat} {z : Value} (T : SlT P t e E.k bytes z) {D D' : Nat → Prop} {B : Nat} (v : Value) (l : List α) (hs : a.eval s = v) (hown : Own e E D B w v l)
    (g : Nat) (cs : List Value) (y : α) (hx : a.eval x = .slice (some ⟨g, 0, none⟩) 1 1) (hg : ∃ e' f, w.heap[g]? = some (.cells cs.toArray e' f)) (hm : E.R D' w cs y) (hD : ∀ b, D' b → b < w.heap.size → D b ∧ v.ownBlock ≠ some b) (hbytes : (l.length + 1) * bytes ≤ 140737488355328) (hb1 : 0 < bytes) (hbase : B ≤ w.heap.size)
    (h : ∀ v' w', Own e E D B w' v' (l ++ [y]) → Kept (fun k => v.ownBlock = some k) w w' → (∀ b, v'.ownBlock = some b → v.ownBlock = some b ∨ w.heap.size ≤ b) → K (a.put o.dst v') w') : o.wp P a w K Q := by
  obtain ⟨e', f, hg⟩ := hg
  refine wp_app s x t ho T v l hs hown _ 1 [y] hx (by simp) (fun h => by cases h) cs (Cells.single hm) (fun j u hu => ⟨_, rfl, ?_⟩) hD hbytes hb1 hbase fun v' w' k1 k2 k3 _ => h v' w' k1 k2 k3
  rw [Addr.add_lit, Nat.zero_add]
  simp [World.cell?, hg, hu]
end
end Go.Proofs.Ytaopjdjbpamhhaa
/- Proved: a law for a region that draws its order and whose operations that change the world wait for one another: one walk in the order of the text serves every order, the worlds being exact; no program is named. No condition. -/
namespace Go.Proofs.Ytaopjdjbpamhhaa
open Go Go.RowKit
set_option linter.unusedVariables false
set_option linter.unusedSimpArgs false
def SpecX (P : Program) (ops : Array Oper) (S : World → Prop) (K : Nat → Bool) (i : Nat) (o : Oper) (a : Act) (w : World) (next : Value → World → Prop) : Prop :=
  if Region.wanted o (yielded ops a.tmps) = true then
    match K i with
    | true => Res P o a w fun u w' => S w' ∧ next u w'
    | false => ∃ v, (∀ w, S w → (execOp a.eval o).run P w = .ok (.value v) w) ∧ next v w
  else next undef w
def SeqX (P : Program) (ops : Array Oper) (S : World → Prop) (K : Nat → Bool) (Fin : Act → World → Prop) : List Nat → Act → World → Prop
  | [], a, w => Fin a w
  | i :: rest, a, w => ∃ o, ops[i]? = some o ∧ SpecX P ops S K i o a w fun u w' => SeqX P ops S K Fin rest (a.put o.dst u) w'
structure ChainOk (ops : Array Oper) (K : Nat → Bool) (n : Nat) : Prop where
  head : HeadOk ops (fun _ => .val) n
  chain : ∀ i j, i < j → j < n → K i = true → K j = true → waits ops j i = true
def chainOkB (ops : Array Oper) (K : Nat → Bool) (n : Nat) : Bool :=
  headB ops (fun _ => .val) n && (List.range n).all fun j => (List.range j).all fun i => !K i || !K j || waits ops j i
theorem ChainOk.of {ops : Array Oper} {K : Nat → Bool} {n : Nat} (h : chainOkB ops K n = true) : ChainOk ops K n := by
  simp only [chainOkB, Bool.and_eq_true, List.all_eq_true, List.mem_range, Bool.or_eq_true, Bool.not_eq_true'] at h
  refine ⟨HeadOk.of h.1, fun i j hij hj hi hk => ?_⟩
  rcases h.2 j hj i hij with (h | h) | h
  · rw [hi] at h; cases h
  · rw [hk] at h; cases h
  · exact h
section
variable {P : Program} {ops : Array Oper} {S : World → Prop} {K : Nat → Bool} {n : Nat} {Fin : Act → World → Prop}
theorem Res.mono {o : Oper} {a : Act} {w : World} {R R' : Value → World → Prop} (h : Res P o a w R) (hr : ∀ u w', R u w' → R' u w') : Res P o a w R' := by
  unfold Res at *
  generalize (execOp a.eval o).run P w = r at *
  cases r with
  | ok x w' =>
    cases x <;> simp only at h ⊢
    case value u => exact hr _ _ h
    case skip => exact hr _ _ h
    case enter f args =>
      refine Calls.mono h fun e w'' he => ?_
      cases e with
      | returned u => exact hr _ _ he
      | panicked c => exact he.elim
      | outgrown => exact he.elim
    case row row args => exact Rows.mono h fun u w'' he => hr _ _ he
  | halt x w' => cases x <;> exact h.elim
theorem Res.some {o : Oper} {a : Act} {w : World} {R : Value → World → Prop} (h : Res P o a w R) : ∃ u w', R u w' := by
  unfold Res at h
  generalize (execOp a.eval o).run P w = r at *
  cases r with
  | ok x w' =>
    cases x <;> simp only at h
    case value u => exact ⟨_, _, h⟩
    case skip => exact ⟨_, _, h⟩
    case enter f args =>
      obtain ⟨e, w'', fr, he, _⟩ := h []
      cases e with
      | returned u => exact ⟨_, _, he⟩
      | panicked c => exact he.elim
      | outgrown => exact he.elim
    case row row args =>
      obtain ⟨v, w'', hv, _⟩ := h (Frame.ofRow P row args .normal) []
      exact ⟨_, _, hv⟩
  | halt x w' => cases x <;> exact h.elim

theorem HeadOk.apart (H : HeadOk ops (fun _ => .val) n) {i k : Nat} {oi ok : Oper} (hi : i < n) (hk : k < n) (hoi : ops[i]? = some oi) (hok : ops[k]? = some ok) (hik : waits ops i k = false) (a : Act) (v : Value) :
    execOp (a.put ok.dst v).eval oi = execOp a.eval oi ∧ Region.wanted oi (yielded ops (a.put ok.dst v).tmps) = Region.wanted oi (yielded ops a.tmps) := by
  have hl : ∀ d, ok.dst = some d → d ∉ oi.looksAt ops := fun d hd hm => by rw [H.look i k oi ok d hi hk hoi hok hd hm] at hik; cases hik
  exact ⟨execOp_put (ops := ops) oi (fun cs b => Region.noSelect_spec H.nosel i oi cs b hoi) a ok.dst v hl, wanted_put (ops := ops) oi a ok.dst v hl⟩
theorem Res.congr {o : Oper} {a a' : Act} {w : World} {R : Value → World → Prop} (e : execOp a'.eval o = execOp a.eval o) : Res P o a' w R ↔ Res P o a w R := by unfold Res; rw [e]

/-- A plain operation that is ready may come up first. -/
theorem SeqX.val (H : HeadOk ops (fun _ => .val) n) {i : Nat} {oi : Oper} (hi : i < n) (hoi : ops[i]? = some oi) {post : List Nat} : ∀ (pre : List Nat) (a : Act) (w : World), S w → (∀ k ∈ pre, k < n ∧ k ≠ i ∧ waits ops i k = false ∧ waits ops k i = false) →
    (Region.wanted oi (yielded ops a.tmps) = true → K i = false) → SeqX P ops S K Fin (pre ++ i :: post) a w →
    ∃ v, ((Region.wanted oi (yielded ops a.tmps) = true ∧ ∀ w, S w → (execOp a.eval oi).run P w = .ok (.value v) w) ∨ (Region.wanted oi (yielded ops a.tmps) = false ∧ v = undef)) ∧ SeqX P ops S K Fin (pre ++ post) (a.put oi.dst v) w
  | [], a, w, hw, _, hK, h => by
    obtain ⟨o, ho, hs⟩ := h
    obtain rfl : o = oi := Option.some.inj (ho.symm.trans hoi)
    unfold SpecX at hs
    split at hs
    · rename_i hwt
      rw [hK hwt] at hs
      obtain ⟨v, h1, h2⟩ := hs
      exact ⟨v, .inl ⟨hwt, h1⟩, h2⟩
    · rename_i hwt
      exact ⟨undef, .inr ⟨by simpa using hwt, rfl⟩, hs⟩
  | k :: pre, a, w, hSw, hp, hK, h => by
    obtain ⟨ok, hok, hs⟩ := h
    obtain ⟨hkn, hki, hik, hwk⟩ := hp k (by simp)
    have ap := fun v => H.apart hi hkn hoi hok hik a v
    have ak := fun v => H.apart hkn hi hok hoi hwk a v
    have ih : ∀ vk w', S w' → SeqX P ops S K Fin (pre ++ i :: post) (a.put ok.dst vk) w' → ∃ v, ((Region.wanted oi (yielded ops a.tmps) = true ∧ ∀ w, S w → (execOp a.eval oi).run P w = .ok (.value v) w) ∨ (Region.wanted oi (yielded ops a.tmps) = false ∧ v = undef)) ∧ SeqX P ops S K Fin (pre ++ post) ((a.put oi.dst v).put ok.dst vk) w' := fun vk w' hSw' h => by
      obtain ⟨v, h1, h2⟩ := SeqX.val H hi hoi pre (a.put ok.dst vk) w' hSw' (fun k' hk' => hp k' (by simp [hk'])) (by rw [(ap vk).2]; exact hK) h
      rw [(ap vk).1, (ap vk).2] at h1
      refine ⟨v, h1, ?_⟩
      rw [Act.put_comm a v vk (fun d hd => H.dst i k oi ok d hi hkn (Ne.symm hki) hoi hok hd)]
      exact h2
    have uniq : ∀ v v', ((Region.wanted oi (yielded ops a.tmps) = true ∧ ∀ w, S w → (execOp a.eval oi).run P w = .ok (.value v) w) ∨ (Region.wanted oi (yielded ops a.tmps) = false ∧ v = undef)) → ((Region.wanted oi (yielded ops a.tmps) = true ∧ ∀ w, S w → (execOp a.eval oi).run P w = .ok (.value v') w) ∨ (Region.wanted oi (yielded ops a.tmps) = false ∧ v' = undef)) → v = v' := by
      rintro v v' (⟨h1, h2⟩ | ⟨h1, rfl⟩) (⟨h3, h4⟩ | ⟨h3, rfl⟩)
      · have := (h2 w hSw).symm.trans (h4 w hSw)
        simpa using this
      · rw [h1] at h3; cases h3
      · rw [h1] at h3; cases h3
      · rfl
    unfold SpecX at hs
    have asm : ∀ v, SpecX P ops S K k ok (a.put oi.dst v) w (fun u w' => SeqX P ops S K Fin (pre ++ post) ((a.put oi.dst v).put ok.dst u) w') → SeqX P ops S K Fin (k :: pre ++ post) (a.put oi.dst v) w := fun v h => ⟨ok, hok, h⟩
    split at hs
    · rename_i hwt
      cases hKk : K k with
      | true =>
        rw [hKk] at hs
        obtain ⟨u0, w0, hS0, h0⟩ := hs.some
        obtain ⟨v, h1, _⟩ := ih u0 w0 hS0 h0
        refine ⟨v, h1, asm v ?_⟩
        unfold SpecX
        rw [(ak v).2, if_pos hwt, hKk]
        refine (Res.congr (ak v).1).2 (hs.mono fun u w' hu => ⟨hu.1, ?_⟩)
        obtain ⟨v', h3, h4⟩ := ih u w' hu.1 hu.2
        obtain rfl := uniq v v' h1 h3
        exact h4
      | false =>
        rw [hKk] at hs
        obtain ⟨vk, h3, h4⟩ := hs
        obtain ⟨v, h1, h2⟩ := ih vk w hSw h4
        refine ⟨v, h1, asm v ?_⟩
        unfold SpecX
        rw [(ak v).2, if_pos hwt, hKk]
        exact ⟨vk, by rw [(ak v).1]; exact h3, h2⟩
    · rename_i hwt
      obtain ⟨v, h1, h2⟩ := ih undef w hSw hs
      refine ⟨v, h1, asm v ?_⟩
      unfold SpecX
      rw [(ak v).2, if_neg hwt]
      exact h2

/-- An operation that changes the world may come up where only plain ones are ahead. -/
theorem SeqX.act (H : HeadOk ops (fun _ => .val) n) {i : Nat} {oi : Oper} (hi : i < n) (hoi : ops[i]? = some oi) (hKi : K i = true) {post : List Nat} : ∀ (pre : List Nat) (a : Act) (w : World), (∀ k ∈ pre, k < n ∧ k ≠ i ∧ waits ops i k = false ∧ waits ops k i = false ∧ K k = false) →
    Region.wanted oi (yielded ops a.tmps) = true → SeqX P ops S K Fin (pre ++ i :: post) a w →
    Res P oi a w fun u w' => S w' ∧ SeqX P ops S K Fin (pre ++ post) (a.put oi.dst u) w'
  | [], a, w, _, hwt, h => by
    obtain ⟨o, ho, hs⟩ := h
    obtain rfl : o = oi := Option.some.inj (ho.symm.trans hoi)
    unfold SpecX at hs
    rw [if_pos hwt, hKi] at hs
    exact hs
  | k :: pre, a, w, hp, hwt, h => by
    obtain ⟨ok, hok, hs⟩ := h
    obtain ⟨hkn, hki, hik, hwk, hKk⟩ := hp k (by simp)
    have ap := fun v => H.apart hi hkn hoi hok hik a v
    have ak := fun v => H.apart hkn hi hok hoi hwk a v
    have ih : ∀ vk, SeqX P ops S K Fin (pre ++ i :: post) (a.put ok.dst vk) w → Res P oi a w fun u w' => S w' ∧ SeqX P ops S K Fin (pre ++ post) ((a.put oi.dst u).put ok.dst vk) w' := fun vk h => by
      have := SeqX.act H hi hoi hKi pre (a.put ok.dst vk) w (fun k' hk' => hp k' (by simp [hk'])) (by rw [(ap vk).2]; exact hwt) h
      refine ((Res.congr (ap vk).1).1 this).mono fun u w' hu => ⟨hu.1, ?_⟩
      rw [Act.put_comm a u vk (fun d hd => H.dst i k oi ok d hi hkn (Ne.symm hki) hoi hok hd)]
      exact hu.2
    unfold SpecX at hs
    split at hs
    · rename_i hwk'
      rw [hKk] at hs
      obtain ⟨vk, h3, h4⟩ := hs
      refine (ih vk h4).mono fun u w' hu => ⟨hu.1, ok, hok, ?_⟩
      unfold SpecX
      rw [(ak u).2, if_pos hwk', hKk]
      exact ⟨vk, by rw [(ak u).1]; exact h3, hu.2⟩
    · rename_i hwk'
      refine (ih undef hs).mono fun u w' hu => ⟨hu.1, ok, hok, ?_⟩
      unfold SpecX
      rw [(ak u).2, if_neg hwk']
      exact hu.2

theorem chain_any (H : ChainOk ops K n) {Q : Exit → Act → World → Prop} {tail : List Oper} (hFin : ∀ a w, S w → Fin a w → wpList P ops Q tail a w)
    (hT : ∀ listed, HeadInv .any ops n listed → ∀ i, i < n → listed.getD i true = false → ∀ j ∈ Region.ready .any ops listed, j < n)
    (hE : ∀ listed, HeadInv .any ops n listed → (∀ i, i < n → listed.getD i false = true) → ∀ a w, wpList P ops Q tail a w → wpAny P .any ops Q tail.length listed a w) :
    ∀ (m : Nat) (listed : Array Bool) (a : Act) (w : World), (unl n listed).length = m → HeadInv .any ops n listed → SeqX P ops S K Fin (unl n listed) a w → S w →
      wpAny P .any ops Q (m + tail.length) listed a w := by
  intro m
  induction m with
  | zero =>
    intro listed a w hm inv hs hSw
    rw [List.length_eq_zero_iff] at hm
    rw [hm] at hs
    have hall : ∀ i, i < n → listed.getD i false = true := fun i hi => by
      cases hl : listed.getD i false with
      | true => rfl
      | false =>
        have : i ∈ unl n listed := mem_unl.2 ⟨hi, getD_in (by rw [inv.size]; exact Nat.lt_of_lt_of_le hi H.head.le) hl⟩
        rw [hm] at this
        cases this
    rw [Nat.zero_add]
    exact hE listed inv hall a w (hFin a w hSw hs)
  | succ m ih =>
    intro listed a w hm inv hs hSw
    have hne : ∃ i0, i0 ∈ unl n listed := by
      cases hu : unl n listed with
      | nil => rw [hu] at hm; cases hm
      | cons x t => exact ⟨x, by simp⟩
    obtain ⟨i0, hi0⟩ := hne
    have hlt : ∀ j ∈ Region.ready .any ops listed, j < n := hT listed inv i0 (mem_unl.1 hi0).1 (mem_unl.1 hi0).2
    rw [show m + 1 + tail.length = (m + tail.length) + 1 by omega]
    have main : ∀ i ∈ Region.ready .any ops listed, wpOp P ops Q i (wpAny P .any ops Q (m + tail.length) (listed.setIfInBounds i true)) a w := by
      intro i hr
      have hin := hlt i hr
      obtain ⟨hun, oi, hoi, hall⟩ := mem_ready.1 hr
      have hisz : i < listed.size := by rw [inv.size]; exact Nat.lt_of_lt_of_le hin H.head.le
      obtain ⟨pre, post, hu⟩ := List.append_of_mem (mem_unl.2 ⟨hin, hun⟩)
      have hwl : ∀ k, waits ops i k = true → listed.getD k false = true := fun k hk => waitsN_listed inv.closed ops.size i (fun o ho => by
        obtain rfl : o = oi := Option.some.inj (ho.symm.trans hoi)
        exact hall) hk
      have hsort : ((unl n listed)).Pairwise (· < ·) := List.Pairwise.filter _ List.pairwise_lt_range
      rw [hu] at hsort
      have hlt' : ∀ k ∈ pre, k < i := fun k hk => (List.pairwise_append.1 hsort).2.2 k hk i (by simp)
      have hnw : ∀ k ∈ pre, waits ops i k = false := fun k hk => by
        have hku := mem_unl.1 (show k ∈ unl n listed by rw [hu]; simp [hk])
        cases hw : waits ops i k with
        | false => rfl
        | true => have h1 := hwl k hw; rw [getD_both hku.2] at h1; cases h1
      have hpre : ∀ k ∈ pre, k < n ∧ k ≠ i ∧ waits ops i k = false ∧ waits ops k i = false := fun k hk => by
        have hku := mem_unl.1 (show k ∈ unl n listed by rw [hu]; simp [hk])
        have hki := hlt' k hk
        refine ⟨hku.1, by omega, hnw k hk, ?_⟩
        cases hw : waits ops k i with
        | false => rfl
        | true => have := H.head.ord k i hku.1 hin hw; omega
      rw [hu] at hs
      have hul := unl_set hisz hu
      have hlen : (unl n (listed.setIfInBounds i true)).length = m := by
        rw [hul]
        rw [hu] at hm
        simp only [List.length_append, List.length_cons] at hm ⊢
        omega
      have go : ∀ v w', S w' → SeqX P ops S K Fin (pre ++ post) (a.put oi.dst v) w' → wpAny P .any ops Q (m + tail.length) (listed.setIfInBounds i true) (a.put oi.dst v) w' :=
        fun v w' hS' h => ih _ _ _ hlen (inv.set hr hin) (by rw [hul]; exact h) hS'
      unfold wpOp
      simp only [hoi]
      by_cases hwt : Region.wanted oi (yielded ops a.tmps) = true
      · rw [if_pos hwt]
        refine .inl ?_
        cases hK : K i with
        | true =>
          refine (SeqX.act H.head hin hoi hK pre a w (fun k hk => ⟨(hpre k hk).1, (hpre k hk).2.1, (hpre k hk).2.2.1, (hpre k hk).2.2.2, ?_⟩) hwt hs).wp fun u w' hu => go u w' hu.1 hu.2
          cases hKk : K k with
          | false => rfl
          | true => have := H.chain k i (hlt' k hk) hin hKk hK; rw [hnw k hk] at this; cases this
        | false =>
          obtain ⟨v, h1, h2⟩ := SeqX.val H.head hin hoi pre a w hSw hpre (fun _ => hK) hs
          rcases h1 with ⟨_, h1⟩ | ⟨h1, _⟩
          · unfold Oper.wp
            rw [h1 w hSw]
            exact go v w hSw h2
          · rw [hwt] at h1; cases h1
      · rw [if_neg hwt]
        obtain ⟨v, h1, h2⟩ := SeqX.val H.head hin hoi pre a w hSw hpre (fun h => absurd h hwt) hs
        rcases h1 with ⟨h1, _⟩ | ⟨_, rfl⟩
        · exact absurd h1 hwt
        · exact go undef w hSw h2
    refine ⟨fun h0 => ?_, main⟩
    exfalso
    have hmin : ∃ i, i ∈ unl n listed ∧ ∀ k ∈ unl n listed, i ≤ k := by
      cases hu : unl n listed with
      | nil => rw [hu] at hm; cases hm
      | cons x t =>
        refine ⟨x, by simp, fun k hk => ?_⟩
        have hsort : ((unl n listed)).Pairwise (· < ·) := List.Pairwise.filter _ List.pairwise_lt_range
        rw [hu] at hsort
        rcases List.mem_cons.1 hk with rfl | hk
        · exact Nat.le_refl _
        · exact Nat.le_of_lt ((List.pairwise_cons.1 hsort).1 k hk)
    obtain ⟨i, hi, hmin⟩ := hmin
    have hiu := mem_unl.1 hi
    have hisz : i < ops.size := Nat.lt_of_lt_of_le hiu.1 H.head.le
    have : i ∈ Region.ready .any ops listed := mem_ready.2 ⟨hiu.2, ops[i], Array.getElem?_eq_getElem hisz, fun e he hb => ?_⟩
    · rw [h0] at this; cases this
    · have hlt := H.head.edge i _ hiu.1 (Array.getElem?_eq_getElem hisz) e he hb
      cases hl : listed.getD e.on false with
      | true => rfl
      | false =>
        have := hmin e.on (mem_unl.2 ⟨by omega, getD_in (by rw [inv.size]; omega) hl⟩)
        omega

/-- The walk in the order of the text, over the operations themselves (acts: the numbers of those that change the world). -/
def SeqY (P : Program) (ops : Array Oper) (S : World → Prop) (acts : List Nat) (Fin : Act → World → Prop) : Nat → List Oper → Act → World → Prop
  | _, [], a, w => Fin a w
  | k, o :: rest, a, w => SpecX P ops S (fun i => acts.contains i) k o a w fun u w' => SeqY P ops S acts Fin (k + 1) rest (a.put o.dst u) w'
theorem SpecX.mono {i : Nat} {o : Oper} {a : Act} {w : World} {nx nx' : Value → World → Prop} (h : SpecX P ops S K i o a w nx) (hn : ∀ u w', nx u w' → nx' u w') : SpecX P ops S K i o a w nx' := by
  unfold SpecX at *
  split
  · rename_i hw
    rw [if_pos hw] at h
    cases hK : K i with
    | true => rw [hK] at h; exact h.mono fun u w' hu => ⟨hu.1, hn _ _ hu.2⟩
    | false => rw [hK] at h; exact ⟨h.choose, h.choose_spec.1, hn _ _ h.choose_spec.2⟩
  · rename_i hw
    rw [if_neg hw] at h
    exact hn _ _ h
theorem SeqY.seq {acts : List Nat} : ∀ (l : List Oper) (k : Nat) (a : Act) (w : World), (∀ j, j < l.length → l[j]? = ops[k + j]?) → SeqY P ops S acts Fin k l a w → SeqX P ops S (fun i => acts.contains i) Fin (List.range' k l.length) a w
  | [], k, a, w, _, h => h
  | o :: l, k, a, w, hl, h => by
    rw [List.length_cons, List.range'_succ]
    refine ⟨o, by simpa using (hl 0 (by simp)).symm, SpecX.mono h fun u w' hu => ?_⟩
    exact SeqY.seq l (k + 1) _ _ (fun j hj => by have := hl (j + 1) (by simp; omega); simpa [Nat.add_assoc, Nat.add_comm 1 j] using this) hu
def chainB (ops : Array Oper) (acts : List Nat) (n : Nat) : Bool :=
  chainOkB ops (fun i => acts.contains i) n && Region.seqB .any ops (ops.size - n) n (canon n (ops.size - n)) && (decide (n = ops.size) || (decide (n < ops.size) && Region.sinkB .any ops n && Region.chainB .any ops n))
theorem wp_region_chain {id : Nat} {Q : Exit → Act → World → Prop} {a : Act} {w : World} {l : List Oper} (n : Nat) (acts : List Nat) (S : World → Prop) (hm : P.follows .mixedOrders = true)
    (hB : chainB l.toArray acts n = true) (h0 : S w.drew)
    (h : SeqY P l.toArray S acts (fun a' w' => wpList P l.toArray Q (l.drop n) a' w') 0 (l.take n) a w.drew) : (Code.region id l.toArray true).wp P Q a w := by
  simp only [chainB, Bool.and_eq_true, Bool.or_eq_true, decide_eq_true_eq] at hB
  obtain ⟨⟨hH, hS⟩, hE⟩ := hB
  have H := ChainOk.of hH
  have hle : n ≤ l.length := by simpa using H.head.le
  have htl : (l.take n).length = n := by simp; omega
  refine wp_region_any hm ?_
  have inv0 : HeadInv .any l.toArray n (Array.replicate l.toArray.size false) :=
    ⟨by simp, fun j oj _ hl => (by rw [getD_replicate_false] at hl; cases hl), fun t _ ht => getD_in (by simpa using ht) (getD_replicate_false _ _)⟩
  have hu : unl n (Array.replicate l.toArray.size false) = List.range n := by
    unfold unl
    refine List.filter_eq_self.2 fun i hi => ?_
    rw [getD_in (by simp; have := List.mem_range.1 hi; omega) (getD_replicate_false _ _)]
    rfl
  have h' := SeqY.seq (l.take n) 0 a w.drew (fun j hj => by rw [htl] at hj; simp [hj]) h
  rw [htl, ← List.range_eq_range'] at h'
  have := chain_any H (Q := Q) (tail := l.drop n) (fun _ _ _ h => h) (fun listed inv i hi hun j hj => ?_) (fun listed inv hall a' w' hw => ?_) n _ a w.drew (by rw [hu]; simp) inv0 (by rw [hu]; exact h') h0
  · rw [show n + (l.drop n).length = l.toArray.size by simp; omega] at this
    exact this
  · rcases hE with hE | ⟨⟨hn, hs⟩, hc⟩
    · obtain ⟨_, oj, hoj, _⟩ := mem_ready.1 hj
      rw [hE]
      exact (Array.getElem?_eq_some_iff.1 hoj).1
    · rcases Nat.lt_or_ge j n with h1 | h1
      · exact h1
      · exact absurd hj (tail_waits hs hc hn inv _ i rfl hi hun j h1)
  · rw [canon_of H.head.le inv hall]
    refine wpAny_of_seq (l.drop n) n _ a' w' (fun j => by simp [List.getElem?_drop]) ?_ hw
    rw [show (l.drop n).length = l.toArray.size - n by simp]
    exact hS
end
/-! ### The steps of a walk -/
section
variable {P : Program} {ops : Array Oper} {S : World → Prop} {acts : List Nat} {Fin : Act → World → Prop} {k : Nat} {o : Oper} {rest : List Oper} {a : Act} {w : World}
theorem SeqY.nil (h : Fin a w) : SeqY P ops S acts Fin k [] a w := h
theorem SeqY.val {v : Value} (hK : acts.contains k = false) (hw : Region.wanted o (yielded ops a.tmps) = true) (h : ∀ w, S w → (execOp a.eval o).run P w = .ok (.value v) w)
    (hn : SeqY P ops S acts Fin (k + 1) rest (a.put o.dst v) w) : SeqY P ops S acts Fin k (o :: rest) a w := by
  show SpecX _ _ _ _ _ _ _ _ _
  unfold SpecX
  rw [if_pos hw]
  simp only [hK]
  exact ⟨v, h, hn⟩
theorem SeqY.skip (hw : Region.wanted o (yielded ops a.tmps) = false) (hn : SeqY P ops S acts Fin (k + 1) rest (a.put o.dst undef) w) : SeqY P ops S acts Fin k (o :: rest) a w := by
  show SpecX _ _ _ _ _ _ _ _ _
  unfold SpecX
  rw [if_neg (by rw [hw]; simp)]
  exact hn
theorem Res.of0 {w : World} {R : World → Prop} (hd : o.dst = none) (h : o.wp P a w (fun a' w' => a' = a ∧ R w') (fun _ _ _ => False)) : Res P o a w fun _ w' => R w' := by
  unfold Oper.wp at h
  unfold Res
  generalize (execOp a.eval o).run P w = r at *
  cases r with
  | ok x w' =>
    cases x <;> simp only [Oper.upon] at h ⊢
    case value u => exact h.2
    case skip => exact h.2
    case defer dd =>
      have := congrArg (fun x => x.defers.length) h.1
      rw [hd] at this
      simp [Act.put] at this
    case enter f args =>
      refine Calls.mono h fun e w'' he => ?_
      cases e with
      | returned u => exact he.2
      | panicked c => exact he.elim
      | outgrown => obtain ⟨_, _, h⟩ := he; exact h
    case row row args => exact Rows.mono h fun u w'' hh => hh.2
  | halt x w' => cases x <;> exact h
theorem SeqY.act {d : Tmp} (hK : acts.contains k = true) (hd : o.dst = some d) (hs : decide (d < a.tmps.size) = true) (hw : Region.wanted o (yielded ops a.tmps) = true)
    (h : ∀ K' : Act → World → Prop, Hid (∀ u w', S w' → SeqY P ops S acts Fin (k + 1) rest (a.put o.dst u) w' → K' (a.put o.dst u) w') → o.wp P a w K' (fun _ _ _ => False)) : SeqY P ops S acts Fin k (o :: rest) a w := by
  show SpecX _ _ _ _ _ _ _ _ _
  unfold SpecX
  rw [if_pos hw]
  simp only [hK]
  exact Res.of hd (of_decide_eq_true hs) (h _ (fun u w' h1 h2 => ⟨u, rfl, h1, h2⟩))
theorem SeqY.act0 (hK : acts.contains k = true) (hd : o.dst = none) (hw : Region.wanted o (yielded ops a.tmps) = true)
    (h : ∀ K' : Act → World → Prop, Hid (∀ w', S w' → SeqY P ops S acts Fin (k + 1) rest a w' → K' a w') → o.wp P a w K' (fun _ _ _ => False)) : SeqY P ops S acts Fin k (o :: rest) a w := by
  show SpecX _ _ _ _ _ _ _ _ _
  unfold SpecX
  rw [if_pos hw]
  simp only [hK]
  have e : ∀ u, a.put o.dst u = a := fun u => by rw [hd]; rfl
  simp only [e]
  exact Res.of0 hd (h _ (fun w' h1 h2 => ⟨rfl, h1, h2⟩))
end
end Go.Proofs.Ytaopjdjbpamhhaa
/- Proved: a store over an element of a row of the call's own. No program is named. No condition. -/
namespace Go.Proofs.Ytaopjdjbpamhhaa
open Go Go.RowKit
set_option linter.unusedVariables false
set_option linter.unusedSimpArgs false
/-- Cells laid over others from a place on. -/
def putCells (cur : Array Value) : Nat → List Value → Array Value
  | _, [] => cur
  | o, c :: cs => putCells (cur.setIfInBounds o c) (o + 1) cs
theorem putCells_size : ∀ (cs : List Value) (cur : Array Value) (o : Nat), (putCells cur o cs).size = cur.size
  | [], _, _ => rfl
  | c :: cs, cur, o => by rw [putCells, putCells_size cs]; simp
theorem putCells_get : ∀ (cs : List Value) (cur : Array Value) (o j : Nat), o + cs.length ≤ cur.size → (putCells cur o cs)[j]? = if o ≤ j ∧ j < o + cs.length then cs[j - o]? else cur[j]?
  | [], cur, o, j, _ => by rw [putCells, if_neg (by simp only [List.length_nil]; omega)]
  | c :: cs, cur, o, j, h => by
    simp only [List.length_cons] at h
    rw [putCells, putCells_get cs _ _ _ (by simp; omega)]
    by_cases h1 : o + 1 ≤ j ∧ j < o + 1 + cs.length
    · rw [if_pos h1, if_pos (by simp only [List.length_cons]; omega)]
      rw [show j - o = (j - (o + 1)) + 1 by omega, List.getElem?_cons_succ]
    · rw [if_neg h1]
      by_cases h2 : j = o
      · subst h2
        rw [if_pos (by simp only [List.length_cons]; omega), Nat.sub_self, List.getElem?_cons_zero]
        rw [Array.getElem?_setIfInBounds_self, if_pos (by omega)]
      · rw [if_neg (by simp only [List.length_cons]; omega), Array.getElem?_setIfInBounds_ne (by omega)]
section
variable {α : Type} {E : El α} {D D' : Nat → Prop} {w w' : World} {v : Value} {l : List α} {e : TypeId} {B : Nat}
theorem Cells.set {cs : List Value} {y : α} : ∀ {l : List α} {xs : List Value} {i : Nat}, Cells E D w xs l → E.R D w cs y → i < l.length → Cells E D w (xs.take (i * E.k) ++ cs ++ xs.drop (i * E.k + E.k)) (l.set i y)
  | x :: l, _, 0, ⟨ds, ys, h1, h2, h3⟩, hy, _ => by
    have hl := E.len h2
    refine ⟨cs, ys, ?_, hy, h3⟩
    rw [h1, Nat.zero_mul, Nat.zero_add, List.take_zero, List.nil_append, ← hl, List.drop_left]
  | x :: l, _, i + 1, ⟨ds, ys, h1, h2, h3⟩, hy, hi => by
    have hl := E.len h2
    have ih := Cells.set (i := i) h3 hy (by simpa using hi)
    refine ⟨ds, _, ?_, h2, ih⟩
    rw [h1, show (i + 1) * E.k = ds.length + i * E.k by rw [hl, Nat.add_mul]; omega, List.take_length_add_append, Nat.add_assoc, List.drop_length_add_append]
    simp only [List.append_assoc]
/-- An element is written anew. -/
theorem Own.setc {cs : List Value} {y : α} {i : Nat} (h : Own e E D B w v l) (hi : i < l.length) {g : Nat} (hg : v.ownBlock = some g) (hy : E.R D' w' cs y) (hD' : ∀ b, D' b → b < w'.heap.size → D b ∧ b ≠ g) (hk : Kept (fun b => b = g) w w')
    (hc : ∀ cur, w.heap[g]? = some (.cells cur e) → w'.heap[g]? = some (.cells (putCells cur (i * E.k) cs) e)) : Own e E D B w' v (l.set i y) := by
  obtain ⟨hl, D0, h0, xs, ⟨h1, h2⟩, h3⟩ := h
  have hcs := E.len hy
  rcases h2 with ⟨rfl, hn⟩ | ⟨g', cap, cur, rfl, hB, hh, hle, hm, hs, ht⟩
  · cases hg
  · obtain rfl : g' = g := by simpa [Value.ownBlock] using hg
    have hh' := hc cur hh
    have hsz := hk.size
    have hik : i * E.k + E.k ≤ l.length * E.k := by
      rw [← Nat.succ_mul]; exact Nat.mul_le_mul_right _ hi
    have hcap : l.length * E.k ≤ cap * E.k := Nat.mul_le_mul_right _ hle
    refine ⟨by simpa using hl, fun b => D b ∧ b < w'.heap.size ∧ (Value.slice (some ⟨g', 0, none⟩) l.length cap).ownBlock ≠ some b, fun b h => h, xs.take (i * E.k) ++ cs ++ xs.drop (i * E.k + E.k), ⟨?_, .inr ⟨g', cap, _, by rw [List.length_set], hB, hh', by rw [List.length_set]; exact hle, hm, by rw [putCells_size]; exact hs, ?_⟩⟩, ?_⟩
    · simp only [List.length_append, List.length_take, List.length_drop, hcs, h1, List.length_set]
      omega
    · rw [List.length_set]
      have t1 : (xs.take (i * E.k)).length = i * E.k := by rw [List.length_take, h1]; omega
      have t2 : (xs.take (i * E.k) ++ cs).length = i * E.k + E.k := by rw [List.length_append, t1, hcs]
      refine List.ext_getElem? fun j => ?_
      have hx : ∀ k, k < l.length * E.k → xs[k]? = cur[k]? := fun k hk' => by
        rw [← ht, List.getElem?_take, if_pos hk', Array.getElem?_toList]
      rw [List.getElem?_take]
      by_cases hj : j < l.length * E.k
      · rw [if_pos hj, Array.getElem?_toList, putCells_get _ _ _ _ (by rw [hs]; omega), hcs]
        by_cases h4 : j < i * E.k
        · rw [if_neg (by omega), List.append_assoc, List.getElem?_append_left (by rw [t1]; exact h4), List.getElem?_take, if_pos h4, hx j hj]
        · by_cases h5 : j < i * E.k + E.k
          · rw [if_pos ⟨by omega, h5⟩, List.append_assoc, List.getElem?_append_right (by rw [t1]; omega), t1, List.getElem?_append_left (by rw [hcs]; omega)]
          · rw [if_neg (by omega), List.getElem?_append_right (by rw [t2]; omega), t2, List.getElem?_drop, ← hx j hj]
            congr 1
            omega
      · rw [if_neg hj, List.getElem?_eq_none]
        simp only [List.length_append, List.length_take, List.length_drop, hcs, h1]
        omega
    · refine Cells.set (h3.mono fun b hb hlt => ⟨⟨(h0 b hb).1, by omega, (h0 b hb).2.2⟩, hk.block b hlt fun e => (h0 b hb).2.2 (by rw [e]; rfl)⟩) (E.mono (fun b hb hlt => ⟨⟨(hD' b hb hlt).1, hlt, ?_⟩, rfl⟩) hy) hi
      simp only [Value.ownBlock, ne_eq, Option.some.injEq]
      exact fun e => (hD' b hb hlt).2 e.symm
end
end Go.Proofs.Ytaopjdjbpamhhaa
/- Proved: general facts on bytes that may be written over. No condition. -/
namespace Go.Proofs.Ytaopjdjbpamhhaa
open Go Go.RowKit
set_option linter.unusedVariables false
set_option linter.unusedSimpArgs false
/-- Bytes that read as a list and may be written over. -/
def BW (D : Nat → Prop) (w : World) (v : Value) (l : Bts) : Prop := BV D w v l ∧ ∀ b o n c, v = .slice (some ⟨b, o, none⟩) n c → ∀ i, i < l.length → w.frozen? ⟨b, o + i, none⟩ = false
theorem BW.mono {D D' : Nat → Prop} {w w' : World} {v : Value} {l : Bts} (h : BW D w v l) (hw : ∀ b, D b → b < w.heap.size → D' b ∧ w'.heap[b]? = w.heap[b]?) : BW D' w' v l := by
  refine ⟨h.1.mono byteEl_k hw, fun b o n c e i hi => ?_⟩
  obtain ⟨a, c', e', _, _, rd⟩ := h.1
  obtain ⟨b', o', e2, db, hc⟩ := rd.byte hi
  rw [e] at e'
  simp only [Value.slice.injEq] at e'
  rw [← e'.1] at e2
  simp only [Option.some.injEq, Addr.mk.injEq, and_true] at e2
  obtain ⟨rfl, rfl⟩ := e2
  have := h.2 b o n c e i hi
  unfold World.frozen? at this ⊢
  rw [(hw b db (cell_lt hc)).2]
  exact this
theorem BW.nil (D : Nat → Prop) (w : World) : BW D w (.slice none 0 0) [] := ⟨⟨none, 0, rfl, ⟨Nat.le_refl _, fun _ => rfl⟩, by simp, Rd.nil _ _ _ _⟩, fun _ _ _ _ e => by cases e⟩
theorem Own.bw {D : Nat → Prop} {B : Nat} {w : World} {v : Value} {l : Bts} (h : Own 5 byteEl Noneof B w v l) (hD : ∀ b, v.ownBlock = some b → D b) : BW D w v l := by
  refine ⟨h.rd (fun _ h => h.elim) hD, fun b o n c e i hi => ?_⟩
  obtain ⟨_, _, _, xs, ⟨_, h2⟩, _⟩ := h
  rcases h2 with ⟨hh, _⟩ | ⟨g', cap, cur, hv, _, hh, _⟩
  · rw [e] at hh; cases hh
  · rw [hv] at e
    simp only [Value.slice.injEq, Option.some.injEq, Addr.mk.injEq, and_true] at e
    obtain ⟨⟨rfl, rfl⟩, _⟩ := e
    simp [World.frozen?, hh]
end Go.Proofs.Ytaopjdjbpamhhaa
/- Proved: arguments that can be read as data are slices that read as lists; no program is named. No condition. -/
namespace Go.Proofs.Ytaopjdjbpamhhaa
open Go Go.RowKit Go.ChangeShapes Go.WideShapes
set_option linter.unusedVariables false
set_option linter.unusedSimpArgs false
/-- Cells of a type that can be read as data read as an element. -/
def Opens (P : Program) (e : TypeId) {α : Type} (E : El α) : Prop :=
  ∀ (H : Type) (enc : TypeId × Value → H) (w : World) (base : Nat) (spare : Nat → Bool) (held : Bool) (fuel : Nat) (cs : List Value) (x : DataW H × List MemPlace),
    DataW.trod enc P w base spare held fuel e cs = some x → (∀ n ∈ x.1.weights P e, n ≤ reachBytes) → ∃ y, E.R (fun b => b < w.heap.size) w cs y

theorem weightsAll_mem {H : Type} {P : Program} {e : TypeId} : ∀ {l : List (DataW H)} {d : DataW H}, d ∈ l → ∀ n ∈ d.weights P e, n ∈ DataW.weightsAll P e l
  | d0 :: l, d, hd, n, hn => by
    rw [DataW.weightsAll, List.mem_append]
    rcases List.mem_cons.1 hd with rfl | hd
    · exact .inl hn
    · exact .inr (weightsAll_mem hd n hn)
  | [], _, hd, _, _ => by cases hd

section
variable {H : Type} {enc : TypeId × Value → H} {P : Program} {w : World} {base : Nat} {spare : Nat → Bool} {held : Bool} {fuel : Nat} {t e : TypeId} {cs : List Value} {x : DataW H × List MemPlace}
theorem opens_cells {α : Type} [Inhabited α] {E : El α} (hk : 0 < E.k) (hO : Opens P e E) (ht : P.underlying t = some (.slice e)) (hc : P.cellsOf e = E.k) (hb : 1 ≤ P.bytesOf e)
    (h : DataW.trod enc P w base spare held fuel t cs = some x) (hw : ∀ n ∈ x.1.weights P t, n ≤ reachBytes) : ∃ v l, cs = [v] ∧ SV E (fun b => b < w.heap.size) w v l := by
  rcases Deep.open_slice ht h with ⟨rfl, rfl⟩ | ⟨a, len, cap, m, n, D, Pl, rfl, hba, hl, hm, hmm, rfl, hx⟩
  · exact ⟨_, [], rfl, none, 0, rfl, ⟨Nat.le_refl _, fun _ => rfl⟩, by simp, Rd.nil _ _ _ _⟩
  · have hlm : len ≤ m := by rw [hmm]; split <;> omega
    have hlen : len ≤ 140737488355328 := by
      have h1 := hw ((((List.range len).map D).length + ((List.range (m - len)).map fun j => D (len + j)).length) * P.bytesOf e) (by simp only [DataW.weights, ht]; exact List.mem_cons_self)
      simp only [List.length_map, List.length_range] at h1
      have h2 := reachBytes_lt
      have h3 : (len + (m - len)) * 1 ≤ (len + (m - len)) * P.bytesOf e := Nat.mul_le_mul_left _ hb
      omega
    obtain ⟨f, hf⟩ := Deep.choose_lt (n := len) (p := fun i y => ∃ cs', w.cells? base (a.add (i * P.cellsOf e)) (P.cellsOf e) = some cs' ∧ E.R (fun b => b < w.heap.size) w cs' y) (fun i hi => by
      obtain ⟨cs', h1, h2⟩ := hx i (by omega)
      obtain ⟨y, hy⟩ := hO _ _ _ _ _ _ _ _ _ h2 (fun n hn => hw n (by
        simp only [DataW.weights, ht]
        refine List.mem_cons_of_mem _ (List.mem_append.2 (.inl ?_))
        exact weightsAll_mem (List.mem_map.2 ⟨i, by simpa using hi, rfl⟩) n hn))
      exact ⟨y, cs', h1, hy⟩)
    refine ⟨_, (List.range len).map f, rfl, some a, cap, by simp, ⟨by simpa using hl, fun h => by cases h⟩, by simpa using hlen, fun i hi => ?_⟩
    have hi' : i < len := by simpa using hi
    have at0 : ∀ i, i < len → ∃ cs', cs'.length = E.k ∧ (∀ j (hj : j < cs'.length), w.cell? ((a.add (i * E.k)).add j) = some cs'[j]) ∧ E.R (fun b => b < w.heap.size) w cs' (f i) := fun i hi => by
      obtain ⟨cs', h1, h2⟩ := hf i hi
      rw [hc] at h1
      obtain ⟨_, h3, h4⟩ := World.cells?_some h1
      refine ⟨cs', h3, fun j hj => ?_, h2⟩
      rw [h4 j (by omega), List.getElem?_eq_getElem hj]
    obtain ⟨c0, l0, g0, _⟩ := at0 0 (by omega)
    have s0 := g0 0 (by omega)
    rw [Nat.zero_mul, show (a.add 0).add 0 = a by simp [Addr.add]] at s0
    have hsp := World.cell?_spot s0
    obtain ⟨b, o, s⟩ := a
    have hsp : s = none := hsp
    subst hsp
    obtain ⟨cs', l1, g1, r1⟩ := at0 i hi'
    refine ⟨b, o, cs', rfl, cell_lt s0, fun j hj => ?_, by simpa using r1⟩
    have := g1 j hj
    rwa [Addr.add_lit, Addr.add_lit, Nat.add_assoc] at this
end
theorem opens_byte {P : Program} {e : TypeId} (he : P.underlying e = some (.int .u8)) : Opens P e byteEl := by
  intro H enc w base spare held fuel cs x h _
  obtain ⟨n, rfl, _, hw⟩ := DataW.trod_int he h
  have hb : 0 ≤ n ∧ n ≤ 255 := bounds_u8 hw
  refine ⟨UInt8.ofNat n.toNat, ?_⟩
  show [Value.int .u8 n] = [Value.int .u8 _]
  rw [UInt8.toNat_ofNat']
  congr 2
  omega
theorem opens_bytes {P : Program} {t e : TypeId} (ht : P.underlying t = some (.slice e)) (he : P.underlying e = some (.int .u8)) (hc : P.cellsOf e = 1) (hb : 1 ≤ P.bytesOf e) : Opens P t bytesEl := by
  intro H enc w base spare held fuel cs x h hw
  obtain ⟨v, l, rfl, hs⟩ := opens_cells byteEl_k (opens_byte he) ht hc hb h hw
  exact ⟨l, v, rfl, hs⟩
/-- An argument. -/
theorem open_arg {α : Type} [Inhabited α] {E : El α} {P : Program} {H : Type} {enc : TypeId × Value → H} {w : World} {base : Nat} {spare : Nat → Bool} {held : Bool} {t e : TypeId} {v : Value} {d : DataW H} {ps : List MemPlace} {ts : List TypeId} {ds : List (DataW H)} {j : Nat}
    (hk : 0 < E.k) (hO : Opens P e E) (ht : P.underlying t = some (.slice e)) (hc : P.cellsOf e = E.k) (hb : 1 ≤ P.bytesOf e) (h : DataW.Trod enc P w base spare held t v d ps) (hv : v.cells = #[v])
    (hsz : (DataW.weightsEach P ts ds).all (· ≤ reachBytes) = true) (hj : ts[j]? = some t) (hd : ds[j]? = some d) : ∃ l, SV E (fun b => b < w.heap.size) w v l := by
  obtain ⟨fuel, hf⟩ := h
  rw [hv] at hf
  obtain ⟨v', l, hv', hs⟩ := opens_cells hk hO ht hc hb hf (fun n hn => by
    have := List.all_eq_true.1 hsz n (DataW.weights_mem_each hj hd n hn)
    simpa using this)
  obtain rfl : v = v' := by simpa using hv'
  exact ⟨l, hs⟩
end Go.Proofs.Ytaopjdjbpamhhaa
