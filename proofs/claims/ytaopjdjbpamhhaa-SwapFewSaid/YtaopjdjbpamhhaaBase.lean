/- Proved: general facts on worlds that change only in some blocks, on slices that read as lists, and on bytes; no program is named. No condition. -/
import Derived.WalkKit
import Derived.WalkSpells
import Derived.WalkLawsBesides
import Derived.BigQuiet
import Derived.Deep.QuietTactic
import Derived.Deep.LoopGhost
import Derived.Below
import Derived.Lib.Hide
import Derived.IntWalk
import Derived.Laws.AppendOwn
import Derived.Laws.OwnMore
namespace Go.Proofs.Ytaopjdjbpamhhaa
open Go Go.RowKit
set_option linter.unusedVariables false
set_option linter.unusedSimpArgs false

/-- The bytes of a slice. -/
abbrev Bts := List UInt8

theorem ret_val {v v' : Value} (h : v = v') : Ending.returned v = .returned v' := by rw [h]
theorem ret_int {k : IntKind} {a b : Int} (h : a = b) : Ending.returned (.int k a) = .returned (.int k b) := by rw [h]
theorem ret_bool {a b : Bool} (h : a = b) : Ending.returned (.bool a) = .returned (.bool b) := by rw [h]

/-! ### Draws alone -/
def Drew (w w' : World) : Prop := ∃ n, w' = w.drewN n
theorem Drew.refl (w : World) : Drew w w := ⟨0, rfl⟩
theorem Drew.step {w w' : World} {n : Nat} (h : Drew w w') : Drew w (w'.drewN n) := by
  obtain ⟨m, rfl⟩ := h
  exact ⟨m + n, by unfold World.drewN; simp [Nat.add_assoc]⟩
theorem Drew.one {w w' : World} (h : Drew w w') : Drew w w'.drew := Drew.step (n := 1) h
theorem Drew.trans {a b c : World} (h : Drew a b) (k : Drew b c) : Drew a c := by
  obtain ⟨m, rfl⟩ := k
  exact h.step
theorem Drew.heap {w w' : World} (h : Drew w w') : w'.heap = w.heap := by obtain ⟨n, rfl⟩ := h; rfl

theorem Drew.q {P : Program} {f : FuncId} {args : Array Value} {w : World} {n : Nat} {v : Value} (h : Calls P f args (w.drewN n) fun e w' => e = .returned v ∧ Drew (w.drewN n) w') :
    Calls P f args (w.drewN n) fun e w'' => e = .returned v ∧ ∃ m, w'' = w.drewN m := Calls.quiet_of h
theorem Drew.qa {P : Program} {f : FuncId} {args : Array Value} {w : World} {a n : Nat} {v : Value} (h : Calls P f args (w.drewN (a + n)) fun e w' => e = .returned v ∧ Drew (w.drewN (a + n)) w') :
    Calls P f args (w.drewN (a + n)) fun e w'' => e = .returned v ∧ ∃ m, w'' = w.drewN (a + m) :=
  h.mono fun _ _ ⟨he, m, hm⟩ => ⟨he, n + m, by rw [hm, World.drewN_drewN, Nat.add_assoc]⟩

/-! ### Worlds that changed in the blocks S alone -/
structure Kept (S : Nat → Prop) (w w' : World) : Prop where
  os : w'.os = w.os
  tape : w'.tape = w.tape
  output : w'.output = w.output
  size : w.heap.size ≤ w'.heap.size
  block : ∀ k, k < w.heap.size → ¬ S k → w'.heap[k]? = w.heap[k]?
/-- No block that was there. -/
def Noneof : Nat → Prop := fun _ => False
theorem Kept.refl (S : Nat → Prop) (w : World) : Kept S w w := ⟨rfl, rfl, rfl, Nat.le_refl _, fun _ _ _ => rfl⟩
theorem Kept.trans {S T : Nat → Prop} {a b c : World} (h : Kept S a b) (k : Kept T b c) (hT : ∀ n, T n → S n ∨ a.heap.size ≤ n) : Kept S a c :=
  ⟨k.os.trans h.os, k.tape.trans h.tape, k.output.trans h.output, Nat.le_trans h.size k.size, fun i hi hs =>
    (k.block i (Nat.lt_of_lt_of_le hi h.size) (fun ht => (hT i ht).elim hs (by omega))).trans (h.block i hi hs)⟩
theorem Kept.mono {S T : Nat → Prop} {a b : World} (h : Kept S a b) (hT : ∀ n, S n → T n) : Kept T a b :=
  ⟨h.os, h.tape, h.output, h.size, fun i hi hs => h.block i hi fun x => hs (hT i x)⟩
theorem Kept.drewN {S : Nat → Prop} {a w : World} (h : Kept S a w) (n : Nat) : Kept S a (w.drewN n) := ⟨h.os, h.tape, h.output, h.size, h.block⟩
theorem Kept.drew {S : Nat → Prop} {a w : World} (h : Kept S a w) : Kept S a w.drew := ⟨h.os, h.tape, h.output, h.size, h.block⟩
theorem Kept.drewn {S : Nat → Prop} {a w w' : World} (h : Kept S a w) (k : Drew w w') : Kept S a w' := by obtain ⟨n, rfl⟩ := k; exact h.drewN n
theorem Kept.alloc {S : Nat → Prop} {a w : World} (h : Kept S a w) (o : Obj) : Kept S a (w.alloc o) :=
  h.trans (T := Noneof) ⟨rfl, rfl, rfl, by simp, fun k hk _ => Below.heap_alloc _ _ _ hk⟩ (fun _ => False.elim)
theorem Kept.setCell {S : Nat → Prop} {a w : World} (h : Kept S a w) {p : Addr} (hp : S p.block ∨ a.heap.size ≤ p.block) (u : Value) : Kept S a (w.setCell p u) :=
  h.trans (T := fun k => k = p.block) ⟨rfl, rfl, rfl, by simp [World.setCell], fun k _ hn => Below.heap_setCell _ _ _ _ hn⟩ (fun _ e => e ▸ hp)
theorem Kept.grown {S : Nat → Prop} {a w w' : World} {row : Option Nat} (h : Kept S a w) (hg : w.grownBy w' row) (hr : ∀ k, row = some k → S k ∨ a.heap.size ≤ k) : Kept S a w' :=
  h.trans (T := fun k => row = some k) ⟨hg.os, hg.tape, hg.output, hg.size, fun k hk hn => hg.block k hk fun e => hn e.symm⟩ hr
theorem Kept.below {S : Nat → Prop} {w w' : World} {B : Nat} (h : Kept S w w') (hB : B ≤ w.heap.size) (hS : ∀ k, S k → B ≤ k) : Below B w w' :=
  ⟨h.os, h.tape, h.output, h.size, fun k hk => h.block k (by omega) fun hs => by have := hS k hs; omega⟩
theorem Kept.of_below {w w' : World} (h : Below w.heap.size w w') (S : Nat → Prop) : Kept S w w' := ⟨h.os, h.tape, h.output, h.size, fun k hk _ => h.block k hk⟩
theorem Kept.of_grown {w w' : World} {row : Option Nat} (hg : w.grownBy w' row) : Kept (fun k => row = some k) w w' := (Kept.refl _ w).grown hg fun _ h => .inl h
theorem Kept.cell {S : Nat → Prop} {w w' : World} (h : Kept S w w') {p : Addr} {v : Value} (hn : ¬ S p.block) (hc : w.cell? p = some v) : w'.cell? p = some v := by
  have hb : p.block < w.heap.size := by
    rcases Nat.lt_or_ge p.block w.heap.size with hb | hb
    · exact hb
    · simp [World.cell?, Array.getElem?_eq_none hb] at hc
  rw [World.cell?_of_block (h.block _ hb hn), hc]
theorem Kept.obj {S : Nat → Prop} {w w' : World} (h : Kept S w w') {p : Nat} {o : Obj} (hn : ¬ S p) (hc : w.heap[p]? = some o) : w'.heap[p]? = some o := by
  rw [h.block p (by obtain ⟨x, _⟩ := Array.getElem?_eq_some_iff.1 hc; exact x) hn, hc]
theorem block_lt {w : World} {p : Nat} {o : Obj} (hc : w.heap[p]? = some o) : p < w.heap.size := (Array.getElem?_eq_some_iff.1 hc).1
theorem cell_lt {w : World} {p : Addr} {v : Value} (hc : w.cell? p = some v) : p.block < w.heap.size := by
  rcases Nat.lt_or_ge p.block w.heap.size with hb | hb
  · exact hb
  · simp [World.cell?, Array.getElem?_eq_none hb] at hc

/-! ### Slices that read as lists -/
/-- How an element reads: its number of cells, and what they say; what they lead to lies in the blocks D. -/
structure El (α : Type) where
  k : Nat
  R : (Nat → Prop) → World → List Value → α → Prop
  mono : ∀ {D D' : Nat → Prop} {w w' : World} {cs : List Value} {x : α}, (∀ b, D b → b < w.heap.size → D' b ∧ w'.heap[b]? = w.heap[b]?) → R D w cs x → R D' w' cs x
  len : ∀ {D : Nat → Prop} {w : World} {cs : List Value} {x : α}, R D w cs x → cs.length = k
  one : ∀ {D : Nat → Prop} {w : World} {cs : List Value} {x : α}, R D w cs x → ∀ u ∈ cs, u.oneCell' = true
/-- From an address on lie the elements l. -/
def Rd {α : Type} (E : El α) (D : Nat → Prop) (w : World) (a : Option Addr) (l : List α) : Prop :=
  ∀ (i : Nat) (h : i < l.length), ∃ b o cs, a = some ⟨b, o, none⟩ ∧ D b ∧ (∀ (j : Nat) (hj : j < cs.length), w.cell? ⟨b, o + (i * E.k + j), none⟩ = some cs[j]) ∧ E.R D w cs l[i]
theorem Rd.nil {α : Type} (E : El α) (D : Nat → Prop) (w : World) (a : Option Addr) : Rd E D w a [] := fun _ h => absurd h (by simp)
section
variable {α : Type} {E : El α} {D D' S : Nat → Prop} {w w' : World} {a : Option Addr} {l : List α} {v : Value}
theorem Rd.mono (hk : 0 < E.k) (h : Rd E D w a l) (hw : ∀ b, D b → b < w.heap.size → D' b ∧ w'.heap[b]? = w.heap[b]?) : Rd E D' w' a l := by
  intro i hi
  obtain ⟨b, o, cs, rfl, hb, hc, hr⟩ := h i hi
  have hlt := cell_lt (hc 0 (by rw [E.len hr]; exact hk))
  refine ⟨b, o, cs, rfl, (hw b hb hlt).1, fun j hj => ?_, E.mono hw hr⟩
  rw [World.cell?_of_block (hw b hb hlt).2, hc j hj]
/-- A slice's value reads as the list. -/
def SV (E : El α) (D : Nat → Prop) (w : World) (v : Value) (l : List α) : Prop :=
  ∃ a c, v = .slice a l.length c ∧ (l.length ≤ c ∧ (a = none → c = 0)) ∧ l.length ≤ 140737488355328 ∧ Rd E D w a l
theorem SV.mono (hk : 0 < E.k) (h : SV E D w v l) (hw : ∀ b, D b → b < w.heap.size → D' b ∧ w'.heap[b]? = w.heap[b]?) : SV E D' w' v l := by
  obtain ⟨a, c, h1, h2, h3, h4⟩ := h
  exact ⟨a, c, h1, h2, h3, h4.mono hk hw⟩
end
def byteEl : El UInt8 where
  k := 1
  R := fun _ _ cs x => cs = [.int .u8 ((x.toNat : Nat) : Int)]
  mono := fun _ h => h
  len := fun h => by rw [h]; rfl
  one := fun h u hu => by rw [h] at hu; exact (by simpa using hu : u = _) ▸ rfl
abbrev BV := SV byteEl
theorem byteEl_k : 0 < byteEl.k := by decide
theorem BV.cell1 {D : Nat → Prop} {w : World} {v : Value} {l : Bts} (h : BV D w v l) : v.oneCell' = true := by obtain ⟨a, c, rfl, _⟩ := h; rfl
/-- A cell that holds a slice of bytes. -/
def bytesEl : El Bts where
  k := 1
  R := fun D w cs x => ∃ v, cs = [v] ∧ BV D w v x
  mono := fun hw ⟨v, h1, h2⟩ => ⟨v, h1, h2.mono byteEl_k hw⟩
  len := fun ⟨v, h1, _⟩ => by rw [h1]; rfl
  one := fun ⟨v, h1, h2⟩ u hu => by rw [h1] at hu; exact (by simpa using hu : u = v) ▸ h2.cell1
/-- A pair of two slices of bytes. -/
def pairEl : El (Bts × Bts) where
  k := 2
  R := fun D w cs x => ∃ u v, cs = [u, v] ∧ BV D w u x.1 ∧ BV D w v x.2
  mono := fun hw ⟨u, v, h1, h2, h3⟩ => ⟨u, v, h1, h2.mono byteEl_k hw, h3.mono byteEl_k hw⟩
  len := fun ⟨u, v, h1, _⟩ => by rw [h1]; rfl
  one := fun ⟨u, v, h1, h2, h3⟩ x hx => by
    rw [h1] at hx
    rcases List.mem_cons.1 hx with rfl | hx
    · exact h2.cell1
    · obtain rfl : x = v := by simpa using hx
      exact h3.cell1
theorem pairEl_k : 0 < pairEl.k := by decide
theorem bytesEl_k : 0 < bytesEl.k := by decide
section
variable {α : Type} {E : El α} {D D' S : Nat → Prop} {w w' : World} {a : Option Addr} {l : List α} {v : Value}
theorem SV.kept (hk : 0 < E.k) (h : SV E D w v l) (kw : Kept S w w') (hD : ∀ b, D b → b < w.heap.size → ¬ S b) : SV E D w' v l :=
  h.mono hk fun b hb hlt => ⟨hb, kw.block b hlt (hD b hb hlt)⟩
theorem Rd.kept (hk : 0 < E.k) (h : Rd E D w a l) (kw : Kept S w w') (hD : ∀ b, D b → b < w.heap.size → ¬ S b) : Rd E D w' a l :=
  h.mono hk fun b hb hlt => ⟨hb, kw.block b hlt (hD b hb hlt)⟩
theorem SV.wide (hk : 0 < E.k) (h : SV E D w v l) (hD : ∀ b, D b → b < w.heap.size → D' b) : SV E D' w v l := h.mono hk fun b hb hlt => ⟨hD b hb hlt, rfl⟩
theorem Rd.wide (hk : 0 < E.k) (h : Rd E D w a l) (hD : ∀ b, D b → b < w.heap.size → D' b) : Rd E D' w a l := h.mono hk fun b hb hlt => ⟨hD b hb hlt, rfl⟩
theorem Rd.at (h : Rd E D w a l) (e : w'.heap = w.heap) : Rd E D w' a l := by
  intro i hi
  obtain ⟨b, o, cs, h1, h2, h3, h4⟩ := h i hi
  exact ⟨b, o, cs, h1, h2, fun j hj => by rw [World.cell?_of_block (w := w) (by rw [e])]; exact h3 j hj, E.mono (fun b hb _ => ⟨hb, by rw [e]⟩) h4⟩
theorem SV.at (h : SV E D w v l) (e : w'.heap = w.heap) : SV E D w' v l := by
  obtain ⟨a, c, h1, h2, h3, h4⟩ := h
  exact ⟨a, c, h1, h2, h3, h4.at e⟩
end
/-- One byte. -/
theorem Rd.byte {D : Nat → Prop} {w : World} {a : Option Addr} {l : Bts} (h : Rd byteEl D w a l) {i : Nat} (hi : i < l.length) : ∃ b o, a = some ⟨b, o, none⟩ ∧ D b ∧ w.cell? ⟨b, o + i, none⟩ = some (.int .u8 ((l[i].toNat : Nat) : Int)) := by
  obtain ⟨b, o, cs, h1, h2, h4, h5⟩ := h i hi
  have h5 : cs = [.int .u8 ((l[i].toNat : Nat) : Int)] := h5
  subst h5
  have := h4 0 (by simp)
  exact ⟨b, o, h1, h2, by simpa [byteEl] using this⟩
theorem u8_lt (x : UInt8) : ((x.toNat : Nat) : Int) < 256 := by have := x.toNat_lt; omega
theorem u8_eq {x y : UInt8} (h : x = y) : (((x.toNat : Nat) : Int) != ((y.toNat : Nat) : Int)) = false := by rw [h]; simp
theorem u8_ne {x y : UInt8} (h : ¬ x = y) : (((x.toNat : Nat) : Int) != ((y.toNat : Nat) : Int)) = true := by
  rw [bne_iff_ne]
  intro e
  exact h (UInt8.toNat_inj.1 (by exact_mod_cast e))
/-- One pair. -/
theorem Rd.pair {D : Nat → Prop} {w : World} {a : Option Addr} {l : List (Bts × Bts)} (h : Rd pairEl D w a l) {i : Nat} (hi : i < l.length) : ∃ b o u v, a = some ⟨b, o, none⟩ ∧ D b ∧ w.cell? ⟨b, o + i * 2, none⟩ = some u ∧ w.cell? ⟨b, o + i * 2 + 1, none⟩ = some v ∧ BV D w u l[i].1 ∧ BV D w v l[i].2 := by
  obtain ⟨b, o, cs, h1, h2, h4, u, v, h5, h6, h7⟩ := h i hi
  subst h5
  have e0 := h4 0 (by simp)
  have e1 := h4 1 (by simp)
  exact ⟨b, o, u, v, h1, h2, by simpa [pairEl] using e0, by simpa [pairEl, Nat.add_assoc] using e1, h6, h7⟩

/-! ### How bytes stand to each other -/
/-- Below 0, 0 or above 0 as the first bytes stand ahead of the others, are the same, or stand behind them. -/
def cmpB : Bts → Bts → Int
  | [], b => 0 - b.length
  | _ :: t, [] => t.length + 1
  | x :: t, y :: u => if x = y then cmpB t u else (x.toNat : Int) - y.toNat
theorem cmpB_step {a b : Bts} {k : Nat} (h1 : k < a.length) (h2 : k < b.length) : cmpB (a.drop k) (b.drop k) = if a[k] = b[k] then cmpB (a.drop (k + 1)) (b.drop (k + 1)) else (a[k].toNat : Int) - b[k].toNat := by
  rw [List.drop_eq_getElem_cons h1, List.drop_eq_getElem_cons h2, cmpB]
theorem cmpB_end {a b : Bts} {k : Nat} (h1 : k ≤ a.length) (h2 : k ≤ b.length) (h : ¬ (k < a.length ∧ k < b.length)) : cmpB (a.drop k) (b.drop k) = (a.length : Int) - b.length := by
  rcases Nat.lt_or_ge k a.length with h3 | h3
  · have h4 : b.drop k = [] := List.drop_eq_nil_of_le (by omega)
    rw [List.drop_eq_getElem_cons h3, h4, cmpB, List.length_drop]; omega
  · have h4 : a.drop k = [] := List.drop_eq_nil_of_le (by omega)
    rw [h4, cmpB, List.length_drop]; omega
end Go.Proofs.Ytaopjdjbpamhhaa
