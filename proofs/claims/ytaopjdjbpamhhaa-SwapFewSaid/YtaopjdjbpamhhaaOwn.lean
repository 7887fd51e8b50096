/- Proved: laws of append, make and of rows of the call's own, over slices that read as lists. No program is named. No condition. -/
import Derived.Test.YtaopjdjbpamhhaaBase
import Derived.Laws.AppendOwnNone
import Derived.OwnWalk
import Derived.Laws.CopyOwn
import Derived.Laws.IdiomRangeMap
namespace Go.Proofs.Ytaopjdjbpamhhaa
open Go Go.RowKit
set_option linter.unusedVariables false
set_option linter.unusedSimpArgs false

/-- A slice type t of elements e of so many cells and bytes. -/
structure SlT (P : Program) (t e : TypeId) (size bytes : Nat) (z : Value) : Prop where
  ht : P.underlying t = some (.slice e)
  hi : ∃ i, P.info? e = some i ∧ i.zero = some z ∧ i.size = size ∧ i.bytes = bytes ∧ z.cells.size = size
  pos : 0 < size
theorem SlT.of {P : Program} {t e : TypeId} {size bytes : Nat} {z : Value} (ht : P.underlying t = some (.slice e)) (hi : (P.info? e).map (fun i => (i.zero, i.size, i.bytes)) = some (some z, size, bytes)) (hz : z.cells.size = size) (hp : 0 < size) : SlT P t e size bytes z := by
  obtain ⟨i, h, hzz⟩ := Option.map_eq_some_iff.1 hi
  simp only [Prod.mk.injEq] at hzz
  exact ⟨ht, ⟨i, h, hzz.1, hzz.2.1, hzz.2.2, hz⟩, hp⟩

/-- Cells, one behind another, that read as elements. -/
def Cells {α : Type} (E : El α) (D : Nat → Prop) (w : World) : List Value → List α → Prop
  | xs, [] => xs = []
  | xs, x :: l => ∃ cs ys, xs = cs ++ ys ∧ E.R D w cs x ∧ Cells E D w ys l
section
variable {α : Type} {E : El α} {D D' : Nat → Prop} {w w' : World} {xs ys : List Value} {l m : List α}
theorem Cells.length : ∀ {l : List α} {xs : List Value}, Cells E D w xs l → xs.length = l.length * E.k
  | [], _, h => by rw [show _ = [] from h]; simp
  | x :: l, _, ⟨cs, ys, h1, h2, h3⟩ => by rw [h1, List.length_append, E.len h2, Cells.length h3, List.length_cons, Nat.add_mul]; omega
theorem Cells.one : ∀ {l : List α} {xs : List Value}, Cells E D w xs l → ∀ u ∈ xs, u.oneCell' = true
  | [], _, h => by rw [show _ = [] from h]; simp
  | x :: l, _, ⟨cs, ys, h1, h2, h3⟩ => by
    intro u hu
    rw [h1] at hu
    rcases List.mem_append.1 hu with hu | hu
    · exact E.one h2 u hu
    · exact Cells.one h3 u hu
theorem Cells.mono (hw : ∀ b, D b → b < w.heap.size → D' b ∧ w'.heap[b]? = w.heap[b]?) : ∀ {l : List α} {xs : List Value}, Cells E D w xs l → Cells E D' w' xs l
  | [], _, h => h
  | x :: l, _, ⟨cs, ys, h1, h2, h3⟩ => ⟨cs, ys, h1, E.mono hw h2, Cells.mono hw h3⟩
theorem Cells.append : ∀ {l : List α} {xs : List Value}, Cells E D w xs l → Cells E D w ys m → Cells E D w (xs ++ ys) (l ++ m)
  | [], _, h, k => by rw [show _ = [] from h]; exact k
  | x :: l, _, ⟨cs, zs, h1, h2, h3⟩, k => ⟨cs, zs ++ ys, by rw [h1, List.append_assoc], h2, Cells.append h3 k⟩
theorem Cells.single {x : α} {cs : List Value} (h : E.R D w cs x) : Cells E D w cs [x] := ⟨cs, [], by simp, h, rfl⟩
theorem Cells.at_ : ∀ {l : List α} {xs : List Value}, Cells E D w xs l → ∀ (i : Nat) (h : i < l.length), ∃ cs, E.R D w cs l[i] ∧ ∀ (j : Nat) (hj : j < cs.length), xs[i * E.k + j]? = some cs[j]
  | x :: l, _, ⟨cs, ys, h1, h2, h3⟩, 0, _ => ⟨cs, h2, fun j hj => by rw [h1, Nat.zero_mul, Nat.zero_add, List.getElem?_append_left hj, List.getElem?_eq_getElem hj]⟩
  | x :: l, _, ⟨cs, ys, h1, h2, h3⟩, i + 1, h => by
    obtain ⟨ds, h4, h5⟩ := Cells.at_ h3 i (by simpa using h)
    refine ⟨ds, h4, fun j hj => ?_⟩
    have hl := E.len h2
    rw [h1, List.getElem?_append_right (by rw [hl, Nat.add_mul]; omega), hl, ← h5 j hj]
    congr 1
    rw [Nat.add_mul]; omega
/-- What lies from an address on, as cells. -/
theorem Rd.cells {a : Option Addr} (h : Rd E D w a l) : ∃ xs, Cells E D w xs l ∧ ∀ j u, xs[j]? = some u → ∃ p, a = some p ∧ w.cell? (p.add j) = some u := by
  induction l generalizing a with
  | nil => exact ⟨[], rfl, fun j u hu => by simp at hu⟩
  | cons x l ih =>
    obtain ⟨b, o, cs, rfl, hb, hc, hr⟩ := h 0 (by simp)
    have hl := E.len hr
    obtain ⟨ys, h1, h2⟩ := ih (a := some ⟨b, o + E.k, none⟩) (fun i hi => by
      obtain ⟨b', o', cs', e1, e2, e3, e4⟩ := h (i + 1) (by simpa using hi)
      simp only [Option.some.injEq, Addr.mk.injEq, and_true] at e1
      obtain ⟨rfl, rfl⟩ := e1
      refine ⟨b, o + E.k, cs', rfl, e2, fun j hj => ?_, by simpa using e4⟩
      have := e3 j hj
      rw [Nat.add_mul] at this
      rw [show o + E.k + (i * E.k + j) = o + (i * E.k + 1 * E.k + j) by omega]
      exact this)
    refine ⟨cs ++ ys, ⟨cs, ys, rfl, hr, h1⟩, fun j u hu => ⟨_, rfl, ?_⟩⟩
    rcases Nat.lt_or_ge j cs.length with hj | hj
    · rw [List.getElem?_append_left hj, List.getElem?_eq_getElem hj] at hu
      have := hc j hj
      rw [Nat.zero_mul, Nat.zero_add] at this
      rw [Addr.add_lit, this, ← Option.some.inj hu]
    · rw [List.getElem?_append_right hj] at hu
      obtain ⟨p, hp, hc'⟩ := h2 _ _ hu
      obtain rfl := Option.some.inj hp
      rw [Addr.add_lit] at hc' ⊢
      rw [show o + j = o + E.k + (j - cs.length) by omega]
      exact hc'
end

theorem Cells.bytes {D D' : Nat → Prop} {w w' : World} : ∀ {l : Bts} {xs : List Value}, Cells byteEl D w xs l → Cells byteEl D' w' xs l
  | [], _, h => h
  | x :: l, _, ⟨cs, ys, h1, h2, h3⟩ => ⟨cs, ys, h1, h2, Cells.bytes h3⟩

theorem SV.take {α : Type} {E : El α} {D : Nat → Prop} {w : World} {a : Option Addr} {c n : Nat} {l : List α} (h : SV E D w (.slice a l.length c) l) (hn : n ≤ l.length) : SV E D w (.slice a n c) (l.take n) := by
  obtain ⟨a', c', h1, h2, h3, h4⟩ := h
  simp only [Value.slice.injEq, true_and] at h1
  obtain ⟨rfl, rfl⟩ := h1
  refine ⟨a, c, by rw [List.length_take, Nat.min_eq_left hn], ⟨by rw [List.length_take]; omega, h2.2⟩, by rw [List.length_take]; omega, fun i hi => ?_⟩
  rw [List.length_take] at hi
  obtain ⟨b, o, cs, r1, r2, r3, r4⟩ := h4 i (by omega)
  exact ⟨b, o, cs, r1, r2, r3, by rw [List.getElem_take]; exact r4⟩
theorem SV.drop {α : Type} {E : El α} {D : Nat → Prop} {w : World} {a : Option Addr} {c n d : Nat} {l : List α} (h : SV E D w (.slice a l.length c) l) (hn : n ≤ l.length) (hd : d = n * E.k) : SV E D w (.slice (if c = n then a else Option.map (fun x => x.add d) a) (l.length - n) (c - n)) (l.drop n) := by
  subst hd
  obtain ⟨a'', c', h1, h2, h3, h4⟩ := h
  simp only [Value.slice.injEq, true_and] at h1
  obtain ⟨rfl, rfl⟩ := h1
  refine ⟨_, c - n, by rw [List.length_drop], ⟨by rw [List.length_drop]; omega, fun h0 => ?_⟩, by rw [List.length_drop]; omega, fun i hi => ?_⟩
  · by_cases hc : c = n
    · omega
    · rw [if_neg hc] at h0
      have := h2.2 (by simpa using h0)
      omega
  rw [List.length_drop] at hi
  obtain ⟨b, o, cs, r1, r2, r3, r4⟩ := h4 (n + i) (by omega)
  subst r1
  refine ⟨b, o + n * E.k, cs, by rw [if_neg (by omega), Option.map_some, Addr.add_lit], r2, fun j hj => ?_, by rw [List.getElem_drop]; exact r4⟩
  rw [← r3 j hj, Nat.add_mul]
  congr 2
  omega
theorem SV.bd {α : Type} {E : El α} {D : Nat → Prop} {w : World} {v : Value} {l : List α} (hk : 0 < E.k) (h : SV E D w v l) : SV E (fun b => D b ∧ b < w.heap.size) w v l :=
  h.mono hk fun b hb hlt => ⟨⟨hb, hlt⟩, rfl⟩

/-- A slice value that is nil, or at the head of a row of the call's own (from block B on), with the elements l; what they lead to lies in blocks D, and not in this row. -/
def Own {α : Type} (e : TypeId) (E : El α) (D : Nat → Prop) (B : Nat) (w : World) (v : Value) (l : List α) : Prop :=
  l.length ≤ 140737488355328 ∧ ∃ D0 : Nat → Prop, (∀ b, D0 b → D b ∧ b < w.heap.size ∧ v.ownBlock ≠ some b) ∧ ∃ xs, w.ownsRow B e E.k v l.length xs ∧ Cells E D0 w xs l
section
variable {α : Type} {E : El α} {D D' S : Nat → Prop} {w w' : World} {v : Value} {l : List α} {e : TypeId} {B : Nat}
theorem Own.nil (e : TypeId) (E : El α) (D : Nat → Prop) (B : Nat) (w : World) : Own e E D B w (.slice none 0 0) [] :=
  ⟨by simp, fun _ => False, fun _ => False.elim, [], World.ownsRow_nil w B e E.k, rfl⟩
theorem Own.lt (h : Own e E D B w v l) : ∀ k, v.ownBlock = some k → B ≤ k ∧ k < w.heap.size := by
  obtain ⟨_, _, _, xs, h1, _⟩ := h
  exact h1.lt
theorem Own.len (h : Own e E D B w v l) : l.length ≤ 140737488355328 := h.1
theorem Own.slice (h : Own e E D B w v l) : ∃ a c, v = .slice a l.length c := by
  obtain ⟨_, _, _, xs, ⟨_, h1⟩, _⟩ := h
  rcases h1 with ⟨rfl, hn⟩ | ⟨g, cap, cur, rfl, _⟩
  · exact ⟨none, 0, by rw [hn]⟩
  · exact ⟨_, _, rfl⟩
theorem Own.slice' (h : Own e E D B w v l) : ∃ a n c, v = .slice a n c := by
  obtain ⟨a, c, h⟩ := h.slice
  exact ⟨a, _, c, h⟩
/-- '[]T{}': a row of no element. -/
theorem Own.lit0 (e : TypeId) (E : El α) (D : Nat → Prop) (w : World) : Own e E D w.heap.size (w.alloc (.cells #[] e)) (.slice (some ⟨w.heap.size, 0, none⟩) 0 0) [] :=
  ⟨by simp, fun _ => False, fun _ => False.elim, [], ⟨by simp, .inr ⟨w.heap.size, 0, #[], rfl, Nat.le_refl _, heap_alloc_new _ _, Nat.le_refl _, by unfold maxLen; omega, by simp, by simp⟩⟩, rfl⟩
/-- It stays where other blocks change. -/
theorem Own.kept (h : Own e E D B w v l) (kw : Kept S w w') (hS : ∀ b, S b → b < w.heap.size → ¬ D b ∧ v.ownBlock ≠ some b) : Own e E D B w' v l := by
  obtain ⟨hl, D0, h0, xs, h1, h2⟩ := h
  have hsz := kw.size
  refine ⟨hl, D0, fun b hb => ⟨(h0 b hb).1, by have := (h0 b hb).2.1; omega, (h0 b hb).2.2⟩, xs, ?_, h2.mono fun b hb hlt => ⟨hb, kw.block b hlt fun hs => (hS b hs hlt).1 (h0 b hb).1⟩⟩
  have hlt := h1.lt
  obtain ⟨h3, h4⟩ := h1
  refine ⟨h3, ?_⟩
  rcases h4 with h4 | ⟨g, cap, cur, rfl, hg, hh, r⟩
  · exact .inl h4
  · refine .inr ⟨g, cap, cur, rfl, hg, ?_, r⟩
    rw [kw.block g (hlt g rfl).2 fun hs => (hS g hs (hlt g rfl).2).2 rfl]
    exact hh
theorem Own.alloc (h : Own e E D B w v l) (o : Obj) : Own e E D B (w.alloc o) v l := h.kept ((Kept.refl Noneof w).alloc o) fun _ h => h.elim
theorem Own.at (h : Own e E D B w v l) (he : w'.heap = w.heap) : Own e E D B w' v l := by
  obtain ⟨hl, D0, h0, xs, h1, h2⟩ := h
  refine ⟨hl, D0, by rw [he]; exact h0, xs, ?_, h2.mono fun b hb _ => ⟨hb, by rw [he]⟩⟩
  unfold World.ownsRow at h1 ⊢
  rw [he]
  exact h1
/-- It reads as its elements. -/
theorem Own.rd (h : Own e E D B w v l) (hD : ∀ b, D b → D' b) (hB : ∀ b, v.ownBlock = some b → D' b) : SV E D' w v l := by
  obtain ⟨hl, D0, h0, xs, h1, h2⟩ := h
  obtain ⟨h3, h4⟩ := h1
  rcases h4 with ⟨rfl, hn⟩ | ⟨g, cap, cur, rfl, hg, hh, hc, hm, hs, ht⟩
  · obtain rfl : l = [] := List.eq_nil_of_length_eq_zero hn
    exact ⟨none, 0, rfl, ⟨by simp, fun _ => rfl⟩, by simp, Rd.nil _ _ _ _⟩
  · refine ⟨_, _, rfl, ⟨hc, fun h => by cases h⟩, hl, fun i hi => ?_⟩
    obtain ⟨cs, h5, h6⟩ := h2.at_ i hi
    refine ⟨g, 0, cs, rfl, hB g rfl, fun j hj => ?_, E.mono (fun b hb _ => ⟨hD b (h0 b hb).1, rfl⟩) h5⟩
    have h7 := h6 j hj
    have hlt := (List.getElem?_eq_some_iff.1 h7).1
    rw [← ht] at h7
    rw [List.getElem?_take, if_pos (by omega), Array.getElem?_toList] at h7
    simp [World.cell?, hh, h7]
/-- Where it was made in the call, it reads as its elements, from the blocks D or new ones. -/
theorem Own.sv (h : Own e E D B w v l) : SV E (fun b => D b ∨ B ≤ b) w v l := h.rd (fun _ h => .inl h) fun b hb => .inr (h.lt b hb).1
theorem Own.wide (h : Own e E D B w v l) (hD : ∀ b, D b → D' b) : Own e E D' B w v l := by
  obtain ⟨hl, D0, h0, r⟩ := h
  exact ⟨hl, D0, fun b hb => ⟨hD b (h0 b hb).1, (h0 b hb).2⟩, r⟩
theorem Own.base {B' : Nat} (h : Own e E D B w v l) (hB : B' ≤ B) : Own e E D B' w v l := by
  obtain ⟨hl, D0, h0, xs, ⟨h1, h2⟩, r⟩ := h
  refine ⟨hl, D0, h0, xs, ⟨h1, ?_⟩, r⟩
  rcases h2 with h2 | ⟨g, cap, cur, h3, h4, h5⟩
  · exact .inl h2
  · exact .inr ⟨g, cap, cur, h3, by omega, h5⟩
end

/-- append to a row of the call's own: and the row is the old one, or a new one. -/
theorem run_app {P : Program} (w : World) (base : Nat) (t ty e : TypeId) (i : TypeInfo) (z : Value) (size bytes : Nat) (ht : P.underlying t = some (.slice e)) (hi : P.info? e = some i) (hz : i.zero = some z)
    (hsize : i.size = size) (hby : i.bytes = bytes) (hzs : z.cells.size = size) (hsz : 0 < size) (v : Value) (n : Nat) (xs : List Value) (hown : w.ownsRow base e size v n xs)
    (a : Addr) (m c : Nat) (news : List Value) (hl : news.length = m * size) (hnews : ∀ j u, news[j]? = some u → w.cell? (a.add j) = some u) (h1 : ∀ u ∈ news, u.oneCell' = true)
    (h63 : n + m ≤ maxLen) (hbytes : (n + m) * bytes ≤ 140737488355328) (hbase : base ≤ w.heap.size) :
    ∃ v' w', (Builtin.append_ #[t, t] ty #[v, .slice (some a) m c]).run P w = .ok v' w' ∧ w'.ownsRow base e size v' (n + m) (xs ++ news) ∧ w.grownBy w' v.ownBlock ∧
      (v' = .slice none 0 0 ↔ v = .slice none 0 0 ∧ m = 0) ∧ ∀ b, v'.ownBlock = some b → v.ownBlock = some b ∨ w.heap.size ≤ b := by
  have hown' := hown
  obtain ⟨hx, h2⟩ := hown
  rcases h2 with ⟨rfl, rfl⟩ | ⟨g, cap, cur, rfl, hbg, hg, hnc, hcm, hcs, htake⟩
  · have hx0 : xs = [] := List.eq_nil_of_length_eq_zero (by simpa using hx)
    subst hx0
    obtain ⟨v', w', k0, k1, k2, k3⟩ := run_append_own (P := P) w w.heap.size t ty e i z size bytes ht hi hz hsize hby hzs hsz _ 0 [] (World.ownsRow_nil w _ e size) a m c news hl hnews h1 h63 hbytes (Nat.le_refl _)
    refine ⟨v', w', k0, ⟨k1.1, ?_⟩, k2, k3, fun b hb => .inr (k1.lt b hb).1⟩
    rcases k1.2 with k | ⟨g, cap, cur, r1, r2, r3⟩
    · exact .inl k
    · exact .inr ⟨g, cap, cur, r1, Nat.le_trans hbase r2, r3⟩
  · by_cases hroom : n + m ≤ cap
    · obtain ⟨w', k0, k1, k2⟩ := run_append_fits (P := P) w base t ty e i size ht hi hsize g n cap xs hown' a m c news hl hnews h1 hroom
      exact ⟨_, w', k0, k1, k2, by simp, fun b hb => .inl hb⟩
    · subst hsize
      subst hby
      have hsmall : n + m ≤ 9223372036854775807 := by simp only [maxLen] at h63; omega
      have holds : ∀ j u, xs[j]? = some u → w.cell? ((⟨g, 0, none⟩ : Addr).add j) = some u := hown'.cells (g := g) rfl
      have hr := run_append_grow (P := P) w t ty e i z ht hi hz ⟨g, 0, none⟩ n cap xs hx holds a m c news hl hnews (by omega) (by omega) (growslice_fits (by omega) hbytes)
      have hge := grownCap_ge w (n + m) cap e
      have hcm' : grownCap w (n + m) cap e ≤ maxLen := grownCap_le_maxLen w (n + m) cap e h63
      refine ⟨_, _, hr, ⟨by rw [List.length_append, hx, hl, Nat.add_mul], .inr ⟨w.heap.size, _, _, rfl, hbase, heap_alloc_new w.drew _, hge, hcm', ?_, ?_⟩⟩, ⟨rfl, rfl, rfl, by simp, fun k hk _ => heap_alloc_old w.drew _ hk⟩, by simp, fun b hb => .inr ?_⟩
      · simp only [Array.size_append, List.size_toArray, size_zeroCells, hzs, hx, hl, ← Nat.add_mul]
        congr 1
        omega
      · simp only [Array.toList_append, List.append_assoc]
        rw [← List.append_assoc, show (n + m) * i.size = (xs ++ news).length by rw [List.length_append, hx, hl, Nat.add_mul]]
        exact List.take_left
      · simp only [Value.ownBlock, Option.some.injEq] at hb
        omega

theorem made_cells (z : Array Value) (hz : 0 < z.size) : ∀ k, (madeCells z (k * z.size)).toList = (List.replicate k z.toList).flatten
  | 0 => by simp [madeCells]
  | k + 1 => by
    rw [List.replicate_succ', List.flatten_append, ← made_cells z hz k, Nat.add_mul, Nat.one_mul]
    simp only [madeCells, Array.toList_map, Array.toList_range, List.range_add, List.map_append, List.map_map, List.flatten_cons, List.flatten_nil, List.append_nil]
    congr 1
    refine List.ext_getElem (by simp) fun i h1 h2 => ?_
    have hi : i < z.size := by simpa using h2
    simp [Nat.mul_add_mod, Nat.mod_eq_of_lt hi, hi, Nat.mul_comm]

section
variable {α : Type} {E : El α} {P : Program} {w : World} {ops : Array Oper} {rest : List Oper} {o : Oper} {a : Act} {Q : Exit → Act → World → Prop}
/-- append of cells that read as elements to a row of the call's own. -/
theorem wp_app {K : Act → World → Prop} (s x : Operand) (t : TypeId) (ho : o.op = .call { callee := .builtin .append, args := #[s, x], argTypes := #[t, t] })
    {e : TypeId} {bytes : Nat} {z : Value} (T : SlT P t e E.k bytes z) {D D' : Nat → Prop} {B : Nat} (v : Value) (l : List α) (hs : a.eval s = v) (hown : Own e E D B w v l)
    (ao : Option Addr) (c : Nat) (m : List α) (hx : a.eval x = .slice ao m.length c) (hc0 : m.length ≤ c) (hnil : ao = none → c = 0) (news : List Value) (hm : Cells E D' w news m) (hnews : ∀ j u, news[j]? = some u → ∃ p, ao = some p ∧ w.cell? (p.add j) = some u)
    (hD : ∀ b, D' b → b < w.heap.size → D b ∧ v.ownBlock ≠ some b) (hbytes : (l.length + m.length) * bytes ≤ 140737488355328) (hb1 : 0 < bytes) (hbase : B ≤ w.heap.size)
    (h : ∀ v' w', Own e E D B w' v' (l ++ m) → Kept (fun k => v.ownBlock = some k) w w' → (∀ b, v'.ownBlock = some b → v.ownBlock = some b ∨ w.heap.size ≤ b) → (v' = .slice none 0 0 ↔ v = .slice none 0 0 ∧ m = []) → K (a.put o.dst v') w') : o.wp P a w K Q := by
  obtain ⟨hl, D0, h0, xs, h1, h2⟩ := hown
  obtain ⟨i, hi, hz, hsize, hby, hzs⟩ := T.hi
  have hlen : l.length + m.length ≤ 140737488355328 := Nat.le_trans (Nat.le_mul_of_pos_right _ hb1) hbytes
  have hcl := hm.length
  cases ao with
  | none =>
    have hc := hnil rfl
    subst hc
    obtain rfl : m = [] := List.eq_nil_of_length_eq_zero (by omega)
    have hrun := run_append_owned_none (P := P) (w := w) B t o.type e i E.k T.ht hi v l.length xs h1
    unfold Oper.wp
    simp only [execOp, ho, resolve, invoke, builtin, Sem.run_bind, Sem.run_pure, Result.andThen_ok, List.map_toArray, List.map_cons, List.map_nil, hs, hx, List.length_nil, hrun]
    refine h v w ?_ (Kept.refl _ _) (fun b hb => .inl hb) (by simp)
    rw [List.append_nil]
    exact ⟨hl, D0, h0, xs, h1, h2⟩
  | some ad =>
    obtain ⟨v', w', k0, k1, k2, k3, hrow⟩ := run_app (P := P) w B t o.type e i z E.k bytes T.ht hi hz hsize hby hzs T.pos v l.length xs h1 ad m.length c news hcl (fun j u hu => by
      obtain ⟨p, hp, hc⟩ := hnews j u hu
      obtain rfl := Option.some.inj hp
      exact hc) hm.one (by unfold maxLen; omega) hbytes hbase
    have hk := Kept.of_grown k2
    have hsz := k2.size
    have hgo : K (a.put o.dst v') w' := by
      refine h v' w' ⟨by rw [List.length_append]; exact hlen, fun b => (D0 b ∨ D' b) ∧ b < w.heap.size, fun b hb => ?_, xs ++ news, by rw [List.length_append]; exact k1, ?_⟩ (hk.mono fun k hk => hk) hrow (by simpa using k3)
      · obtain ⟨hb, hlt⟩ := hb
        have hd : D b ∧ v.ownBlock ≠ some b := hb.elim (fun hb => ⟨(h0 b hb).1, (h0 b hb).2.2⟩) fun hb => hD b hb hlt
        refine ⟨hd.1, by omega, fun he => ?_⟩
        rcases hrow b he with hv | hge
        · exact hd.2 hv
        · omega
      · refine Cells.append (h2.mono fun b hb hlt => ⟨⟨.inl hb, hlt⟩, k2.block b hlt fun e => (h0 b hb).2.2 e.symm⟩) (hm.mono fun b hb hlt => ⟨⟨.inr hb, hlt⟩, k2.block b hlt fun e => (hD b hb hlt).2 e.symm⟩)
    unfold Oper.wp execOp
    simp only [ho, resolve, invoke, builtin, Sem.run_bind, Sem.run_pure, Result.andThen_ok, List.map_toArray, List.map_cons, List.map_nil, hs, hx, k0]
    exact hgo
theorem wl_app (hgd : o.guard = none) (s x : Operand) (t : TypeId) (ho : o.op = .call { callee := .builtin .append, args := #[s, x], argTypes := #[t, t] })
    {e : TypeId} {bytes : Nat} {z : Value} (T : SlT P t e E.k bytes z) {D D' : Nat → Prop} {B : Nat} (v : Value) (l : List α) (hs : a.eval s = v) (hown : Own e E D B w v l)
    (ao : Option Addr) (c : Nat) (m : List α) (hx : a.eval x = .slice ao m.length c) (hc0 : m.length ≤ c) (hnil : ao = none → c = 0) (news : List Value) (hm : Cells E D' w news m) (hnews : ∀ j u, news[j]? = some u → ∃ p, ao = some p ∧ w.cell? (p.add j) = some u)
    (hD : ∀ b, D' b → b < w.heap.size → D b ∧ v.ownBlock ≠ some b) (hbytes : (l.length + m.length) * bytes ≤ 140737488355328) (hb1 : 0 < bytes) (hbase : B ≤ w.heap.size)
    (h : ∀ v' w', Own e E D B w' v' (l ++ m) → Kept (fun k => v.ownBlock = some k) w w' → (∀ b, v'.ownBlock = some b → v.ownBlock = some b ∨ w.heap.size ≤ b) → (v' = .slice none 0 0 ↔ v = .slice none 0 0 ∧ m = []) → wpList P ops Q rest (a.put o.dst v') w') : wpList P ops Q (o :: rest) a w :=
  wpList_plain hgd fun _ hK => wp_app s x t ho T v l hs hown ao c m hx hc0 hnil news hm hnews hD hbytes hb1 hbase fun v' w' k1 k2 k3 k4 => hK _ _ (h v' w' k1 k2 k3 k4)
/-- The same of bytes, at a step of a region that draws its order. -/
theorem step_app_bytes {K : Act → World → Prop} {F : Prop} (hgd : o.guard = none) (s x : Operand) (t : TypeId) (ho : o.op = .call { callee := .builtin .append, args := #[s, x], argTypes := #[t, t] })
    {e : TypeId} {z : Value} (T : SlT P t e 1 1 z) {D' : Nat → Prop} {B : Nat} (v : Value) (l : Bts) (hs : a.eval s = v) (hown : Own e byteEl Noneof B w v l)
    (vx : Value) (m : Bts) (hx : a.eval x = vx) (hm : SV byteEl D' w vx m) (hbytes : l.length + m.length ≤ 140737488355328) (hbase : B ≤ w.heap.size)
    (h : ∀ v' w', Own e byteEl Noneof B w' v' (l ++ m) → Kept (fun k => v.ownBlock = some k) w w' → (∀ b, v'.ownBlock = some b → v.ownBlock = some b ∨ w.heap.size ≤ b) → (v' = .slice none 0 0 ↔ v = .slice none 0 0 ∧ m = []) → K (a.put o.dst v') w') :
    if Region.wanted o (yielded ops a.tmps) = true then Oper.wp P o a w K Q else F := by
  have hw : Region.wanted o (yielded ops a.tmps) = true := by simp [Region.wanted, hgd]
  rw [if_pos hw]
  obtain ⟨ao, c, rfl, ⟨hc, hn⟩, _, hr⟩ := hm
  obtain ⟨news, h1, h2⟩ := hr.cells
  exact wp_app (E := byteEl) s x t ho T v l hs hown ao c m hx hc hn news (h1.bytes (D' := Noneof)) h2 (fun _ h => h.elim) (by omega) (by decide) hbase fun v' w' k1 k2 k3 k4 => h v' w' k1 k2 k3 k4
/-- append of a slice that reads as a list. -/
theorem wl_app_list (hgd : o.guard = none) (s x : Operand) (t : TypeId) (ho : o.op = .call { callee := .builtin .append, args := #[s, x], argTypes := #[t, t] })
    {e : TypeId} {bytes : Nat} {z : Value} (T : SlT P t e E.k bytes z) {D D' : Nat → Prop} {B : Nat} (v : Value) (l : List α) (hs : a.eval s = v) (hown : Own e E D B w v l)
    (vx : Value) (m : List α) (hx : a.eval x = vx) (hm : SV E D' w vx m) (hD : ∀ b, D' b → b < w.heap.size → D b ∧ v.ownBlock ≠ some b) (hbytes : (l.length + m.length) * bytes ≤ 140737488355328) (hb1 : 0 < bytes) (hbase : B ≤ w.heap.size)
    (h : ∀ v' w', Own e E D B w' v' (l ++ m) → Kept (fun k => v.ownBlock = some k) w w' → (∀ b, v'.ownBlock = some b → v.ownBlock = some b ∨ w.heap.size ≤ b) → wpList P ops Q rest (a.put o.dst v') w') : wpList P ops Q (o :: rest) a w := by
  obtain ⟨ao, c, rfl, ⟨hc, hn⟩, _, hr⟩ := hm
  obtain ⟨news, h1, h2⟩ := hr.cells
  exact wl_app hgd s x t ho T v l hs hown ao c m hx hc hn news h1 h2 hD hbytes hb1 hbase fun v' w' k1 k2 k3 _ => h v' w' k1 k2 k3
/-- append of bytes, wherever they lie. -/
theorem wl_app_bytes (hgd : o.guard = none) (s x : Operand) (t : TypeId) (ho : o.op = .call { callee := .builtin .append, args := #[s, x], argTypes := #[t, t] })
    {e : TypeId} {z : Value} (T : SlT P t e 1 1 z) {D' : Nat → Prop} {B : Nat} (v : Value) (l : Bts) (hs : a.eval s = v) (hown : Own e byteEl Noneof B w v l)
    (vx : Value) (m : Bts) (hx : a.eval x = vx) (hm : SV byteEl D' w vx m) (hbytes : l.length + m.length ≤ 140737488355328) (hbase : B ≤ w.heap.size)
    (h : ∀ v' w', Own e byteEl Noneof B w' v' (l ++ m) → Kept (fun k => v.ownBlock = some k) w w' → (∀ b, v'.ownBlock = some b → v.ownBlock = some b ∨ w.heap.size ≤ b) → wpList P ops Q rest (a.put o.dst v') w') : wpList P ops Q (o :: rest) a w := by
  obtain ⟨ao, c, rfl, ⟨hc, hn⟩, _, hr⟩ := hm
  obtain ⟨news, h1, h2⟩ := hr.cells
  exact wl_app (E := byteEl) hgd s x t ho T v l hs hown ao c m hx hc hn news (h1.bytes (D' := Noneof)) h2 (fun _ h => h.elim) (by omega) (by decide) hbase fun v' w' k1 k2 k3 _ => h v' w' k1 k2 k3
/-- append of one element, whose cells lie in a block of their own. -/
theorem wl_app_one (hgd : o.guard = none) (s x : Operand) (t : TypeId) (ho : o.op = .call { callee := .builtin .append, args := #[s, x], argTypes := #[t, t] })
    {e : TypeId} {bytes : Nat} {z : Value} (T : SlT P t e E.k bytes z) {D D' : Nat → Prop} {B : Nat} (v : Value) (l : List α) (hs : a.eval s = v) (hown : Own e E D B w v l)
    (g : Nat) (cs : List Value) (y : α) (hx : a.eval x = .slice (some ⟨g, 0, none⟩) 1 1) (hg : ∃ e' f, w.heap[g]? = some (.cells cs.toArray e' f)) (hm : E.R D' w cs y) (hD : ∀ b, D' b → b < w.heap.size → D b ∧ v.ownBlock ≠ some b) (hbytes : (l.length + 1) * bytes ≤ 140737488355328) (hb1 : 0 < bytes) (hbase : B ≤ w.heap.size)
    (h : ∀ v' w', Own e E D B w' v' (l ++ [y]) → Kept (fun k => v.ownBlock = some k) w w' → (∀ b, v'.ownBlock = some b → v.ownBlock = some b ∨ w.heap.size ≤ b) → wpList P ops Q rest (a.put o.dst v') w') : wpList P ops Q (o :: rest) a w := by
  obtain ⟨e', f, hg⟩ := hg
  refine wl_app hgd s x t ho T v l hs hown _ 1 [y] hx (by simp) (fun h => by cases h) cs (Cells.single hm) (fun j u hu => ⟨_, rfl, ?_⟩) hD hbytes hb1 hbase fun v' w' k1 k2 k3 _ => h v' w' k1 k2 k3
  rw [Addr.add_lit, Nat.zero_add]
  simp [World.cell?, hg, hu]
/-- make of so many elements that are zero. -/
theorem wl_make (hgd : o.guard = none) (n c : Operand) (t : TypeId) (ho : o.op = Op.makeSlice t n c) {e : TypeId} {bytes : Nat} {z : Value} (T : SlT P t e E.k bytes z) (D : Nat → Prop) (B : Nat)
    (N : Nat) (kl kc : IntKind) (L C : Int) (hl : a.eval n = .int kl L) (hc : a.eval c = .int kc C) (hL : L = (N : Int)) (hC : C = (N : Int)) (zero : α) (hz : ∀ w, E.R (fun _ => False) w z.cells.toList zero)
    (hbytes : bytes * N ≤ 140737488355328) (hb1 : 0 < bytes) (hbase : B ≤ w.heap.size)
    (h : ∀ w' g, Own e E D B w' (.slice (some ⟨g, 0, none⟩) N N) (List.replicate N zero) → Kept Noneof w w' → w.heap.size ≤ g → wpList P ops Q rest (a.put o.dst (.slice (some ⟨g, 0, none⟩) N N)) w') : wpList P ops Q (o :: rest) a w := by
  obtain ⟨i, hi, hzz, hsize, hby, hzs⟩ := T.hi
  have hN : N ≤ 140737488355328 := Nat.le_trans (Nat.le_mul_of_pos_left _ hb1) hbytes
  refine wpList_make_full w hgd n c t ho B e i z E.k T.ht hi hzz hsize kl kc L C N hl hc hL hC (by rw [hby]; omega) (by unfold maxLen; omega) hbase fun w' k1 k2 => ?_
  refine h w' _ ⟨by simpa using hN, fun _ => False, fun _ => False.elim, _, by simpa using k1, ?_⟩ ((Kept.of_grown k2).mono fun _ h => by cases h) (Nat.le_refl _)
  have hcells : ∀ k, (madeCells z.cells (k * E.k)).toList = (List.replicate k z.cells.toList).flatten := fun k => by rw [← hzs]; exact made_cells _ (by rw [hzs]; exact T.pos) k
  rw [hcells]
  clear h k1 hN hbytes hl hc hL hC
  induction N with
  | zero => rfl
  | succ N ih => exact ⟨_, _, by simp [List.replicate_succ], hz w', ih⟩
/-- make with a capacity, no element yet. -/
theorem wl_make0 (hgd : o.guard = none) (n c : Operand) (t : TypeId) (ho : o.op = Op.makeSlice t n c) {e : TypeId} {bytes : Nat} {z : Value} (T : SlT P t e E.k bytes z) (D : Nat → Prop) (B : Nat)
    (N : Nat) (kl kc : IntKind) (C : Int) (hl : a.eval n = .int kl 0) (hc : a.eval c = .int kc C) (hC : C = (N : Int)) (hbytes : bytes * N ≤ 140737488355328) (hb1 : 0 < bytes) (hbase : B ≤ w.heap.size)
    (h : ∀ w' g, Own e E D B w' (.slice (some ⟨g, 0, none⟩) 0 N) [] → Kept Noneof w w' → w.heap.size ≤ g → wpList P ops Q rest (a.put o.dst (.slice (some ⟨g, 0, none⟩) 0 N)) w') : wpList P ops Q (o :: rest) a w := by
  obtain ⟨i, hi, hzz, hsize, hby, hzs⟩ := T.hi
  have hN : N ≤ 140737488355328 := Nat.le_trans (Nat.le_mul_of_pos_left _ hb1) hbytes
  refine wpList_make_own w hgd n c t ho B e i z E.k T.ht hi hzz hsize kl kc C N hl hc hC (by rw [hby]; omega) (by unfold maxLen; omega) hbase fun w' k1 k2 => ?_
  exact h w' _ ⟨by simp, fun _ => False, fun _ => False.elim, [], by simpa using k1, rfl⟩ ((Kept.of_grown k2).mono fun _ h => by cases h) (Nat.le_refl _)
/-- copy of bytes over a row of the call's own that is as long. -/
theorem wl_copy (hgd : o.guard = none) (d s : Operand) (t : TypeId) (ho : o.op = .call { callee := .builtin .copy, args := #[d, s], argTypes := #[t, t] }) {e : TypeId} {z : Value} (T : SlT P t e 1 1 z) {D D' : Nat → Prop} {B : Nat}
    (g N c : Nat) (l : Bts) (hd : a.eval d = .slice (some ⟨g, 0, none⟩) N c) (hown : Own e byteEl D B w (.slice (some ⟨g, 0, none⟩) N c) l) (hlN : l.length = N) (vx : Value) (m : Bts) (hx : a.eval s = vx) (hm : SV byteEl D' w vx m) (hlen : m.length = N)
    (h : ∀ w', Own e byteEl D B w' (.slice (some ⟨g, 0, none⟩) N c) m → Kept (fun k => k = g) w w' → wpList P ops Q rest (a.put o.dst (goInt N)) w') : wpList P ops Q (o :: rest) a w := by
  obtain ⟨i, hi, hzz, hsize, hby, hzs⟩ := T.hi
  obtain ⟨ao, cx, rfl, ⟨hcx, hnx⟩, hlx, hr⟩ := hm
  obtain ⟨hl, D0, h0, xs, h1, h2⟩ := hown
  obtain ⟨news, k1, k2⟩ := hr.cells
  have hkl := k1.length
  simp only [byteEl, Nat.mul_one] at hkl
  rcases h1.2 with ⟨hh, _⟩ | ⟨g', cap, cur, hv, hg, hh, hc, hm', hs, ht⟩
  · cases hh
  · simp only [Value.slice.injEq, Option.some.injEq, Addr.mk.injEq, and_true] at hv
    obtain ⟨rfl, rfl, rfl⟩ := hv
    simp only [byteEl, Nat.mul_one] at hs
    have hlen' : m.length ≤ 140737488355328 := hlx
    have hone := k1.one
    rcases Nat.eq_zero_or_pos m.length with hz | hz
    · have hm0 : m = [] := List.eq_nil_of_length_eq_zero hz
      have hl0 : l = [] := List.eq_nil_of_length_eq_zero (by omega)
      subst hm0
      subst hl0
      refine wpList_copy_nothing hgd d s t t ho e T.ht (by rw [hi]; simp [hsize]) _ _ _ _ _ _ hd hx (by simp) ?_
      exact h w ⟨by simp, D0, h0, xs, h1, h2⟩ (Kept.refl _ _)
    · obtain ⟨ad, hao, _⟩ := k2 0 (news[0]'(by omega)) (by simp)
      subst hao
      refine wpList_copy_own hgd d s t t ho e T.ht (by rw [hi]; simp [hsize]) g 0 l.length _ ad _ _ hd hx cur e hh news (by rw [hkl, hlen]; simp) (fun j u hu => ?_) (by omega) hone ?_
      · obtain ⟨p, hp, hc'⟩ := k2 j u hu
        obtain rfl := Option.some.inj hp
        exact hc'
      · rw [hkl, hlen]
        refine h _ ⟨by omega, fun _ => False, fun _ => False.elim, news, ⟨by simp [byteEl, hkl], .inr ⟨g, _, _, by rw [hlen], hg, setRow_heap w g cur _ e _ hh, by omega, hm', ?_, ?_⟩⟩, ?_⟩ ⟨rfl, rfl, rfl, by simp, fun k _ hk => setRow_other w g k _ hk⟩
        · simp [byteEl, hkl]; omega
        · simp [byteEl, ← hkl]
        · exact k1.bytes
end
end Go.Proofs.Ytaopjdjbpamhhaa
