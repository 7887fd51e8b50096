/- Proved: texts of the families over slots, order and swap, joined, as far as the claim needs them. Conditions: as each theorem says. -/
import Derived.Test.YtaopjdjbpamhhaaSSVF
import Derived.Test.YtaopjdjbpamhhaaSSVH
import Derived.Test.YtaopjdjbpamhhaaSSVA
import Derived.Shelf.Bits.Mul64
/- Proved: contract of cmp.Or on ints. Conditions: the row of ints in memory. -/
namespace Go.Proofs.Ytaopjdjbpamhhaa
open Go Go.RowKit
set_option linter.unusedVariables false
set_option linter.unusedSimpArgs false
def orK : List Int → Int
  | [] => 0
  | x :: l => if x = 0 then orK l else x
theorem orK_at {l : List Int} {i : Nat} (h : i < l.length) (hz : ∀ j (hj : j < l.length), j < i → l[j] = 0) (hx : l[i] ≠ 0) : orK l = l[i] := by
  induction l generalizing i with
  | nil => simp at h
  | cons x l ih =>
    cases i with
    | zero => simp only [List.getElem_cons_zero] at hx ⊢; simp [orK, hx]
    | succ i =>
      have h0 := hz 0 (by simp) (by omega)
      simp only [List.getElem_cons_zero] at h0
      simp only [List.getElem_cons_succ] at hx ⊢
      rw [orK, if_pos h0]
      exact ih (by simpa using h) (fun j hj hji => hz (j + 1) (by simpa using hj) (by omega)) hx
theorem orK_zero {l : List Int} (hz : ∀ j (hj : j < l.length), l[j] = 0) : orK l = 0 := by
  induction l with
  | nil => rfl
  | cons x l ih =>
    have h0 := hz 0 (by simp)
    simp only [List.getElem_cons_zero] at h0
    rw [orK, if_pos h0]
    exact ih fun j hj => hz (j + 1) (by simpa using hj)

set_option maxRecDepth 100000 in
set_option maxHeartbeats 2000000 in
theorem cmpOr_calls {w : World} {g c : Nat} {l : List Int} (h : ∀ i (hi : i < l.length), w.cell? ⟨g, i, none⟩ = some (.int .i64 l[i])) (hl : l.length ≤ 1000000) :
    Calls Try.prog 152 #[.slice (some ⟨g, 0, none⟩) l.length c] w fun e w' => e = .returned (.int .i64 (orK l)) ∧ w' = w := by
  have H := Lib.hid h
  clear h
  obtain ⟨n, hn⟩ : ∃ n, l.length = n := ⟨_, rfl⟩
  rw [hn]
  rw [hn] at hl
  replace hn := Lib.hid hn
  go_enter Try.func152, Try.ntmps152
  go_wp2
  go_loopw [8] (fun v wr => ∃ i : Nat, v = .int .i64 i ∧ wr = w ∧ Hid (i ≤ n ∧ ∀ j (hj : j < l.length), j < i → l[j] = 0)) (fun v _ => n - (intOf v).toNat)
  case atStart => exact ⟨0, rfl, rfl, Lib.hid ⟨Nat.zero_le _, fun _ _ h => by omega⟩⟩
  obtain ⟨i, rfl, rfl, hz⟩ := hrel
  by_cases hin : i < n
  · have hin' : (i : Int) < (n : Int) := by omega
    have hi : i < l.length := by rw [hn.out]; exact hin
    have a0 := H.out i (by rw [hn.out]; exact hin)
    cases hx : (l[i] == 0)
    · have O := Lib.hid (orK_at hi hz.out.2 (by simpa using hx))
      generalize l[i] = x at *
      go_wp2
      go_ret
      exact ⟨by rw [O.out]; rfl, rfl⟩
    · have Z := Lib.hid (show i + 1 ≤ n ∧ ∀ j (hj : j < l.length), j < i + 1 → l[j] = 0 from ⟨hin, fun j hj h => by
        rcases Nat.lt_or_ge j i with k | k
        · exact hz.out.2 j hj k
        · obtain rfl : j = i := by omega
          simpa using hx⟩)
      generalize l[i] = x at *
      go_wp2
      go_roundw
      case rel => exact ⟨i + 1, by go_num, by first | rfl | trivial, Z⟩
      case measure => simp [intOf]; omega
  · have O := Lib.hid (orK_zero (l := l) fun j hj => hz.out.2 j hj (by have := hn.out; omega))
    have hin' : ¬ (i : Int) < (n : Int) := by omega
    go_wp2
    go_ret
    exact ⟨by rw [O.out]; rfl, rfl⟩
end Go.Proofs.Ytaopjdjbpamhhaa
/- Proved: plain: a layout: items in a given order, each in the first free cell from its home on; the order of items is one. No program. No condition. -/
namespace Go.Proofs.Ytaopjdjbpamhhaa
open Go Go.RowKit
set_option linter.unusedVariables false
set_option linter.unusedSimpArgs false
/-! ### Probing -/
/-- Whether something lies in a cell. -/
def fullC (out : List Int) (c : Nat) : Bool := decide (0 ≤ out.getD c (-1))
def probe (out : List Int) (cells : Nat) : Nat → Nat → Nat
  | 0, c => c
  | f + 1, c => if fullC out c = true then probe out cells f ((c + 1) % cells) else c
def lay1 (cells : Nat) (out : List Int) (home i : Nat) : List Int := out.set (probe out cells cells home) (i : Int)
/-- The cells: the items l, one after another, each from its home on. -/
def layF (cells : Nat) (home : Nat → Nat) (l : List Nat) : List Int := l.foldl (fun out i => lay1 cells out (home i) i) (List.replicate cells (-1))
/-- The k-th cell from c on. -/
def stepC (cells c k : Nat) : Nat := (c + k) % cells
theorem stepC_lt {cells c k : Nat} (h : 0 < cells) : stepC cells c k < cells := Nat.mod_lt _ h
theorem stepC_zero {cells c : Nat} (h : c < cells) : stepC cells c 0 = c := by unfold stepC; rw [Nat.add_zero, Nat.mod_eq_of_lt h]
theorem stepC_succ (cells c k : Nat) : (stepC cells c k + 1) % cells = stepC cells c (k + 1) := by
  unfold stepC
  rw [Nat.mod_add_mod, Nat.add_assoc]
theorem stepC_one (cells c k : Nat) : stepC cells ((c + 1) % cells) k = stepC cells c (k + 1) := by
  unfold stepC
  rw [Nat.mod_add_mod]
  congr 1
  omega
/-- How far a cell lies behind another one. -/
theorem stepC_back {cells c k : Nat} (hc : c < cells) (hk : k < cells) : (stepC cells c k + cells - c) % cells = k := by
  unfold stepC
  rcases Nat.lt_or_ge (c + k) cells with h | h
  · rw [Nat.mod_eq_of_lt h, show c + k + cells - c = k + cells by omega, Nat.add_mod_right, Nat.mod_eq_of_lt hk]
  · rw [Nat.mod_eq_sub_mod h, Nat.mod_eq_of_lt (show c + k - cells < cells by omega), show c + k - cells + cells - c = k by omega, Nat.mod_eq_of_lt hk]
theorem stepC_of {cells c x : Nat} (hc : c < cells) (hx : x < cells) : ∃ k, k < cells ∧ x = stepC cells c k := by
  refine ⟨(x + cells - c) % cells, Nat.mod_lt _ (by omega), ?_⟩
  unfold stepC
  rw [Nat.add_mod_mod, show c + (x + cells - c) = x + cells by omega, Nat.add_mod_right, Nat.mod_eq_of_lt hx]
theorem probe_at {out : List Int} {cells : Nat} : ∀ (k f c : Nat), k < f → c < cells → (∀ j, j < k → fullC out (stepC cells c j) = true) → fullC out (stepC cells c k) = false → probe out cells f c = stepC cells c k
  | 0, f + 1, c, _, hc, _, hn => by
    rw [stepC_zero hc] at hn ⊢
    rw [probe, if_neg (by rw [hn]; simp)]
  | k + 1, f + 1, c, hf, hc, ha, hn => by
    have h0 := ha 0 (by omega)
    rw [stepC_zero hc] at h0
    rw [probe, if_pos h0, probe_at k f ((c + 1) % cells) (by omega) (Nat.mod_lt _ (by omega)) (fun j hj => by rw [stepC_one]; exact ha (j + 1) (by omega)) (by rw [stepC_one]; exact hn), stepC_one]
/-- On the way from home: the first k cells are full. -/
def Way (out : List Int) (cells home k : Nat) : Prop := k < cells ∧ ∀ j, j < k → fullC out (stepC cells home j) = true
def HasFree (out : List Int) (cells : Nat) : Prop := ∃ c, c < cells ∧ fullC out c = false
theorem Way.start {out : List Int} {cells home : Nat} (h : home < cells) : Way out cells home 0 := ⟨by omega, fun j hj => by omega⟩
theorem Way.next {out : List Int} {cells home k : Nat} (h : Way out cells home k) (hh : home < cells) (hf : HasFree out cells) (hk : fullC out (stepC cells home k) = true) : Way out cells home (k + 1) := by
  have ha : ∀ j, j < k + 1 → fullC out (stepC cells home j) = true := fun j hj => by
    rcases Nat.lt_or_ge j k with h1 | h1
    · exact h.2 j h1
    · obtain rfl : j = k := by omega
      exact hk
  refine ⟨?_, ha⟩
  obtain ⟨c, hc, hn⟩ := hf
  obtain ⟨m, hm, rfl⟩ := stepC_of hh hc
  rcases Nat.lt_or_ge m (k + 1) with h1 | h1
  · rw [ha m h1] at hn; cases hn
  · omega
theorem Way.stop {out : List Int} {cells home k : Nat} (h : Way out cells home k) (hh : home < cells) (hk : fullC out (stepC cells home k) = false) : probe out cells cells home = stepC cells home k :=
  probe_at k cells home h.1 hh h.2 hk
/-- The first free cell. -/
theorem probe_free {out : List Int} {cells home : Nat} (hh : home < cells) (hf : HasFree out cells) : ∃ k, Way out cells home k ∧ fullC out (stepC cells home k) = false ∧ probe out cells cells home = stepC cells home k := by
  have key : ∀ d k, cells - k ≤ d → Way out cells home k → ∃ k, Way out cells home k ∧ fullC out (stepC cells home k) = false := by
    intro d
    induction d with
    | zero => intro k hd hw; have := hw.1; omega
    | succ d ih =>
      intro k hd hw
      cases e : fullC out (stepC cells home k) with
      | false => exact ⟨k, hw, e⟩
      | true => exact ih (k + 1) (by omega) (hw.next hh hf e)
  obtain ⟨k, h1, h2⟩ := key cells 0 (by omega) (Way.start hh)
  exact ⟨k, h1, h2, h1.stop hh h2⟩

/-! ### What the cells hold -/
/-- What l puts where. -/
structure Laid (cells : Nat) (home : Nat → Nat) (l : List Nat) (out : List Int) : Prop where
  len : out.length = cells
  cell : ∀ c, c < cells → out.getD c (-1) = -1 ∨ ∃ i, i ∈ l ∧ out.getD c (-1) = (i : Int)
  mem : ∀ i, i ∈ l → ∃ c, c < cells ∧ out.getD c (-1) = (i : Int)
  uniq : ∀ c d i, c < cells → d < cells → out.getD c (-1) = (i : Nat) → out.getD d (-1) = (i : Nat) → c = d
theorem getD_set {out : List Int} {c d : Nat} {x : Int} (h : c < out.length) : (out.set c x).getD d (-1) = if d = c then x else out.getD d (-1) := by
  rw [List.getD_eq_getElem?_getD, List.getElem?_set]
  by_cases e : c = d
  · subst e; simp [h]
  · rw [if_neg e, if_neg (fun h => e h.symm), List.getD_eq_getElem?_getD]
theorem Laid.nil (cells : Nat) (home : Nat → Nat) : Laid cells home [] (List.replicate cells (-1)) := by
  have e : ∀ c, (List.replicate cells (-1 : Int)).getD c (-1) = -1 := fun c => by
    rw [List.getD_eq_getElem?_getD, List.getElem?_replicate]
    split <;> rfl
  exact ⟨by simp, fun c _ => .inl (e c), fun i h => by simp at h, fun c d i _ _ h1 _ => by rw [e] at h1; omega⟩
theorem Laid.full {cells : Nat} {home : Nat → Nat} {l : List Nat} {out : List Int} (h : Laid cells home l out) {c : Nat} (hc : c < cells) : fullC out c = true ↔ ∃ i, i ∈ l ∧ out.getD c (-1) = (i : Int) := by
  unfold fullC
  rw [decide_eq_true_eq]
  constructor
  · intro h0
    rcases h.cell c hc with e | e
    · rw [e] at h0; omega
    · exact e
  · rintro ⟨i, _, e⟩; rw [e]; omega
theorem nodup_le : ∀ {m l : List Nat}, m.Nodup → m ⊆ l → m.length ≤ l.length
  | [], _, _, _ => Nat.zero_le _
  | x :: m, l, hn, hs => by
    obtain ⟨h1, h2⟩ := List.nodup_cons.1 hn
    have hx : x ∈ l := hs (by simp)
    have := nodup_le (m := m) (l := l.erase x) h2 fun y hy => (List.mem_erase_of_ne (fun e => h1 (by rw [← e]; exact hy))).2 (hs (by simp [hy]))
    rw [List.length_erase_of_mem hx] at this
    have := List.length_pos_of_mem hx
    simp only [List.length_cons]
    omega
/-- While fewer items than cells lie, one is free. -/
theorem Laid.free {cells : Nat} {home : Nat → Nat} {l : List Nat} {out : List Int} (h : Laid cells home l out) (hl : l.length < cells) : HasFree out cells := by
  refine Classical.byContradiction fun hn => ?_
  have hall : ∀ c, c < cells → ∃ i, i ∈ l ∧ out.getD c (-1) = (i : Int) := fun c hc => (h.full hc).1 (by
    cases e : fullC out c with
    | true => rfl
    | false => exact absurd ⟨c, hc, e⟩ hn)
  have hsub : (List.range cells).map (fun c => (out.getD c (-1)).toNat) ⊆ l := by
    intro i hi
    obtain ⟨c, hc, rfl⟩ := List.mem_map.1 hi
    obtain ⟨i, hi, e⟩ := hall c (List.mem_range.1 hc)
    rw [e]; simpa using hi
  have hnd : ((List.range cells).map (fun c => (out.getD c (-1)).toNat)).Nodup := by
    refine List.pairwise_map.2 (List.Pairwise.imp_of_mem ?_ (List.nodup_range (n := cells)))
    intro a b ha hb hab e
    obtain ⟨i, _, e1⟩ := hall a (List.mem_range.1 ha)
    obtain ⟨j, _, e2⟩ := hall b (List.mem_range.1 hb)
    rw [e1, e2] at e
    have e : i = j := by simpa using e
    subst e
    exact hab (h.uniq a b i (List.mem_range.1 ha) (List.mem_range.1 hb) e1 e2)
  have := nodup_le hnd hsub
  simp at this
  omega
theorem Laid.snoc {cells : Nat} {home : Nat → Nat} {l : List Nat} {out : List Int} (h : Laid cells home l out) (hl : l.length < cells) {i : Nat} (hi : i ∉ l) (hh : home i < cells) : Laid cells home (l ++ [i]) (lay1 cells out (home i) i) := by
  obtain ⟨k, hw, hn, hp⟩ := probe_free hh (h.free hl)
  have hk : stepC cells (home i) k < out.length := by rw [h.len]; exact stepC_lt (by omega)
  have hkc : stepC cells (home i) k < cells := stepC_lt (by omega)
  unfold lay1
  rw [hp]
  generalize stepC cells (home i) k = p at *
  have e : ∀ c, (out.set p (i : Int)).getD c (-1) = if c = p then (i : Int) else out.getD c (-1) := fun c => getD_set hk
  refine ⟨by rw [List.length_set, h.len], fun c hc => ?_, fun j hj => ?_, fun c d j hc hd h1 h2 => ?_⟩
  · rw [e c]
    split
    · exact .inr ⟨i, by simp, rfl⟩
    · rcases h.cell c hc with k | ⟨j, k1, k2⟩
      · exact .inl k
      · exact .inr ⟨j, by simp [k1], k2⟩
  · rcases List.mem_append.1 hj with hj | hj
    · obtain ⟨c, hc, k⟩ := h.mem j hj
      refine ⟨c, hc, ?_⟩
      rw [e c, if_neg, k]
      rintro rfl
      have := (h.full hc).2 ⟨j, hj, k⟩
      rw [hn] at this; cases this
    · obtain rfl : j = i := by simpa using hj
      exact ⟨p, hkc, by rw [e p, if_pos rfl]⟩
  · rw [e c] at h1
    rw [e d] at h2
    have no : ∀ c, c < cells → out.getD c (-1) = (i : Int) → False := fun c hc k => by
      rcases h.cell c hc with q | ⟨j, q1, q2⟩
      · rw [q] at k; omega
      · rw [q2] at k
        have : j = i := by omega
        exact hi (this ▸ q1)
    split at h1 <;> split at h2
    · omega
    · obtain rfl : j = i := by omega
      exact (no d hd h2).elim
    · obtain rfl : j = i := by omega
      exact (no c hc h1).elim
    · exact h.uniq c d j hc hd h1 h2
theorem layF_snoc (cells : Nat) (home : Nat → Nat) (l : List Nat) (i : Nat) : layF cells home (l ++ [i]) = lay1 cells (layF cells home l) (home i) i := by
  unfold layF
  rw [List.foldl_append]
  rfl
theorem layF_laid {cells : Nat} {home : Nat → Nat} : ∀ {l : List Nat}, l.length ≤ cells → l.Nodup → (∀ i ∈ l, home i < cells) → Laid cells home l (layF cells home l) := by
  intro l
  induction h : l.reverse generalizing l with
  | nil =>
    obtain rfl : l = [] := by simpa using h
    intro _ _ _
    exact Laid.nil cells home
  | cons i r ih =>
    obtain rfl : l = r.reverse ++ [i] := by
      have := congrArg List.reverse h
      simpa using this
    intro h1 h2 h3
    rw [layF_snoc]
    simp only [List.length_append, List.length_cons, List.length_nil] at h1
    rw [List.nodup_append] at h2
    refine Laid.snoc (ih (by simp) (by omega) h2.1 fun j hj => h3 j (by simp [hj])) (by omega) (fun hi => h2.2.2 i hi i (by simp) rfl) (h3 i (by simp))
theorem layF_len (cells : Nat) (home : Nat → Nat) : ∀ (l : List Nat) (out : List Int), (l.foldl (fun out i => lay1 cells out (home i) i) out).length = out.length
  | [], _ => rfl
  | i :: l, out => by rw [List.foldl_cons, layF_len cells home l]; unfold lay1; simp
theorem layF_length (cells : Nat) (home : Nat → Nat) (l : List Nat) : (layF cells home l).length = cells := by
  unfold layF
  rw [layF_len]; simp

/-! ### The order -/
/-- Numbers below n in the order of bef, equal ones by their numbers. -/
def Befs (bef : Nat → Nat → Bool) (i j : Nat) : Prop := bef i j = true ∨ (bef j i = false ∧ i < j)
structure Ordd (bef : Nat → Nat → Bool) (n : Nat) (l : List Nat) : Prop where
  perm : l.Perm (List.range n)
  srt : l.Pairwise (Befs bef)
theorem Befs.not {bef : Nat → Nat → Bool} (o : Swo bef) {i j : Nat} (h : Befs bef i j) : ¬ Befs bef j i := Lt'.not (ix := id) o h
theorem perm_srt_eq {α : Type} {R : α → α → Prop} (no : ∀ x y, R x y → ¬ R y x) : ∀ {l m : List α}, l.Perm m → l.Pairwise R → m.Pairwise R → l = m
  | [], m, hp, _, _ => (List.perm_nil.1 hp.symm).symm
  | x :: l, [], hp, _, _ => by have := hp.length_eq; simp at this
  | x :: l, y :: m, hp, hl, hm => by
    have hx : x ∈ y :: m := hp.mem_iff.1 (by simp)
    have hy : y ∈ x :: l := hp.mem_iff.2 (by simp)
    obtain ⟨l1, l2⟩ := List.pairwise_cons.1 hl
    obtain ⟨m1, m2⟩ := List.pairwise_cons.1 hm
    have e : x = y := by
      rcases List.mem_cons.1 hx with e | hx
      · exact e
      · rcases List.mem_cons.1 hy with e | hy
        · exact e.symm
        · exact absurd (l1 y hy) (no _ _ (m1 x hx))
    subst e
    rw [perm_srt_eq no (List.perm_cons x |>.1 hp) l2 m2]
theorem Ordd.uniq {bef : Nat → Nat → Bool} {n : Nat} {l m : List Nat} (o : Swo bef) (h : Ordd bef n l) (k : Ordd bef n m) : l = m :=
  perm_srt_eq (fun _ _ h => Befs.not o h) (h.perm.trans k.perm.symm) h.srt k.srt
theorem Ordd.nodup {bef : Nat → Nat → Bool} {n : Nat} {l : List Nat} (h : Ordd bef n l) : l.Nodup := h.perm.nodup_iff.2 List.nodup_range
theorem Ordd.len {bef : Nat → Nat → Bool} {n : Nat} {l : List Nat} (h : Ordd bef n l) : l.length = n := by rw [h.perm.length_eq]; simp
theorem Ordd.mem {bef : Nat → Nat → Bool} {n : Nat} {l : List Nat} (h : Ordd bef n l) {i : Nat} : i ∈ l ↔ i < n := by rw [h.perm.mem_iff, List.mem_range]
end Go.Proofs.Ytaopjdjbpamhhaa
/- Proved: rows of ints as lists; contract of slices.Repeat on a row of one int. Conditions: rows in memory, at most 1048576 times. -/
namespace Go.Proofs.Ytaopjdjbpamhhaa
open Go Go.RowKit
set_option linter.unusedVariables false
set_option linter.unusedSimpArgs false
def intEl : El Int where
  k := 1
  R := fun _ _ cs x => cs = [.int .i64 x]
  mono := fun _ h => h
  len := fun h => by rw [h]; rfl
  one := fun h u hu => by rw [h] at hu; exact (by simpa using hu : u = _) ▸ rfl
abbrev IV := SV intEl
theorem tInts : SlT Try.prog 44 3 1 8 (.int .i64 0) := SlT.of (by kernel_rfl) (by kernel_rfl) rfl (by decide)
theorem Rd.int {D : Nat → Prop} {w : World} {a : Option Addr} {l : List Int} (h : Rd intEl D w a l) {i : Nat} (hi : i < l.length) : ∃ b o, a = some ⟨b, o, none⟩ ∧ D b ∧ w.cell? ⟨b, o + i, none⟩ = some (.int .i64 l[i]) := by
  obtain ⟨b, o, cs, h1, h2, h4, h5⟩ := h i hi
  have h5 : cs = [.int .i64 l[i]] := h5
  subst h5
  have := h4 0 (by simp)
  exact ⟨b, o, h1, h2, by simpa [intEl] using this⟩
/-- A row of ints of the call's own may be read and written at each place. -/
theorem Own.islot {D : Nat → Prop} {B : Nat} {w : World} {g n c i : Nat} {l : List Int} (h : Own 3 intEl D B w (.slice (some ⟨g, 0, none⟩) n c) l) (hi : i < l.length) : w.cell? ⟨g, i, none⟩ = some (.int .i64 l[i]) ∧ w.frozen? ⟨g, i, none⟩ = false ∧ g < w.heap.size ∧ B ≤ g := by
  have hlt := h.lt g rfl
  have hr := h.rd (D' := fun _ => True) (fun _ _ => trivial) (fun _ _ => trivial)
  obtain ⟨hl, D0, h0, xs, ⟨h1, h2⟩, h3⟩ := h
  rcases h2 with ⟨hh, _⟩ | ⟨g', cap, cur, hv, hg, hh, hc, hm', hs, ht⟩
  · cases hh
  · simp only [Value.slice.injEq, Option.some.injEq, Addr.mk.injEq, and_true] at hv
    obtain ⟨rfl, rfl, rfl⟩ := hv
    obtain ⟨a, c', e, _, _, rd⟩ := hr
    simp only [Value.slice.injEq, true_and] at e
    obtain ⟨b, o, e2, _, e3⟩ := Rd.int rd hi
    rw [← e.1] at e2
    simp only [Option.some.injEq, Addr.mk.injEq, and_true] at e2
    obtain ⟨rfl, rfl⟩ := e2
    exact ⟨by simpa using e3, by simp [World.frozen?, hh], hlt.2, hlt.1⟩
theorem Own.iput {D : Nat → Prop} {B : Nat} {w : World} {g n c i : Nat} {l : List Int} (h : Own 3 intEl D B w (.slice (some ⟨g, 0, none⟩) n c) l) (hi : i < l.length) (y : Int) :
    Own 3 intEl D B (w.setCell ⟨g, i, none⟩ (.int .i64 y)) (.slice (some ⟨g, 0, none⟩) n c) (l.set i y) := by
  refine h.setc (cs := [.int .i64 y]) hi rfl (D' := fun _ => False) rfl (fun _ h => h.elim) ((Kept.refl (fun b => b = g) w).setCell (.inl rfl) _) fun cur hcur => ?_
  rw [setCell_obj hcur]
  simp only [putCells, intEl, Nat.mul_one]

def mulLays_ren : Shelf.Ren := ⟨fun n => if n = 212 then 151 else if n = 263 then 181 else if n = 264 then 182 else n, fun n => if n = 46 then 42 else if n = 51 then 24 else if n = 53 then 22 else if n = 146 then 227 else if n = 148 then 229 else n, fun n => n⟩
theorem mulLays : Lays.n212 Try.prog mulLays_ren where
  mixed := by kernel_rfl
  f212 := by kernel_rfl
  f263 := by kernel_rfl
  f264 := by kernel_rfl
  t46 := Try.underlying42
  a46 := Try.isAgg42
  z46 := Try.sizeOf42
  v46 := Try.zeroValue42
  t51 := Try.underlying24
  a51 := Try.isAgg24
  z51 := Try.sizeOf24
  v51 := Try.zeroValue24
  t53 := Try.underlying22
  a53 := Try.isAgg22
  z53 := Try.sizeOf22
  v53 := Try.zeroValue22
  t146 := Try.underlying227
  a146 := Try.isAgg227
  z146 := Try.sizeOf227
  v146 := Try.zeroValue227
  t148 := Try.underlying229
  a148 := Try.isAgg229
  z148 := Try.sizeOf229
  v148 := Try.zeroValue229
theorem mul1_calls (n : Nat) (hn : n < 18446744073709551616) (w : World) :
    Calls Try.prog 151 #[.int .u64 1, .int .u64 n] w fun e w' => e = .returned (.tuple #[.int .u64 0, .int .u64 n]) ∧ w' = w := by
  have e : mulLays_ren.f 212 = 151 := rfl
  have h := Any.bits_Mul mulLays 1 n (by omega) hn w
  rw [e] at h
  refine h.mono ?_
  rintro e w' ⟨rfl, rfl⟩
  refine ⟨?_, rfl⟩
  rw [Nat.one_mul, Nat.div_eq_of_lt hn, Nat.mod_eq_of_lt hn]
  rfl

/-- The first n cells of a row are x. -/
def RepAt (w : World) (g count n : Nat) (x : Int) : Prop := ∃ cur : List Value, w.heap[g]? = some (.cells cur.toArray 3 (0, 0)) ∧ cur.length = count ∧ ∀ j, j < n → cur[j]? = some (.int .i64 x)
theorem RepAt.own {w : World} {g count B : Nat} {x : Int} (h : RepAt w g count count x) (hB : B ≤ g) (hc : count ≤ 1048576) : Own 3 intEl Noneof B w (.slice (some ⟨g, 0, none⟩) count count) (List.replicate count x) := by
  obtain ⟨cur, h1, h2, h3⟩ := h
  obtain rfl : cur = List.replicate count (.int .i64 x) := List.ext_getElem? fun j => by
    rcases Nat.lt_or_ge j count with hj | hj
    · rw [h3 j hj, List.getElem?_replicate, if_pos hj]
    · rw [List.getElem?_eq_none (by omega), List.getElem?_replicate, if_neg (by omega)]
  refine ⟨by simp; omega, fun _ => False, fun _ => False.elim, List.replicate count (.int .i64 x), ⟨by simp [intEl], .inr ⟨g, count, _, by simp, hB, h1, by simp, by unfold maxLen; omega, by simp [intEl], by simp [intEl]⟩⟩, ?_⟩
  clear h1 h2 h3 hc
  induction count with
  | zero => rfl
  | succ n ih => exact ⟨[.int .i64 x], List.replicate n (.int .i64 x), by simp [List.replicate_succ], rfl, ih⟩
theorem RepAt.grow {w' : World} {g count n m : Nat} {x : Int} {cur : List Value} (h2 : cur.length = count) (h3 : ∀ j, j < n → cur[j]? = some (.int .i64 x)) (hn : n + m ≤ count) (h : w'.heap[g]? = some (.cells (splice cur n (List.replicate m (.int .i64 x))).toArray 3 (0, 0))) : RepAt w' g count (n + m) x := by
  refine ⟨_, h, by rw [length_splice _ _ _ (by simp; omega), h2], fun j hj => ?_⟩
  unfold splice
  have t1 : (cur.take n).length = n := by rw [List.length_take]; omega
  rcases Nat.lt_or_ge j n with h4 | h4
  · rw [List.getElem?_append_left (by omega), List.getElem?_take, if_pos h4, h3 j h4]
  · rw [List.getElem?_append_right (by omega), t1, List.getElem?_append_left (by simp; omega), List.getElem?_replicate, if_pos (by omega)]

theorem wp_copy_splice {P : Program} {o : Oper} {a : Act} {w : World} {K : Act → World → Prop} {Q : Exit → Act → World → Prop} (hgd : o.guard = none) (d s : Operand) (dT sT : TypeId)
    (ho : o.op = .call { callee := .builtin .copy, args := #[d, s], argTypes := #[dT, sT] }) (elem : TypeId) (hu : P.underlying dT = some (.slice elem)) (hsz : (P.info? elem).map (·.size) = some 1)
    (dp sp : Option Addr) (dLen dCap sLen sCap : Nat) (hd : a.eval d = .slice dp dLen dCap) (hs : a.eval s = .slice sp sLen sCap)
    (g off : Nat) (cur : List Value) (t : TypeId) (hg : w.heap[g]? = some (.cells cur.toArray t (0, 0))) (cs : List Value) (hn : cs.length = Nat.min sLen dLen)
    (hpos : 0 < cs.length → dp = some ⟨g, off, none⟩ ∧ ∃ ad, sp = some ad ∧ ∀ j v, cs[j]? = some v → w.cell? (ad.add j) = some v)
    (hfit : off + cs.length ≤ cur.length) (h1 : ∀ v ∈ cs, v.oneCell' = true) (B : Nat) (w0 : World) (hb : RowKit.Below B w0 w) (hBg : B ≤ g)
    (h : ∀ w', RowKit.Hid (w'.heap[g]? = some (.cells (splice cur off cs).toArray t (0, 0))) → RowKit.Below B w0 w' → K (a.put o.dst (goInt cs.length)) w') : o.wp P a w K Q := by
  have h := step_copy_splice (Q := Q) (ops := #[]) (E := False) hgd d s dT sT ho elem hu hsz dp sp dLen dCap sLen sCap hd hs g off cur t hg cs hn hpos hfit h1 B w0 hb hBg h
  rwa [if_pos (by simp [Region.wanted, hgd])] at h
set_option maxRecDepth 100000 in
set_option maxHeartbeats 2000000 in
theorem ssRepeat_calls {w : World} {g count : Nat} {x : Int} (hc : w.cell? ⟨g, 0, none⟩ = some (.int .i64 x)) (h1 : 1 ≤ count) (hn : count ≤ 1048576) :
    Calls Try.prog 99 #[.slice (some ⟨g, 0, none⟩) 1 1, .int .i64 count] w fun e w' => ∃ g', e = .returned (.slice (some ⟨g', 0, none⟩) count count) ∧ Own 3 intEl Noneof w.heap.size w' (.slice (some ⟨g', 0, none⟩) count count) (List.replicate count x) ∧ Kept Noneof w w' := by
  have hg := cell_lt hc
  have w1 : IntKind.u64.wrap (count : Int) = (count : Int) := by simp [IntKind.wrap, IntKind.bits, IntKind.signed]; omega
  have w2 : IntKind.i64.wrap (count : Int) = (count : Int) := IntWalk.i64_in _ ⟨by omega, by omega⟩
  go_enter Try.func99, Try.ntmps99
  go_wp2_with fail
  refine (mul1_calls count (by omega) _).mono ?_
  rintro e w ⟨rfl, rfl⟩
  go_wp2_with (at_make; refine wl_make (E := intEl) rfl _ _ _ rfl tInts Noneof w.heap.size count .i64 .i64 _ _ rfl rfl rfl rfl 0 (fun _ => rfl) ?b1 ?b2 ?b3 ?_)
  case b1 => omega
  case b2 => omega
  case b3 => exact Nat.le_refl _
  intro w1 g1 hown hk hg1
  obtain ⟨cur0, hh0, hs0⟩ : ∃ cur : List Value, w1.heap[g1]? = some (.cells cur.toArray 3 (0, 0)) ∧ cur.length = count := by
    obtain ⟨_, _, _, xs, ⟨_, h2⟩, _⟩ := hown
    rcases h2 with ⟨hh, _⟩ | ⟨g', cap, cur, hv, _, hh, _, _, hs, _⟩
    · cases hh
    · simp only [Value.slice.injEq, Option.some.injEq, Addr.mk.injEq, and_true] at hv
      obtain ⟨rfl, _, rfl⟩ := hv
      exact ⟨cur.toList, by simpa using hh, by simpa [intEl] using hs⟩
  have hc1 := hk.cell (fun h => h) hc
  have HB := Lib.hid (hk.below (Nat.le_refl _) (fun _ h => h.elim))
  have HG := Lib.hid hg1
  have gl := block_lt hh0
  have HC := Lib.hid hs0
  have HN := Lib.hid (show g1 ≠ g by omega)
  clear hown hk hc hs0 hg1
  go_wp2_with (with_reducible refine wpList_copy_splice rfl _ _ _ _ rfl 3 Try.underlying44 (by kernel_rfl) (some ⟨g1, 0, none⟩) (some ⟨g, 0, none⟩) count count 1 1 rfl rfl g1 0 cur0 3 hh0 [.int .i64 x] ?c1 ?c2 ?c3 ?c4 w.heap.size w HB.out HG.out ?_)
  case c1 => simp [Nat.min_eq_left h1]
  case c2 =>
    intro j v hj
    cases j with
    | zero => simp at hj; subst hj; exact hc1
    | succ j => simp at hj
  case c3 => rw [HC.out]; simpa using h1
  case c4 => intro v hv; simp at hv; subst hv; rfl
  intro w2 hr hb
  have RP := Lib.hid (RepAt.grow (n := 0) (m := 1) (x := x) HC.out (fun j h => by omega) (by omega) hr.out)
  have HB2 := Lib.hid hb
  clear hr hb hh0 hc1
  go_wp2_with fail
  go_loopw [8] (fun v wr => ∃ n : Nat, 1 ≤ n ∧ n ≤ count ∧ v = .int .i64 n ∧ Hid (RepAt wr g1 count n x) ∧ Hid (Below w.heap.size w wr)) (fun v _ => count - (intOf v).toNat)
  case atStart => exact ⟨1, Nat.le_refl _, h1, rfl, RP, HB2⟩
  case round =>
    clear RP HB2 HB HC
    obtain ⟨n, hn1, hn2, rfl, hr, kw⟩ := hrel
    by_cases hlt : n < count
    · have hlt' : (n : Int) < (count : Int) := by omega
      have hnl : ¬ (count : Int) ≤ (n : Int) := by omega
      have hne : ¬ count = n := by omega
      have ms : count - n < count - (n - 1) := by omega
      go_wp2_with fail
      refine wp_region_chain 8 [7] (fun _ => True) (by kernel_rfl) (by kernel_rfl) ?_ ?_
      · trivial
      refine SeqW.out ?_
      simp only [List.take_succ_cons, List.take_zero, List.drop_succ_cons, List.drop_zero]
      obtain ⟨cur, r1, r2, r3⟩ := hr.out
      have r1' : wr.drew.heap[g1]? = some (.cells cur.toArray 3 (0, 0)) := r1
      have kd := Lib.hid (show Below w.heap.size w wr.drew from ⟨kw.out.os, kw.out.tape, kw.out.output, kw.out.size, kw.out.block⟩)
      have R2 := Lib.hid r2
      have R3 := Lib.hid r3
      generalize wr.drew = wd at *
      clear r1 r2 r3 hr kw
      iterate 7 (refine SeqW.val (v := ?_) (by rfl) (by rfl) (fun wx hSw => ?_) ?_; rotate_left; (focus ((try dsimp only at hSw); go_simp; (try with_reducible rfl))); (try simp only [Act.put, List.setIfInBounds_toArray, List.set_cons_zero, List.set_cons_succ]))
      refine SeqW.act (by rfl) rfl (by rfl) (by rfl) (fun K hK => ?_)
      obtain ⟨m, hm⟩ : ∃ m, m = Nat.min n (count - n) := ⟨_, rfl⟩
      have hm1 : 1 ≤ m := by have : m = min n (count - n) := hm; omega
      have hm2 : n + m ≤ count := by have : m = min n (count - n) := hm; omega
      refine wp_copy_splice rfl _ _ _ _ rfl 3 Try.underlying44 (by kernel_rfl) (some ⟨g1, n, none⟩) (some ⟨g1, 0, none⟩) (count - n) (count - n) n count rfl rfl g1 n cur 3 r1' (List.replicate m (.int .i64 x)) ?c1 ?c2 ?c3 ?c4 w.heap.size w kd.out HG.out ?_
      case c1 => simp [hm]
      case c2 =>
        intro _
        refine ⟨rfl, _, rfl, fun j v hj => ?_⟩
        rw [List.getElem?_replicate] at hj
        have hjm : j < m := by
          rcases Nat.lt_or_ge j m with h | h
          · exact h
          · rw [if_neg (by omega)] at hj; cases hj
        rw [if_pos hjm] at hj
        have : m ≤ n := by have : m = min n (count - n) := hm; omega
        have r3 := R3.out j (by omega)
        rw [Addr.add_lit]
        simp [World.cell?, r1', r3, hj]
      case c3 => rw [R2.out]; simpa using hm2
      case c4 => intro v hv; obtain ⟨_, rfl⟩ := List.mem_replicate.1 hv; rfl
      intro w2 hr hb
      have RP := Lib.hid (RepAt.grow R2.out R3.out hm2 hr.out)
      have HB2 := Lib.hid hb
      refine hK.out _ _ trivial ?_
      have hlen : (goInt ((List.replicate m (Value.int .i64 x)).length : Nat)) = .int .i64 (m : Int) := by simp [goInt]
      rw [hlen]
      have wa : IntKind.i64.wrap ((n : Int) + (m : Int)) = ((n + m : Nat) : Int) := IntWalk.i64_in _ ⟨by omega, by omega⟩
      clear K hK hr hb hlen hm r1' R2 R3 kd
      (try simp only [Act.put, List.setIfInBounds_toArray, List.set_cons_zero, List.set_cons_succ])
      refine SeqW.nil ?_
      go_wp2
      go_roundw
      case rel => exact ⟨n + m, by omega, hm2, by go_num, RP, HB2⟩
      case measure => simp [intOf]; omega
    · obtain rfl : n = count := by omega
      go_wp2
      go_ret
      exact ⟨g1, rfl, hr.out.own HG.out hn, Kept.of_below kw.out _⟩
end Go.Proofs.Ytaopjdjbpamhhaa
/- Proved: what a layout asks of its two functions; the comparison of places that it hands to the sort. Conditions: as stated. -/
namespace Go.Proofs.Ytaopjdjbpamhhaa
open Go Go.RowKit
set_option linter.unusedVariables false
set_option linter.unusedSimpArgs false
theorem run_equalIn_func_nil {P : Program} (w : World) (d : Nat) (t : TypeId) {ps rs : Array TypeId} {v : Bool} (f : Fn) (b c : Array Value) (h : P.underlying t = some (.func ps rs v)) : (Op.equalIn (d + 1) t (.func f b c) .nilFunc).run P w = .ok false w := by
  simp [Op.equalIn, run_underlying h]
theorem run_eql_func_nil {P : Program} (w : World) (t : TypeId) {ps rs : Array TypeId} {v : Bool} (f : Fn) (b c : Array Value) (h : P.underlying t = some (.func ps rs v)) : (binOp .eql t (.func f b c) .nilFunc).run P w = .ok (.bool false) w := by
  simp only [binOp]
  simp [Op.equal, Op.maxDepth, run_equalIn_func_nil w 9999 t f b c h]
/-- 'start': asked of each item once, in their order; J: what holds after so many questions. -/
structure StOk {α : Type} (elV : List Value → Value) (E : El α) (sf : Nat) (scb : Array Value) (st : α → Int) (l : List α) (D : Nat → Prop) (J : Nat → World → Prop) (X : Nat → Prop) (B : Nat) : Prop where
  enter : ∀ args w, (callFunc sf args).run Try.prog w = .ok (.enter sf args) w
  calls : ∀ i (hi : i < l.length) w cs, J i w → E.R D w cs l[i] → Calls Try.prog sf (#[elV cs] ++ scb) w fun e w' => e = .returned (.int .i64 (st l[i])) ∧ J (i + 1) w' ∧ Kept X w w'
  stay : ∀ i w w', J i w → Kept (fun b => B ≤ b) w w' → J i w'
/-- 'before': a strict weak order; I: what stays true. -/
structure BefOk {α : Type} (elV : List Value → Value) (E : El α) (bf : Nat) (bcb : Array Value) (bef : α → α → Bool) (D : Nat → Prop) (I : World → Prop) (X : Nat → Prop) (B : Nat) : Prop where
  enter : ∀ args w, (callFunc bf args).run Try.prog w = .ok (.enter bf args) w
  calls : ∀ w cs ds x y, I w → E.R D w cs x → E.R D w ds y → Calls Try.prog bf (#[elV cs, elV ds] ++ bcb) w fun e w' => e = .returned (.bool (bef x y)) ∧ I w' ∧ Kept X w w'
  swo : Swo bef
  stay : ∀ w w', I w → Kept (fun b => B ≤ b) w w' → I w'
def elVs (cs : List Value) : Value := .agg cs.toArray
/-- The items by their numbers. -/
def befN {α : Type} [Inhabited α] (bef : α → α → Bool) (l : List α) (i j : Nat) : Bool := bef (l.getD i default) (l.getD j default)
def cfP {α : Type} [Inhabited α] (bef : α → α → Bool) (l : List α) (x y : Int × Int) : Int :=
  if befN bef l x.1.toNat y.1.toNat = true then -1 else if befN bef l y.1.toNat x.1.toNat = true then 1 else 0
theorem befN_swo {α : Type} [Inhabited α] {bef : α → α → Bool} (o : Swo bef) (l : List α) : Swo (befN bef l) :=
  ⟨fun _ => o.irrefl _, fun _ _ _ => o.trans _ _ _, fun _ _ _ => o.ntrans _ _ _⟩
theorem cfP_lt {α : Type} [Inhabited α] (bef : α → α → Bool) (l : List α) (x y : Int × Int) : ltC (cfP bef l) x y = befN bef l x.1.toNat y.1.toNat := by
  unfold ltC cfP
  cases h : befN bef l x.1.toNat y.1.toNat with
  | true => simp
  | false =>
    simp only [Bool.false_eq_true, if_false]
    split <;> simp
theorem cfP_swo {α : Type} [Inhabited α] {bef : α → α → Bool} (o : Swo bef) (l : List α) : Swo (ltC (cfP bef l)) := by
  have e : ltC (cfP bef l) = fun x y => befN bef l x.1.toNat y.1.toNat := by funext x y; exact cfP_lt bef l x y
  rw [e]
  exact ⟨fun _ => o.irrefl _, fun _ _ _ => o.trans _ _ _, fun _ _ _ => o.ntrans _ _ _⟩
theorem cfP_lt1 {α : Type} [Inhabited α] {bef : α → α → Bool} {l : List α} {x y : Int × Int} {i j : Nat} (hi : i < l.length) (hj : j < l.length) (ex : x.1 = i) (ey : y.1 = j) (h : bef l[i] l[j] = true) : cfP bef l x y = -1 := by
  unfold cfP befN
  simp [ex, ey, List.getD_eq_getElem?_getD, hi, hj, h]
theorem cfP_gt1 {α : Type} [Inhabited α] {bef : α → α → Bool} {l : List α} {x y : Int × Int} {i j : Nat} (hi : i < l.length) (hj : j < l.length) (ex : x.1 = i) (ey : y.1 = j) (h : bef l[i] l[j] = false) (h' : bef l[j] l[i] = true) : cfP bef l x y = 1 := by
  unfold cfP befN
  simp [ex, ey, List.getD_eq_getElem?_getD, hi, hj, h, h']
theorem cfP_eq1 {α : Type} [Inhabited α] {bef : α → α → Bool} {l : List α} {x y : Int × Int} {i j : Nat} (hi : i < l.length) (hj : j < l.length) (ex : x.1 = i) (ey : y.1 = j) (h : bef l[i] l[j] = false) (h' : bef l[j] l[i] = false) : cfP bef l x y = 0 := by
  unfold cfP befN
  simp [ex, ey, List.getD_eq_getElem?_getD, hi, hj, h, h']
/-- The home of an item: its start modulo cells. -/
def homeN (cells : Nat) (s : Int) : Nat := (s % (cells : Int)).toNat
theorem homeN_lt {cells : Nat} (s : Int) (h : 0 < cells) : homeN cells s < cells := by
  unfold homeN
  have := Int.emod_lt_of_pos s (show (0 : Int) < cells by omega)
  have := Int.emod_nonneg s (show (cells : Int) ≠ 0 by omega)
  omega
theorem homeN_neg {cells : Nat} {s : Int} (h : 0 < cells) (hn : s.tmod cells < 0) : s.tmod cells + cells = (homeN cells s : Int) := by
  unfold homeN
  have h1 := Int.emod_lt_of_pos s (show (0 : Int) < cells by omega)
  have h2 := Int.emod_nonneg s (show (cells : Int) ≠ 0 by omega)
  rw [Int.tmod_eq_emod] at hn ⊢
  split at hn
  · omega
  · rename_i hc
    rw [if_neg hc]
    have : ((cells : Int).natAbs : Int) = cells := by omega
    omega
theorem homeN_pos {cells : Nat} {s : Int} (h : 0 < cells) (hn : ¬ s.tmod cells < 0) : s.tmod cells = (homeN cells s : Int) := by
  unfold homeN
  have h1 := Int.emod_lt_of_pos s (show (0 : Int) < cells by omega)
  have h2 := Int.emod_nonneg s (show (cells : Int) ≠ 0 by omega)
  rw [Int.tmod_eq_emod] at hn ⊢
  split at hn
  · rename_i hc
    rw [if_pos hc]
    omega
  · have : ((cells : Int).natAbs : Int) = cells := by omega
    omega
/-- A place's two cells. -/
def plEl : El (Int × Int) where
  k := 2
  R := fun _ _ cs x => cs = [.int .i64 x.1, .int .i64 x.2]
  mono := fun _ h => h
  len := fun h => by rw [h]; rfl
  one := fun h u hu => by rw [h] at hu; simp at hu; rcases hu with rfl | rfl <;> rfl
theorem tPlaces : SlT Try.prog 150 152 2 16 (.agg #[.int .i64 0, .int .i64 0]) := SlT.of (by kernel_rfl) (by kernel_rfl) rfl (by decide)
/-- Numbered homes. -/
def plL (home : Nat → Nat) (n : Nat) : List (Int × Int) := (List.range n).map fun i : Nat => ((i : Int), (home i : Int))
theorem plL_snoc (home : Nat → Nat) (n : Nat) : plL home n ++ [((n : Int), (home n : Int))] = plL home (n + 1) := by simp [plL, List.range_succ]
theorem plL_len (home : Nat → Nat) (n : Nat) : (plL home n).length = n := by simp [plL]
def plF (home : Nat → Nat) (i : Nat) : Int × Int := ((i : Int), (home i : Int))
/-- A row of numbered homes as a row of places. -/
theorem Own.places {D : Nat → Prop} {B n c g : Nat} {w : World} {home : Nat → Nat} (h : Own 152 plEl D B w (.slice (some ⟨g, 0, none⟩) n c) (plL home n)) : PlRow w g n (plF home) ∧ B ≤ g := by
  have hlt := h.lt g rfl
  obtain ⟨hl, D0, h0, xs, ⟨h1, h2⟩, h3⟩ := h
  rw [plL_len] at h2
  rcases h2 with ⟨hh, _⟩ | ⟨g', cap, cur, hv, hg, hh, hc, hm', hs, ht⟩
  · cases hh
  · simp only [Value.slice.injEq, Option.some.injEq, Addr.mk.injEq, and_true] at hv
    obtain ⟨rfl, _, rfl⟩ := hv
    refine ⟨⟨⟨cur, hh, by have : plEl.k = 2 := rfl; rw [hs, this]; omega, fun i hi => ?_⟩, fun i hi => ⟨i, hi, rfl⟩⟩, hlt.1⟩
    obtain ⟨cs, e1, e2⟩ := h3.at_ i (by rw [plL_len]; exact hi)
    have e1 : cs = [.int .i64 ((plL home n)[i]'(by rw [plL_len]; exact hi)).1, .int .i64 ((plL home n)[i]'(by rw [plL_len]; exact hi)).2] := e1
    subst e1
    have k2 : plEl.k = 2 := rfl
    have q0 := e2 0 (by simp)
    have q1 := e2 1 (by simp)
    rw [k2] at q0 q1 ht
    rw [← ht] at q0 q1
    rw [List.getElem?_take, if_pos (by omega), Array.getElem?_toList] at q0 q1
    simp only [plL, List.getElem_map, List.getElem_range, List.getElem_cons_zero, List.getElem_cons_succ, Nat.add_zero] at q0 q1
    exact ⟨q0, q1⟩
theorem Own.some' {α : Type} {E : El α} {D : Nat → Prop} {e : TypeId} {B : Nat} {w : World} {v : Value} {l : List α} (h : Own e E D B w v l) (hl : l ≠ []) : ∃ g c, v = .slice (some ⟨g, 0, none⟩) l.length c := by
  obtain ⟨_, _, _, xs, ⟨_, h2⟩, _⟩ := h
  rcases h2 with ⟨_, hn⟩ | ⟨g, cap, cur, rfl, _⟩
  · exact absurd (List.eq_nil_of_length_eq_zero hn) hl
  · exact ⟨g, cap, rfl⟩
/-- What the sort leaves: the order of the items. -/
theorem ordd_of {α : Type} [Inhabited α] {bef : α → α → Bool} {l : List α} {home : Nat → Nat} {f' : Nat → Int × Int} (s : Sw 0 l.length (plF home) f') (t : Srt' (ltC (cfP bef l)) plN f' 0 l.length) :
    Ordd (befN bef l) l.length ((List.range l.length).map fun k => plN (f' k)) ∧ ∀ k, k < l.length → f' k = plF home (plN (f' k)) := by
  have hf : ∀ k, k < l.length → f' k = plF home (plN (f' k)) := fun k hk => by
    obtain ⟨j, _, _, e⟩ := s.mem k (Nat.zero_le _) hk
    rw [e]
    simp [plF, plN]
  refine ⟨⟨?_, ?_⟩, hf⟩
  · have := (s.perm).map plN
    simp only [List.map_map] at this
    have e : (plN ∘ plF home) = id := by funext i; simp [plF, plN]
    rw [e, List.map_id] at this
    exact this
  · rw [List.pairwise_map]
    refine List.Pairwise.imp_of_mem (R := (· < ·)) (fun {a b} ha hb hab => ?_) List.pairwise_lt_range
    have := t a b (Nat.zero_le _) hab (List.mem_range.1 hb)
    unfold Lt' at this
    rw [cfP_lt, cfP_lt] at this
    exact this
/-! ### Laying one more item -/
def ordF (f : Nat → Int × Int) (n : Nat) : List Nat := (List.range n).map fun k => plN (f k)
theorem ordF_succ (f : Nat → Int × Int) (n : Nat) : ordF f (n + 1) = ordF f n ++ [plN (f n)] := by simp [ordF, List.range_succ]
theorem ordF_len (f : Nat → Int × Int) (n : Nat) : (ordF f n).length = n := by simp [ordF]
theorem ordF_nodup {f : Nat → Int × Int} {n k : Nat} (h : (ordF f n).Nodup) (hk : k ≤ n) : (ordF f k).Nodup := by
  obtain ⟨m, rfl⟩ : ∃ m, n = k + m := ⟨n - k, by omega⟩
  unfold ordF at h ⊢
  rw [List.range_add, List.map_append] at h
  exact (List.nodup_append.1 h).1
theorem layF_free {f : Nat → Int × Int} {n k cells : Nat} {home : Nat → Nat} (h : (ordF f n).Nodup) (hk : k < n) (hn : n ≤ cells) (hh : ∀ i, home i < cells) : HasFree (layF cells home (ordF f k)) cells :=
  (layF_laid (by rw [ordF_len]; omega) (ordF_nodup h (by omega)) fun i _ => hh i).free (by rw [ordF_len]; omega)
theorem layF_step {f : Nat → Int × Int} {k cells c : Nat} {home : Nat → Nat} (hp : probe (layF cells home (ordF f k)) cells cells (home (plN (f k))) = c) : (layF cells home (ordF f k)).set c (plN (f k) : Int) = layF cells home (ordF f (k + 1)) := by
  rw [ordF_succ, layF_snoc]
  unfold lay1
  rw [hp]
theorem fullC_of {out : List Int} {c : Nat} (h : c < out.length) : fullC out c = decide (0 ≤ out[c]) := by
  unfold fullC
  rw [List.getD_eq_getElem?_getD, List.getElem?_eq_getElem h, Option.getD_some]
end Go.Proofs.Ytaopjdjbpamhhaa
/- Proved: entries of a table as elements of slices. No condition. -/
namespace Go.Proofs.Ytaopjdjbpamhhaa
open Go Go.RowKit
set_option linter.unusedVariables false
set_option linter.unusedSimpArgs false
def entEl (seed : Int) : El (Bts × Bts) where
  k := 4
  R := fun D w cs x => ∃ u v, cs = [u, v, .int .u64 (coin seed 1 x.1), .int .u64 (coin seed 2 x.1)] ∧ BV D w u x.1 ∧ BV D w v x.2
  mono := fun hw ⟨u, v, h1, h2, h3⟩ => ⟨u, v, h1, h2.mono byteEl_k hw, h3.mono byteEl_k hw⟩
  len := fun ⟨u, v, h1, _⟩ => by rw [h1]; rfl
  one := fun ⟨u, v, h1, h2, h3⟩ x hx => by
    rw [h1] at hx
    simp only [List.mem_cons, List.not_mem_nil, or_false] at hx
    rcases hx with rfl | rfl | rfl | rfl
    · exact h2.cell1
    · exact h3.cell1
    · rfl
    · rfl
theorem entEl_k (seed : Int) : 0 < (entEl seed).k := by show 0 < 4; decide
theorem Rd.ent {seed : Int} {D : Nat → Prop} {w : World} {a : Option Addr} {l : List (Bts × Bts)} (h : Rd (entEl seed) D w a l) {i : Nat} (hi : i < l.length) : ∃ b o u v, a = some ⟨b, o, none⟩ ∧ D b ∧ w.cell? ⟨b, o + i * 4, none⟩ = some u ∧ w.cell? ⟨b, o + i * 4 + 1, none⟩ = some v ∧ w.cell? ⟨b, o + i * 4 + 2, none⟩ = some (.int .u64 (coin seed 1 l[i].1)) ∧ w.cell? ⟨b, o + i * 4 + 3, none⟩ = some (.int .u64 (coin seed 2 l[i].1)) ∧ BV D w u l[i].1 ∧ BV D w v l[i].2 := by
  obtain ⟨b, o, cs, h1, h2, h4, u, v, h5, h6, h7⟩ := h i hi
  subst h5
  have e0 := h4 0 (by simp)
  have e1 := h4 1 (by simp)
  have e2 := h4 2 (by simp)
  have e3 := h4 3 (by simp)
  exact ⟨b, o, u, v, h1, h2, by simpa [entEl] using e0, by simpa [entEl, Nat.add_assoc] using e1, by simpa [entEl, Nat.add_assoc] using e2, by simpa [entEl, Nat.add_assoc] using e3, h6, h7⟩
end Go.Proofs.Ytaopjdjbpamhhaa
/- Proved: items of the reference 01 as elements of slices. No condition. -/
namespace Go.Proofs.Ytaopjdjbpamhhaa
open Go Go.RowKit
set_option linter.unusedVariables false
set_option linter.unusedSimpArgs false
/-- An item: its start, its rank, its key. -/
abbrev ItemK := Int × Int × Bts
def itemEl : El ItemK where
  k := 3
  R := fun D w cs x => ∃ v, cs = [.int .i64 x.1, .int .u64 x.2.1, v] ∧ BV D w v x.2.2
  mono := fun hw ⟨v, h1, h2⟩ => ⟨v, h1, h2.mono byteEl_k hw⟩
  len := fun ⟨v, h1, _⟩ => by rw [h1]; rfl
  one := fun ⟨v, h1, h2⟩ u hu => by
    rw [h1] at hu
    simp only [List.mem_cons, List.not_mem_nil, or_false] at hu
    rcases hu with rfl | rfl | rfl
    · rfl
    · rfl
    · exact h2.cell1
theorem itemEl_k : 0 < itemEl.k := by decide
theorem Rd.item {D : Nat → Prop} {w : World} {a : Option Addr} {l : List ItemK} (h : Rd itemEl D w a l) {i : Nat} (hi : i < l.length) : ∃ b o v, a = some ⟨b, o, none⟩ ∧ D b ∧ w.cell? ⟨b, o + i * 3, none⟩ = some (.int .i64 l[i].1) ∧ w.cell? ⟨b, o + i * 3 + 1, none⟩ = some (.int .u64 l[i].2.1) ∧ w.cell? ⟨b, o + i * 3 + 2, none⟩ = some v ∧ BV D w v l[i].2.2 := by
  obtain ⟨b, o, cs, h1, h2, h4, v, h5, h6⟩ := h i hi
  subst h5
  have e0 := h4 0 (by simp)
  have e1 := h4 1 (by simp)
  have e2 := h4 2 (by simp)
  exact ⟨b, o, v, h1, h2, by simpa [itemEl] using e0, by simpa [itemEl, Nat.add_assoc] using e1, by simpa [itemEl, Nat.add_assoc] using e2, h6⟩
end Go.Proofs.Ytaopjdjbpamhhaa
