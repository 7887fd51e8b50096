/- Proved: texts of the families over slots, order and swap, joined, as far as the claim needs them. Conditions: as each theorem says. -/
import Derived.Test.YtaopjdjbpamhhaaSSVF
import Derived.Test.YtaopjdjbpamhhaaSSVI
import Derived.Test.YtaopjdjbpamhhaaSSVA
import Derived.Test.YtaopjdjbpamhhaaSSVM
import Derived.Test.YtaopjdjbpamhhaaSSVN
/- Proved: ops of the law functions of chapter 01 as elements of slices; contract of few; Put where it refuses. Conditions: ops in memory. -/
namespace Go.Proofs.Ytaopjdjbpamhhaa
open Go Go.RowKit Go.ChangeShapes Go.WideShapes
set_option linter.unusedVariables false
set_option linter.unusedSimpArgs false
/-- An op: its kind, its key, its value. -/
abbrev OpK := Int × Bts × Bts
def opEl : El OpK where
  k := 3
  R := fun D w cs x => ∃ u v, cs = [.int .i64 x.1, u, v] ∧ BV D w u x.2.1 ∧ BV D w v x.2.2
  mono := fun hw ⟨u, v, h1, h2, h3⟩ => ⟨u, v, h1, h2.mono byteEl_k hw, h3.mono byteEl_k hw⟩
  len := fun ⟨u, v, h1, _⟩ => by rw [h1]; rfl
  one := fun ⟨u, v, h1, h2, h3⟩ x hx => by
    rw [h1] at hx
    simp only [List.mem_cons, List.not_mem_nil, or_false] at hx
    rcases hx with rfl | rfl | rfl
    · rfl
    · exact h2.cell1
    · exact h3.cell1
theorem Rd.op {D : Nat → Prop} {w : World} {a : Option Addr} {l : List OpK} (h : Rd opEl D w a l) {i : Nat} (hi : i < l.length) : ∃ b o u v, a = some ⟨b, o, none⟩ ∧ D b ∧ w.cell? ⟨b, o + i * 3, none⟩ = some (.int .i64 l[i].1) ∧ w.cell? ⟨b, o + i * 3 + 1, none⟩ = some u ∧ w.cell? ⟨b, o + i * 3 + 2, none⟩ = some v ∧ BV D w u l[i].2.1 ∧ BV D w v l[i].2.2 := by
  obtain ⟨b, o, cs, h1, h2, h4, u, v, h5, h6, h7⟩ := h i hi
  subst h5
  have e0 := h4 0 (by simp)
  have e1 := h4 1 (by simp)
  have e2 := h4 2 (by simp)
  exact ⟨b, o, u, v, h1, h2, by simpa [opEl] using e0, by simpa [opEl, Nat.add_assoc] using e1, by simpa [opEl, Nat.add_assoc] using e2, h6, h7⟩
end Go.Proofs.Ytaopjdjbpamhhaa
/- Proved: plain: a table after a script; the path from home to a cell. No program. Conditions: different keys, at most 100000 pairs. -/
namespace Go.Proofs.Ytaopjdjbpamhhaa
open Go Go.RowKit
set_option linter.unusedVariables false
set_option linter.unusedSimpArgs false
theorem comesE_befI (seed : Int) (q p : Bts × Bts) : befI (0, coin seed 2 q.1, q.1) (0, coin seed 2 p.1, p.1) = comesE seed q p := by
  rw [Bool.eq_iff_iff, comesE_iff]
  unfold befI lessK
  simp only
  by_cases e : coin seed 2 q.1 = coin seed 2 p.1
  · rw [if_pos e]
    simp only [decide_eq_true_eq]
    constructor
    · exact fun h => .inr ⟨e.symm, h⟩
    · rintro (h | ⟨_, h⟩)
      · omega
      · exact h
  · rw [if_neg e]
    simp only [decide_eq_true_eq]
    constructor
    · exact fun h => .inl h
    · rintro (h | ⟨h, _⟩)
      · exact h
      · omega
end Go.Proofs.Ytaopjdjbpamhhaa
/- Proved: plain: a layout of items in another order. No program. Conditions: different keys. -/
namespace Go.Proofs.Ytaopjdjbpamhhaa
open Go Go.RowKit
set_option linter.unusedVariables false
set_option linter.unusedSimpArgs false
/-- The numbers in the cells, each by another one. -/
def mapC (f : Nat → Nat) (x : Int) : Int := if x < 0 then x else (f x.toNat : Int)
theorem fullC_map (f : Nat → Nat) (out : List Int) (c : Nat) : fullC (out.map (mapC f)) c = fullC out c := by
  unfold fullC
  rw [List.getD_eq_getElem?_getD, List.getD_eq_getElem?_getD, List.getElem?_map]
  cases h : out[c]? with
  | none => rfl
  | some x =>
    simp only [Option.map_some, Option.getD_some, mapC]
    refine decide_eq_decide.2 ?_
    split <;> omega
theorem probe_map (f : Nat → Nat) (out : List Int) (cells : Nat) : ∀ k c, probe (out.map (mapC f)) cells k c = probe out cells k c
  | 0, _ => rfl
  | k + 1, c => by rw [probe, probe, fullC_map, probe_map f out cells k]
theorem layF_map (f : Nat → Nat) (cells : Nat) (home : Nat → Nat) : ∀ (o : List Nat) (out : List Int), (o.map f).foldl (fun out i => lay1 cells out (home i) i) (out.map (mapC f)) = (o.foldl (fun out i => lay1 cells out (home (f i)) i) out).map (mapC f)
  | [], _ => rfl
  | i :: o, out => by
    rw [List.map_cons, List.foldl_cons, List.foldl_cons, ← layF_map f cells home o]
    congr 1
    unfold lay1
    rw [probe_map, List.map_set]
    congr 1
    try (unfold mapC; rw [if_neg (by omega), Int.toNat_natCast])
end Go.Proofs.Ytaopjdjbpamhhaa
/- Proved: plain: what Looks tells of the cells; how many cells are full, and how many have a key. No program. Conditions: different keys, at most 100000 pairs. -/
namespace Go.Proofs.Ytaopjdjbpamhhaa
open Go Go.RowKit
set_option linter.unusedVariables false
set_option linter.unusedSimpArgs false
theorem tget_mem : ∀ {l : List (Bts × Bts)} {k v : Bts}, tget l k = some v → (k, v) ∈ l
  | [], k, v, h => by cases h
  | p :: l, k, v, h => by
    rw [tget] at h
    split at h
    · rename_i e
      cases h
      subst e
      exact List.mem_cons_self
    · exact List.mem_cons_of_mem _ (tget_mem h)
theorem tget_of_mem : ∀ {l : List (Bts × Bts)} {k v : Bts}, Keyd l → (k, v) ∈ l → tget l k = some v
  | p :: l, k, v, hk, h => by
    obtain ⟨h1, h2⟩ := List.pairwise_cons.1 hk
    rw [tget]
    rcases List.mem_cons.1 h with rfl | h
    · rw [if_pos rfl]
    · rw [if_neg (h1 _ h)]
      exact tget_of_mem h2 h
theorem cellAt_mem {seed : Int} {l : List (Bts × Bts)} (hn : l.length ≤ 100000) {c : Nat} {p : Bts × Bts} (h : cellAt seed l c = some p) : p ∈ l := by
  have hc : c < (posE seed l).length := by
    have : c < (celE seed l).length := by
      unfold cellAt at h
      rw [List.getD_eq_getElem?_getD] at h
      cases hx : (celE seed l)[c]? with
      | none => rw [hx] at h; cases h
      | some x => exact (List.getElem?_eq_some_iff.1 hx).1
    rw [celE_len] at this
    rw [posE_len]
    exact this
  rcases posE_val hn hc with e | ⟨i, hi, e⟩
  · rw [cellAt_free hc (by omega)] at h; cases h
  · have hi' : i < (sortE seed l).length := by rw [sortE_len]; exact hi
    rw [cellAt_full hc e hi'] at h
    cases h
    exact (sortE_perm seed l).mem_iff.1 (List.getElem_mem hi')
end Go.Proofs.Ytaopjdjbpamhhaa
/- Proved: plain: tables by different scripts hold the same pairs. No program. No condition. -/
namespace Go.Proofs.Ytaopjdjbpamhhaa
open Go Go.RowKit
set_option linter.unusedVariables false
set_option linter.unusedSimpArgs false
theorem tput_keys : ∀ (l : List (Bts × Bts)) (k v : Bts), (tput l k v).map (·.1) = if k ∈ l.map (·.1) then l.map (·.1) else l.map (·.1) ++ [k]
  | [], k, v => by simp [tput]
  | p :: l, k, v => by
    rw [tput]
    split
    · rename_i e; subst e; simp
    · rename_i e
      rw [List.map_cons, tput_keys l k v]
      by_cases h : k ∈ l.map (·.1)
      · rw [if_pos h, if_pos (by simp only [List.map_cons, List.mem_cons]; exact .inr h)]; rfl
      · rw [if_neg h, if_neg (by simp only [List.map_cons, List.mem_cons]; rintro (h2 | h2); exact e h2.symm; exact h h2)]; rfl
theorem keyd_iff {l : List (Bts × Bts)} : Keyd l ↔ (l.map (·.1)).Nodup := by
  unfold Keyd List.Nodup
  rw [List.pairwise_map]
theorem tput_keyd {l : List (Bts × Bts)} (h : Keyd l) (k v : Bts) : Keyd (tput l k v) := by
  rw [keyd_iff] at *
  rw [tput_keys]
  split
  · exact h
  · rename_i hn
    rw [List.nodup_append]
    refine ⟨h, by simp, fun a ha b hb e => ?_⟩
    simp only [List.mem_singleton] at hb
    subst e
    subst hb
    exact hn ha
theorem tdel_keyd : ∀ {l : List (Bts × Bts)} (h : Keyd l) (k : Bts), Keyd (tdel l k)
  | [], h, k => h
  | p :: l, h, k => by
    obtain ⟨h1, h2⟩ := List.pairwise_cons.1 h
    rw [tdel]
    split
    · exact h2
    · exact List.pairwise_cons.2 ⟨fun q hq => h1 q (tdel_mem hq), tdel_keyd h2 k⟩
theorem tdel_ne : ∀ {l : List (Bts × Bts)} (h : Keyd l) (k : Bts) {p : Bts × Bts}, p ∈ tdel l k → p.1 ≠ k
  | [], h, k, p, hp => by simp [tdel] at hp
  | q :: l, h, k, p, hp => by
    obtain ⟨h1, h2⟩ := List.pairwise_cons.1 h
    rw [tdel] at hp
    split at hp
    · rename_i e
      subst e
      exact (h1 p hp).symm
    · rename_i e
      rcases List.mem_cons.1 hp with rfl | hp
      · exact e
      · exact tdel_ne h2 k hp
theorem keyd_nodup {l : List (Bts × Bts)} (h : Keyd l) : l.Nodup := List.Pairwise.imp (fun hn e => hn (by rw [e])) h
end Go.Proofs.Ytaopjdjbpamhhaa
