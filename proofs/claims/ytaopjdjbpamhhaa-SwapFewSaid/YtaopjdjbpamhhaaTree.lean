/- Proved: plain facts on trees: what pairs are in them, in order; lengths that are allowed. No program. No condition. -/
import Derived.Test.YtaopjdjbpamhhaaOrd5
namespace Go.Proofs.Ytaopjdjbpamhhaa
open Go Go.RowKit
set_option linter.unusedVariables false
set_option linter.unusedSimpArgs false

def Tr.pairs : Tr → List (Bts × Bts)
  | nil => []
  | nd l k v r => l.pairs ++ (k, v) :: r.pairs
theorem Tr.pairs_len : ∀ t : Tr, t.pairs.length = t.size
  | nil => rfl
  | nd l k v r => by simp only [Tr.pairs, Tr.size, List.length_append, List.length_cons, pairs_len l, pairs_len r]; omega
theorem Tr.split_pairs (key : Bts) : ∀ t : Tr, (t.split key).1.pairs ++ (t.split key).2.pairs = t.pairs
  | nil => rfl
  | nd l k v r => by
    have h1 := split_pairs key l
    have h2 := split_pairs key r
    rw [Tr.split]
    split
    · simp only [Tr.pairs, List.append_assoc, List.cons_append, h2]
    · simp only [Tr.pairs]
      rw [← List.append_assoc, h1]
theorem Tr.mergeN_pairs (seed : Int) : ∀ (n : Nat) (a b : Tr), a.size + b.size < n → (Tr.mergeN seed n a b).pairs = a.pairs ++ b.pairs
  | 0, _, _, h => by omega
  | n + 1, nil, b, _ => by rw [Tr.mergeN]; rfl
  | n + 1, nd l k v r, nil, _ => by rw [Tr.mergeN]; simp [Tr.pairs]
  | n + 1, nd l1 k1 v1 r1, nd l2 k2 v2 r2, h => by
    simp only [Tr.size] at h
    have h1 := mergeN_pairs seed n r1 (nd l2 k2 v2 r2) (by simp only [Tr.size]; omega)
    have h2 := mergeN_pairs seed n (nd l1 k1 v1 r1) l2 (by simp only [Tr.size]; omega)
    rw [Tr.mergeN]
    split
    · rw [Tr.pairs, h1]; simp [Tr.pairs]
    · rw [Tr.pairs, h2]; simp [Tr.pairs]
def okP (p : Bts × Bts) : Prop := 1 ≤ p.1.length ∧ p.1.length ≤ 64 ∧ p.2.length ≤ 1000
theorem Tr.ok_iff : ∀ t : Tr, t.ok ↔ ∀ p ∈ t.pairs, okP p
  | nil => by simp [Tr.ok, Tr.pairs]
  | nd l k v r => by
    simp only [Tr.ok, Tr.pairs, ok_iff l, ok_iff r, List.mem_append, List.mem_cons]
    constructor
    · rintro ⟨h1, h2, h3⟩ p (h | rfl | h)
      · exact h1 p h
      · exact h2
      · exact h3 p h
    · intro h
      exact ⟨fun p hp => h p (.inl hp), h (k, v) (.inr (.inl rfl)), fun p hp => h p (.inr (.inr hp))⟩
theorem Tr.split_ok {key : Bts} {t : Tr} (h : t.ok) : (t.split key).1.ok ∧ (t.split key).2.ok := by
  rw [Tr.ok_iff] at h
  rw [← Tr.split_pairs key t] at h
  exact ⟨(Tr.ok_iff _).2 fun p hp => h p (by simp [hp]), (Tr.ok_iff _).2 fun p hp => h p (by simp [hp])⟩
theorem Tr.mergeN_ok {seed : Int} {n : Nat} {a b : Tr} (hn : a.size + b.size < n) (ha : a.ok) (hb : b.ok) : (Tr.mergeN seed n a b).ok := by
  rw [Tr.ok_iff] at *
  rw [Tr.mergeN_pairs seed n a b hn]
  intro p hp
  exact (List.mem_append.1 hp).elim (ha p) (hb p)
theorem Tr.put_ok {seed : Int} {key val : Bts} (hk : 1 ≤ key.length ∧ key.length ≤ 64 ∧ val.length ≤ 1000) : ∀ {t : Tr}, t.ok → (t.put seed key val).ok
  | nil, _ => ⟨trivial, hk, trivial⟩
  | nd l k v r, h => by
    have hs := Tr.split_ok (key := key) h
    obtain ⟨h1, h2, h3⟩ := h
    rw [Tr.put]
    split
    · exact ⟨h1, ⟨h2.1, h2.2.1, hk.2.2⟩, h3⟩
    · split
      · exact ⟨hs.1, hk, hs.2⟩
      · split
        · exact ⟨put_ok hk h1, h2, h3⟩
        · exact ⟨h1, h2, put_ok hk h3⟩
theorem Tr.drop_ok {seed : Int} {key : Bts} : ∀ {t : Tr}, t.ok → (t.drop seed key).ok
  | nil, _ => trivial
  | nd l k v r, ⟨h1, h2, h3⟩ => by
    rw [Tr.drop]
    split
    · exact Tr.mergeN_ok (by omega) h1 h3
    · split
      · exact ⟨drop_ok h1, h2, h3⟩
      · exact ⟨h1, h2, drop_ok h3⟩
end Go.Proofs.Ytaopjdjbpamhhaa
