/- Proved: texts of the families over slots, order and swap, joined: laws of memory and regions, contracts of functions, plain facts. Conditions: as each theorem says. -/
import Derived.Test.YtaopjdjbpamhhaaPkB
import Derived.Test.YtaopjdjbpamhhaaPkA
/- Proved: contracts of the map's functions New, real, Len, Digest, Kin, find, part, SpanDigest. Conditions: maps in memory, of at most four hundred million pairs of lengths that are allowed. -/
namespace Go.Proofs.Ytaopjdjbpamhhaa
open Go Go.RowKit
set_option linter.unusedVariables false
set_option linter.unusedSimpArgs false

/-- The block of a map. -/
def mapObj (seed : Int) (p : Option Nat) : Obj := .cells #[.bool true, .int .u64 seed, ptr p] 123
/-- A map in memory, in blocks F. -/
structure MapIn (seed : Int) (w : World) (m : Nat) (t : Tr) (p : Option Nat) (S : List Nat) (D F : Nat → Prop) : Prop where
  ho : w.heap[m]? = some (mapObj seed p)
  ht : TreeAt seed D w t p S
  nd : S.Nodup
  ds : ∀ b ∈ S, ¬ D b ∧ b ≠ m
  dm : ¬ D m
  fm : F m
  fs : ∀ b ∈ S, F b
  fd : ∀ b, D b → b < w.heap.size → F b
  ok : t.ok
  sz : t.size ≤ 200000000
def MapAt (seed : Int) (w : World) (m : Nat) (t : Tr) (F : Nat → Prop) : Prop := ∃ p S D, MapIn seed w m t p S D F
theorem MapIn.c0 {seed : Int} {w : World} {m : Nat} {t : Tr} {p : Option Nat} {S : List Nat} {D F : Nat → Prop} (h : MapIn seed w m t p S D F) : w.cell? ⟨m, 0, none⟩ = some (.bool true) := by
  have := h.ho
  unfold mapObj at this
  simp [World.cell?, this]
theorem MapIn.c1 {seed : Int} {w : World} {m : Nat} {t : Tr} {p : Option Nat} {S : List Nat} {D F : Nat → Prop} (h : MapIn seed w m t p S D F) : w.cell? ⟨m, 1, none⟩ = some (.int .u64 seed) := by
  have := h.ho
  unfold mapObj at this
  simp [World.cell?, this]
theorem MapIn.c2 {seed : Int} {w : World} {m : Nat} {t : Tr} {p : Option Nat} {S : List Nat} {D F : Nat → Prop} (h : MapIn seed w m t p S D F) : w.cell? ⟨m, 2, none⟩ = some (ptr p) := by
  have := h.ho
  unfold mapObj at this
  simp [World.cell?, this]
theorem MapIn.f2 {seed : Int} {w : World} {m : Nat} {t : Tr} {p : Option Nat} {S : List Nat} {D F : Nat → Prop} (h : MapIn seed w m t p S D F) : w.frozen? ⟨m, 2, none⟩ = false := by
  have := h.ho
  unfold mapObj at this
  simp [World.frozen?, this]
theorem MapIn.at {seed : Int} {w w' : World} {m : Nat} {t : Tr} {p : Option Nat} {S : List Nat} {D F : Nat → Prop} (h : MapIn seed w m t p S D F) (e : w'.heap = w.heap) : MapIn seed w' m t p S D F :=
  ⟨by rw [e]; exact h.ho, h.ht.at e, h.nd, h.ds, h.dm, h.fm, h.fs, by rw [e]; exact h.fd, h.ok, h.sz⟩
theorem MapIn.bd {seed : Int} {w : World} {m : Nat} {t : Tr} {p : Option Nat} {S : List Nat} {D F : Nat → Prop} (h : MapIn seed w m t p S D F) : MapIn seed w m t p S (fun b => D b ∧ b < w.heap.size) F :=
  ⟨h.ho, h.ht.wide fun b hb hl => ⟨hb, hl⟩, h.nd, fun b hb => ⟨fun k => (h.ds b hb).1 k.1, (h.ds b hb).2⟩, fun k => h.dm k.1, h.fm, h.fs, fun b hb _ => h.fd b hb.1 hb.2, h.ok, h.sz⟩
theorem MapIn.kept {seed : Int} {w w' : World} {m : Nat} {t : Tr} {p : Option Nat} {S : List Nat} {D F X : Nat → Prop} (h : MapIn seed w m t p S D F) (k : Kept X w w') (hX : ∀ b, F b → ¬ X b) : MapIn seed w' m t p S (fun b => D b ∧ b < w.heap.size) F := by
  have h := h.bd
  exact ⟨k.obj (hX m h.fm) h.ho, h.ht.kept k (fun b hb hl => hX b (h.fd b hb hl)) fun b hb => hX b (h.fs b hb), h.nd, h.ds, h.dm, h.fm, h.fs, fun b hb _ => h.fd b hb hb.2, h.ok, h.sz⟩
theorem MapIn.kept0 {seed : Int} {w w' : World} {m : Nat} {t : Tr} {p : Option Nat} {S : List Nat} {D F : Nat → Prop} (h : MapIn seed w m t p S D F) (k : Kept Noneof w w') : MapIn seed w' m t p S (fun b => D b ∧ b < w.heap.size) F := h.kept k fun _ _ h => h
theorem MapAt.at {seed : Int} {w w' : World} {m : Nat} {t : Tr} {F : Nat → Prop} (h : MapAt seed w m t F) (e : w'.heap = w.heap) : MapAt seed w' m t F := by
  obtain ⟨p, S, D, h⟩ := h
  exact ⟨p, S, D, h.at e⟩
theorem MapAt.kept {seed : Int} {w w' : World} {m : Nat} {t : Tr} {F X : Nat → Prop} (h : MapAt seed w m t F) (k : Kept X w w') (hX : ∀ b, F b → ¬ X b) : MapAt seed w' m t F := by
  obtain ⟨p, S, D, h⟩ := h
  have h := h.bd
  exact ⟨p, S, _, ⟨k.obj (hX m h.fm) h.ho, h.ht.kept k (fun b hb hl => hX b (h.fd b hb hl)) fun b hb => hX b (h.fs b hb), h.nd, h.ds, h.dm, h.fm, h.fs, fun b hb _ => h.fd b hb hb.2, h.ok, h.sz⟩⟩
theorem MapAt.wide {seed : Int} {w : World} {m : Nat} {t : Tr} {F F' : Nat → Prop} (h : MapAt seed w m t F) (hF : ∀ b, F b → b < w.heap.size → F' b) : MapAt seed w m t F' := by
  obtain ⟨p, S, D, h⟩ := h
  exact ⟨p, S, D, h.ho, h.ht, h.nd, h.ds, h.dm, hF m h.fm (block_lt h.ho), fun b hb => hF b (h.fs b hb) (h.ht.lt b hb), fun b hb hl => hF b (h.fd b hb hl) hl, h.ok, h.sz⟩

theorem orreal_calls {seed : Int} {w : World} {m : Nat} {t : Tr} {F : Nat → Prop} (h : MapAt seed w m t F) :
    Calls Try.prog 121 #[.pointer (some ⟨m, 0, none⟩)] w fun e w' => e = .returned (.bool true) ∧ w' = w := by
  obtain ⟨p, S, D, h⟩ := h
  have c0 := h.c0
  clear h
  go_enter Try.func121, Try.ntmps121
  go_wp2
  go_ret
  exact ⟨rfl, rfl⟩
theorem orreal_nil {w : World} : Calls Try.prog 121 #[.pointer none] w fun e w' => e = .returned (.bool false) ∧ w' = w := by
  go_enter Try.func121, Try.ntmps121
  go_wp2
  go_ret
  exact ⟨rfl, rfl⟩
/-- A map that no function has returned. -/
theorem orreal_zero {w : World} {m : Nat} (h : w.cell? ⟨m, 0, none⟩ = some (.bool false)) : Calls Try.prog 121 #[.pointer (some ⟨m, 0, none⟩)] w fun e w' => e = .returned (.bool false) ∧ w' = w := by
  go_enter Try.func121, Try.ntmps121
  go_wp2
  go_ret
  exact ⟨rfl, rfl⟩

theorem orNew_calls {seed : Int} {w : World} :
    Calls Try.prog 72 #[.int .u64 seed] w fun e w' => e = .returned (.pointer (some ⟨w.heap.size, 0, none⟩)) ∧ MapAt seed w' w.heap.size .nil (fun b => b = w.heap.size) ∧ Kept Noneof w w' ∧ w.heap.size < w'.heap.size := by
  go_enter Try.func72, Try.ntmps72
  go_wp2
  go_ret
  refine ⟨rfl, ⟨none, [], Noneof, heap_alloc_new _ _, ⟨rfl, rfl⟩, by simp, by simp, fun h => h, rfl, by simp, fun _ h => h.elim, trivial, by simp [Tr.size]⟩, (Kept.refl _ _).alloc _, by simp⟩

theorem orLen_calls {seed : Int} {w : World} {m : Nat} {t : Tr} {F : Nat → Prop} (h : MapAt seed w m t F) :
    Calls Try.prog 57 #[.pointer (some ⟨m, 0, none⟩)] w fun e w' => e = .returned (.int .i64 t.size) ∧ w' = w := by
  have H := Lib.hid h
  obtain ⟨p, S, D, h⟩ := h
  have c2 := h.c2
  have HT := Lib.hid h.ht
  clear h
  go_enter Try.func57, Try.ntmps57
  go_wp2_with fail
  refine (orreal_calls H.out).mono ?_
  rintro e w' ⟨rfl, rfl⟩
  go_wp2_with fail
  refine (orcount_calls HT.out.child).mono ?_
  rintro e w' ⟨rfl, rfl⟩
  go_wp2
  go_ret
  exact ⟨rfl, rfl⟩
theorem orDigest_calls {seed : Int} {w : World} {m : Nat} {t : Tr} {F : Nat → Prop} (h : MapAt seed w m t F) :
    Calls Try.prog 63 #[.pointer (some ⟨m, 0, none⟩)] w fun e w' => e = .returned (.int .u64 (t.dg seed)) ∧ w' = w := by
  have H := Lib.hid h
  obtain ⟨p, S, D, h⟩ := h
  have c2 := h.c2
  have HT := Lib.hid h.ht
  clear h
  go_enter Try.func63, Try.ntmps63
  go_wp2_with fail
  refine (orreal_calls H.out).mono ?_
  rintro e w' ⟨rfl, rfl⟩
  go_wp2_with fail
  refine (orsum_calls HT.out.child).mono ?_
  rintro e w' ⟨rfl, rfl⟩
  go_wp2
  go_ret
  exact ⟨rfl, rfl⟩

/-- The value of a key. -/
def Tr.get (key : Bts) : Tr → Option Bts
  | nil => none
  | nd l k v r => if cmpB key k = 0 then some v else if cmpB key k < 0 then l.get key else r.get key
theorem Tr.get_has (key : Bts) : ∀ t : Tr, (t.get key).isSome = t.has key
  | nil => rfl
  | nd l k v r => by
    have h1 := get_has key l
    have h2 := get_has key r
    rw [Tr.get, Tr.has]
    split
    · rfl
    · split <;> assumption
theorem orside_calls {w : World} {b : Nat} {pl pr : Option Nat} {c : Int} (h3 : w.cell? ⟨b, 3, none⟩ = some (ptr pl)) (h4 : w.cell? ⟨b, 4, none⟩ = some (ptr pr)) :
    Calls Try.prog 168 #[.pointer (some ⟨b, 0, none⟩), .int .i64 c] w fun e w' => e = .returned (ptr (if c < 0 then pl else pr)) ∧ w' = w := by
  by_cases hc : c < 0
  · have HE := Lib.hid (show (if c < 0 then pl else pr) = pl from if_pos hc)
    go_enter Try.func168, Try.ntmps168
    go_wp2
    go_ret
    exact ⟨rfl, rfl⟩
  · have HE := Lib.hid (show (if c < 0 then pl else pr) = pr from if_neg hc)
    go_enter Try.func168, Try.ntmps168
    go_wp2
    go_ret
    exact ⟨rfl, rfl⟩

/-- What find tells: no node, or that of the key. -/
def Found (D : Nat → Prop) (w : World) (o : Option Bts) (q : Option Nat) : Prop := match q with
  | none => o = none
  | some b => ∃ v vv, o = some v ∧ w.cell? ⟨b, 1, none⟩ = some vv ∧ BV D w vv v
set_option maxHeartbeats 1000000 in
theorem orfind_calls {seed : Int} {w : World} {m : Nat} {t : Tr} {p : Option Nat} {S : List Nat} {D F D2 : Nat → Prop} {kx : Value} {key : Bts} (h : MapIn seed w m t p S D F) (hk : BV D2 w kx key) :
    Calls Try.prog 138 #[.pointer (some ⟨m, 0, none⟩), kx] w fun e w' => ∃ q, e = .returned (ptr q) ∧ Found D w (t.get key) q ∧ w' = w := by
  have H := Lib.hid (show MapAt seed w m t F from ⟨p, S, D, h⟩)
  have c2 := h.c2
  have HT := Lib.hid h.ht
  have HK := Lib.hid hk
  clear h hk
  go_enter Try.func138, Try.ntmps138
  go_wp2_with fail
  refine (orreal_calls H.out).mono ?_
  rintro e w' ⟨rfl, rfl⟩
  go_wp2
  go_loopg [5, 6] t.size (fun g x _ wr => ∃ (t' : Tr) (q : Option Addr) (p' : Option Nat) (S' : List Nat), x = .pointer q ∧ Hid (q = adr p') ∧ Hid (TreeAt seed D w' t' p' S') ∧ Hid (t.get key = t'.get key) ∧ t'.size ≤ g ∧ wr = w')
  case atStart => exact ⟨t, adr p, p, S, rfl, rfl, HT.out, rfl, Nat.le_refl _, rfl⟩
  case round =>
    obtain ⟨t', q, p', S', rfl, Q, T, G, hg, rfl⟩ := hrel
    rcases t' with _ | ⟨l, k, v, r⟩
    · obtain ⟨rfl, _⟩ := T.out
      have hq : q = none := Q.out
      subst hq
      go_wp2
      go_ret
      exact ⟨none, rfl, G.out, rfl⟩
    · obtain ⟨b, pl, pr, Sl, Sr, kv, vv, rfl, _, ho, hkv, hvv, hl, hr⟩ := T.out
      have hq : q = some ⟨b, 0, none⟩ := Q.out
      subst hq
      obtain ⟨c0, c1, _, c3, c4, _, _, _⟩ := NodeAt.of ho
      have KV := Lib.hid hkv
      have VV := Lib.hid hvv
      have L := Lib.hid hl
      have R := Lib.hid hr
      have C1 := Lib.hid c1
      clear ho hkv hvv hl hr c1
      simp only [Tr.size] at hg
      obtain ⟨g, rfl⟩ : ∃ g', gk = g' + 1 := ⟨gk - 1, by omega⟩
      by_cases e0 : cmpB key k = 0
      · have t0 := cmpS_eq0 e0
        have E0 := Lib.hid e0
        clear e0
        go_wp2_with fail
        refine (byCompare_calls HK.out KV.out).mono ?_
        rintro e w1 ⟨rfl, rfl⟩
        go_wp2
        go_ret
        exact ⟨some b, rfl, ⟨v, vv, by rw [G.out, Tr.get, if_pos E0.out], C1.out, VV.out⟩, rfl⟩
      · have t0 := cmpS_ne0 e0
        have E0 := Lib.hid e0
        clear e0
        by_cases hb : cmpB key k < 0
        · have GS := Lib.hid (show (Tr.nd l k v r).get key = l.get key by rw [Tr.get, if_neg E0.out, if_pos hb])
          have HC := Lib.hid hb
          clear hb
          have hc := cmpS_lt HC.out
          go_wp2_with fail
          refine (byCompare_calls HK.out KV.out).mono ?_
          rintro e w1 ⟨rfl, rfl⟩
          go_wp2_with fail
          refine (orside_calls c3 c4).mono ?_
          rintro e w1 ⟨rfl, rfl⟩
          go_wp2
          go_roundg g
          case measure => omega
          case rel => exact ⟨l, _, pl, Sl, rfl, rfl, L.out, by show _ = _; rw [G.out, GS.out], by omega, rfl⟩
        · have GS := Lib.hid (show (Tr.nd l k v r).get key = r.get key by rw [Tr.get, if_neg E0.out, if_neg hb])
          have HC := Lib.hid hb
          clear hb
          have hc := cmpS_ge HC.out
          go_wp2_with fail
          refine (byCompare_calls HK.out KV.out).mono ?_
          rintro e w1 ⟨rfl, rfl⟩
          go_wp2_with fail
          refine (orside_calls c3 c4).mono ?_
          rintro e w1 ⟨rfl, rfl⟩
          go_wp2
          go_roundg g
          case measure => omega
          case rel => exact ⟨r, _, pr, Sr, rfl, rfl, R.out, by show _ = _; rw [G.out, GS.out], by omega, rfl⟩
end Go.Proofs.Ytaopjdjbpamhhaa
/- Proved: plain facts on trees: what pairs are in them, in order; lengths that are allowed. No program. No condition. -/
namespace Go.Proofs.Ytaopjdjbpamhhaa
open Go Go.RowKit
set_option linter.unusedVariables false
set_option linter.unusedSimpArgs false

def Tr.pairs : Tr → List (Bts × Bts)
  | nil => []
  | nd l k v r => l.pairs ++ (k, v) :: r.pairs
theorem Tr.pairs_len : ∀ t : Tr, t.pairs.length = t.size
  | nil => rfl
  | nd l k v r => by simp only [Tr.pairs, Tr.size, List.length_append, List.length_cons, pairs_len l, pairs_len r]; omega
theorem Tr.split_pairs (key : Bts) : ∀ t : Tr, (t.split key).1.pairs ++ (t.split key).2.pairs = t.pairs
  | nil => rfl
  | nd l k v r => by
    have h1 := split_pairs key l
    have h2 := split_pairs key r
    rw [Tr.split]
    split
    · simp only [Tr.pairs, List.append_assoc, List.cons_append, h2]
    · simp only [Tr.pairs]
      rw [← List.append_assoc, h1]
theorem Tr.mergeN_pairs (seed : Int) : ∀ (n : Nat) (a b : Tr), a.size + b.size < n → (Tr.mergeN seed n a b).pairs = a.pairs ++ b.pairs
  | 0, _, _, h => by omega
  | n + 1, nil, b, _ => by rw [Tr.mergeN]; rfl
  | n + 1, nd l k v r, nil, _ => by rw [Tr.mergeN]; simp [Tr.pairs]
  | n + 1, nd l1 k1 v1 r1, nd l2 k2 v2 r2, h => by
    simp only [Tr.size] at h
    have h1 := mergeN_pairs seed n r1 (nd l2 k2 v2 r2) (by simp only [Tr.size]; omega)
    have h2 := mergeN_pairs seed n (nd l1 k1 v1 r1) l2 (by simp only [Tr.size]; omega)
    rw [Tr.mergeN]
    split
    · rw [Tr.pairs, h1]; simp [Tr.pairs]
    · rw [Tr.pairs, h2]; simp [Tr.pairs]
def okP (p : Bts × Bts) : Prop := 1 ≤ p.1.length ∧ p.1.length ≤ 64 ∧ p.2.length ≤ 1000
theorem Tr.ok_iff : ∀ t : Tr, t.ok ↔ ∀ p ∈ t.pairs, okP p
  | nil => by simp [Tr.ok, Tr.pairs]
  | nd l k v r => by
    simp only [Tr.ok, Tr.pairs, ok_iff l, ok_iff r, List.mem_append, List.mem_cons]
    constructor
    · rintro ⟨h1, h2, h3⟩ p (h | rfl | h)
      · exact h1 p h
      · exact h2
      · exact h3 p h
    · intro h
      exact ⟨fun p hp => h p (.inl hp), h (k, v) (.inr (.inl rfl)), fun p hp => h p (.inr (.inr hp))⟩
theorem Tr.split_ok {key : Bts} {t : Tr} (h : t.ok) : (t.split key).1.ok ∧ (t.split key).2.ok := by
  rw [Tr.ok_iff] at h
  rw [← Tr.split_pairs key t] at h
  exact ⟨(Tr.ok_iff _).2 fun p hp => h p (by simp [hp]), (Tr.ok_iff _).2 fun p hp => h p (by simp [hp])⟩
theorem Tr.mergeN_ok {seed : Int} {n : Nat} {a b : Tr} (hn : a.size + b.size < n) (ha : a.ok) (hb : b.ok) : (Tr.mergeN seed n a b).ok := by
  rw [Tr.ok_iff] at *
  rw [Tr.mergeN_pairs seed n a b hn]
  intro p hp
  exact (List.mem_append.1 hp).elim (ha p) (hb p)
theorem Tr.put_ok {seed : Int} {key val : Bts} (hk : 1 ≤ key.length ∧ key.length ≤ 64 ∧ val.length ≤ 1000) : ∀ {t : Tr}, t.ok → (t.put seed key val).ok
  | nil, _ => ⟨trivial, hk, trivial⟩
  | nd l k v r, h => by
    have hs := Tr.split_ok (key := key) h
    obtain ⟨h1, h2, h3⟩ := h
    rw [Tr.put]
    split
    · exact ⟨h1, ⟨h2.1, h2.2.1, hk.2.2⟩, h3⟩
    · split
      · exact ⟨hs.1, hk, hs.2⟩
      · split
        · exact ⟨put_ok hk h1, h2, h3⟩
        · exact ⟨h1, h2, put_ok hk h3⟩
theorem Tr.drop_ok {seed : Int} {key : Bts} : ∀ {t : Tr}, t.ok → (t.drop seed key).ok
  | nil, _ => trivial
  | nd l k v r, ⟨h1, h2, h3⟩ => by
    rw [Tr.drop]
    split
    · exact Tr.mergeN_ok (by omega) h1 h3
    · split
      · exact ⟨drop_ok h1, h2, h3⟩
      · exact ⟨h1, h2, drop_ok h3⟩
end Go.Proofs.Ytaopjdjbpamhhaa
/- Proved: contracts of bytes.Clone and of the map's functions Put, Drop, Get, Kin. Conditions: maps in memory, of at most two hundred million pairs of lengths that are allowed. -/
namespace Go.Proofs.Ytaopjdjbpamhhaa
open Go Go.RowKit
set_option linter.unusedVariables false
set_option linter.unusedSimpArgs false

set_option maxHeartbeats 400000 in
theorem byClone_calls {D : Nat → Prop} {v : Value} {l : Bts} {w : World} (h : BV D w v l) :
    Calls Try.prog 95 #[v] w fun e w' => ∃ v', e = .returned v' ∧ Own 5 byteEl Noneof w.heap.size w' v' l ∧ Kept Noneof w w' := by
  have HS := Lib.hid h
  obtain ⟨a, c, rfl, ⟨hc, hn⟩, m, hr⟩ := h
  have heq := fun (wx : World) => Lib.run_eql_slice_nil (P := Try.prog) wx 31 5 a l.length c 0 0 tBytes.ht
  cases a with
  | none =>
    have hl : l = [] := by
      cases l with
      | nil => rfl
      | cons x t => obtain ⟨b, o, cs, h1, _⟩ := hr 0 (by simp); cases h1
    subst hl
    obtain rfl := hn rfl
    rw [List.length_nil] at heq ⊢
    clear hr hn HS hc m
    go_enter Try.func95, Try.ntmps95
    go_wp2
    go_ret
    exact ⟨_, rfl, Own.nil _ _ _ _ _, Kept.refl _ _⟩
  | some p =>
    clear hr hn
    go_enter Try.func95, Try.ntmps95
    go_wp2_with (at_builtin; refine wl_app_bytes rfl (.tmp 5) (.tmp 6) _ rfl tBytes _ [] rfl (Own.lit0 5 byteEl Noneof w) _ _ rfl (HS.out.kept byteEl_k ((Kept.refl Noneof w).alloc _) fun _ _ _ h => h) ?c4 ?c6 ?_; (case c4 => simp; omega); (case c6 => simp))
    intro x3 w3 o3 e3 _
    go_wp2
    go_ret
    exact ⟨_, rfl, by simpa using o3, ((Kept.refl Noneof w).alloc _).trans e3 fun b hb => .inr (by simp [Value.ownBlock] at hb; omega)⟩

set_option maxRecDepth 100000 in
set_option maxHeartbeats 2000000 in
theorem orMapPut_bad {seed : Int} {w : World} {m : Nat} {t : Tr} {F D1 D2 : Nat → Prop} {kv vv : Value} {k v : Bts} (h : MapAt seed w m t F) (h1 : BV D1 w kv k) (h2 : BV D2 w vv v) (hb : allowedK k v = false) :
    Calls Try.prog 73 #[.pointer (some ⟨m, 0, none⟩), kv, vv] w fun e w' => e = .returned (.int .i64 1) ∧ Drew w w' := by
  have H := Lib.hid h
  obtain ⟨a1, c1, rfl, _, _, _⟩ := h1
  obtain ⟨a2, c2, rfl, _, _, _⟩ := h2
  have HB := Lib.hid (show ¬ (1 ≤ k.length ∧ k.length ≤ 64 ∧ v.length ≤ 1000) from fun h => by simp [allowedK, h] at hb)
  clear h hb
  go_enter Try.func73, Try.ntmps73
  go_wp2_with fail
  refine (orreal_calls H.out).mono ?_
  rintro e w' ⟨rfl, rfl⟩
  go_wp2_with fail
  all_goals first | exact (HB.out ⟨by omega, by omega, by omega⟩).elim | (go_ret; exact ⟨rfl, Drew.refl _⟩)
theorem seedOf {seed : Int} {w w' : World} {m : Nat} {t : Tr} {p : Option Nat} {S : List Nat} {D F X : Nat → Prop} (h : MapIn seed w m t p S D F) (k : Kept X w w') (hX : ∀ b, F b → ¬ X b) : w'.cell? ⟨m, 1, none⟩ = some (.int .u64 seed) := k.cell (hX m h.fm) h.c1

set_option maxRecDepth 100000 in
set_option maxHeartbeats 4000000 in
theorem orMapPut_ok {seed : Int} {w : World} {m : Nat} {t : Tr} {F D1 D2 : Nat → Prop} {kv vv : Value} {k v : Bts} (h : MapAt seed w m t F) (h1 : BV D1 w kv k) (h2 : BV D2 w vv v) (hb : allowedK k v = true) (hs : t.size < 100000) :
    Calls Try.prog 73 #[.pointer (some ⟨m, 0, none⟩), kv, vv] w fun e w' => e = .returned (.int .i64 0) ∧ ∃ F', MapAt seed w' m (t.put seed k v) F' ∧ Kept F w w' ∧ (∀ b, F' b → F b ∨ w.heap.size ≤ b) := by
  have H := Lib.hid h
  have HK := Lib.hid h1
  have HV := Lib.hid h2
  obtain ⟨p, S, D, hm⟩ := h
  have c1 := hm.c1
  have c2 := hm.c2
  have HM := Lib.hid hm.bd
  obtain ⟨a1, n1, rfl, _, _, _⟩ := h1
  obtain ⟨a2, n2, rfl, _, _, _⟩ := h2
  have hl : 1 ≤ k.length ∧ k.length ≤ 64 ∧ v.length ≤ 1000 := by simpa [allowedK, and_assoc] using hb
  obtain ⟨l1, l2, l3⟩ := hl
  clear hb hm
  have HL := Lib.hid (show decide ((100000 : Int) ≤ (t.size : Int)) = false from decide_eq_false (by omega))
  clear hs
  go_enter Try.func73, Try.ntmps73
  go_wp2_with fail
  refine (orreal_calls H.out).mono ?_
  rintro e w ⟨rfl, rfl⟩
  go_wp2_with fail
  refine (orfind_calls HM.out HK.out).mono ?_
  rintro e w ⟨q, rfl, _, rfl⟩
  rcases q with _ | qb
  go_wp2_with fail
  refine (orcount_calls (by exact HM.out.ht.child)).mono ?_
  rintro e w ⟨rfl, rfl⟩
  have hlim := HL.out
  go_wp2_with fail
  clear hlim
  rotate_left
  go_wp2
  all_goals
    refine wp_region_kept 12 [(1, .act IsSlice fun u w1 => Own 5 byteEl Noneof w.heap.size w1 u k), (2, .act IsSlice fun u w1 => Own 5 byteEl Noneof w.heap.size w1 u [] ∧ ∀ p n c, u = .slice (some p) n c → c = n), (4, .act IsSlice fun u w1 => Own 5 byteEl Noneof w.heap.size w1 u v), (10, .con (.int .u64 (coin seed 3 k)))] Noneof (by kernel_rfl) (by kernel_rfl) (by kernel_rfl) ?_
    simp only [List.take_succ_cons, List.take_zero, List.drop_succ_cons, List.drop_zero]
    have hS : ∀ w', Kept Noneof w w' → w'.cell? ⟨m, 1, none⟩ = some (.int .u64 seed) := fun w' k => k.cell (fun h => h) c1
    (refine SeqL.val (v := ?_) hS rfl (by rfl) (fun wx hSw => ?_) ?_; rotate_left; (focus ((try dsimp only at hSw); go_simp; (try with_reducible rfl))); (try simp only [Act.put, List.setIfInBounds_toArray, List.set_cons_zero, List.set_cons_succ]))
    refine SeqL.act rfl rfl (by rfl) (by rfl) isSlice (fun wx hx hh K hK => ?_) (fun u1 hu1 => ?_)
    · go_simp
      refine (byClone_calls (HK.out.kept byteEl_k hx fun _ _ _ h => h)).mono ?_
      rintro e w1 ⟨v', rfl, o1, k1⟩
      exact hK.out v' w1 o1.slice' k1 (o1.base hx.size)
    obtain ⟨b1, n1', c1', rfl⟩ := hu1
    (try simp only [Act.put, List.setIfInBounds_toArray, List.set_cons_zero, List.set_cons_succ])
    refine SeqL.act rfl rfl (by rfl) (by rfl) isSlice (fun wx hx hh K hK => ?_) (fun u1 hu1 => ?_)
    · go_simp
      exact hK.out _ _ ⟨_, _, _, rfl⟩ ((Kept.refl _ _).alloc _) ⟨(Own.lit0 _ _ _ _).base hx.size, fun p n c h => by cases h; rfl⟩
    obtain ⟨b2, n2', c2', rfl⟩ := hu1
    (try simp only [Act.put, List.setIfInBounds_toArray, List.set_cons_zero, List.set_cons_succ])
    (refine SeqL.val (v := ?_) hS rfl (by rfl) (fun wx hSw => ?_) ?_; rotate_left; (focus ((try dsimp only at hSw); go_simp; (try with_reducible rfl))); (try simp only [Act.put, List.setIfInBounds_toArray, List.set_cons_zero, List.set_cons_succ]))
    refine SeqL.act rfl rfl (by rfl) (by rfl) isSlice (fun wx hx hh K hK => ?_) (fun u1 hu1 => ?_)
    · obtain ⟨wy, _, ⟨o2, f2⟩, hxy⟩ := hh 2 (by decide) (by kernel_rfl) _ _ _ rfl rfl
      refine wp_app_full_bytes (.tmp 40) (.tmp 41) _ rfl tBytes _ [] rfl (o2.kept hxy fun _ h => h.elim) f2 _ v rfl (HV.out.kept byteEl_k hx fun _ _ _ h => h) (by simp; omega) hx.size ?_
      rintro v' w' o4 k4 _
      exact hK.out _ _ o4.slice' k4 o4
    obtain ⟨b4, n4', c4', rfl⟩ := hu1
    (try simp only [Act.put, List.setIfInBounds_toArray, List.set_cons_zero, List.set_cons_succ])
    (refine SeqL.val (v := ?_) hS rfl (by rfl) (fun wx hSw => ?_) ?_; rotate_left; (focus ((try dsimp only at hSw); go_simp; (try with_reducible rfl))); (try simp only [Act.put, List.setIfInBounds_toArray, List.set_cons_zero, List.set_cons_succ]))
    (refine SeqL.val (v := ?_) hS rfl (by rfl) (fun wx hSw => ?_) ?_; rotate_left; (focus ((try dsimp only at hSw); go_simp; (try with_reducible rfl))); (try simp only [Act.put, List.setIfInBounds_toArray, List.set_cons_zero, List.set_cons_succ]))
    (refine SeqL.val (v := ?_) hS rfl (by rfl) (fun wx hSw => ?_) ?_; rotate_left; (focus ((try dsimp only at hSw); go_simp; (try with_reducible rfl))); (try simp only [Act.put, List.setIfInBounds_toArray, List.set_cons_zero, List.set_cons_succ]))
    (refine SeqL.val (v := ?_) hS rfl (by rfl) (fun wx hSw => ?_) ?_; rotate_left; (focus ((try dsimp only at hSw); go_simp; (try with_reducible rfl))); (try simp only [Act.put, List.setIfInBounds_toArray, List.set_cons_zero, List.set_cons_succ]))
    (refine SeqL.val (v := ?_) hS rfl (by rfl) (fun wx hSw => ?_) ?_; rotate_left; (focus ((try dsimp only at hSw); go_simp; (try with_reducible rfl))); (try simp only [Act.put, List.setIfInBounds_toArray, List.set_cons_zero, List.set_cons_succ]))
    refine SeqL.con rfl rfl (by rfl) (by rfl) (fun wx hx hh K hK => ?_) ?_
    · go_simp
      refine (slCoin_calls (HK.out.kept byteEl_k hx fun _ _ _ h => h)).mono ?_
      rintro e w1 ⟨rfl, k1⟩
      exact hK.out w1 ((Kept.refl _ _).drewn k1)
    (try simp only [Act.put, List.setIfInBounds_toArray, List.set_cons_zero, List.set_cons_succ])
    (refine SeqL.val (v := ?_) hS rfl (by rfl) (fun wx hSw => ?_) ?_; rotate_left; (focus ((try dsimp only at hSw); go_simp; (try with_reducible rfl))); (try simp only [Act.put, List.setIfInBounds_toArray, List.set_cons_zero, List.set_cons_succ]))
    refine SeqL.nil fun wz hz hh => ?_

    obtain ⟨wa, _, oa, ka⟩ := hh 1 (by decide) _ _ _ rfl rfl
    obtain ⟨wb, _, ob, kb⟩ := hh 4 (by decide) _ _ _ rfl rfl
    have OA := Lib.hid (show Own 5 byteEl Noneof w.heap.size wz (.slice b1 n1' c1') k from oa.kept ka fun _ h => h.elim)
    have OB := Lib.hid (show Own 5 byteEl Noneof w.heap.size wz (.slice b4 n4' c4') v from ob.kept kb fun _ h => h.elim)
    have HZ := Lib.hid hz
    clear hh oa ob ka kb hz hS
    have d2 : ∀ o, (wz.alloc o).cell? ⟨m, 2, none⟩ = some (ptr p) := fun o => (HZ.out.alloc o).cell (p := ⟨m, 2, none⟩) (fun h => h) c2
    go_wp2_with fail
    have ka := Lib.hid (HZ.out.alloc (nodeObj (.slice b1 n1' c1') (.slice b4 n4' c4') (coin seed 3 k) none none 0 0))
    have M2 := Lib.hid (HM.out.kept0 ka.out)
    have hsz := HZ.out.size
    have lm : m < w.heap.size := block_lt HM.out.ho
    have HS := Lib.hid (show ∀ b ∈ S, b < w.heap.size from HM.out.ht.lt)
    have hD2 : ∀ b, ((.slice b1 n1' c1' : Value).ownBlock = some b ∨ (.slice b4 n4' c4' : Value).ownBlock = some b) → w.heap.size ≤ b ∧ b < wz.heap.size := fun b h => h.elim (OA.out.lt b) (OB.out.lt b)
    have HD2 := Lib.hid hD2
    clear hD2
    refine (orput_calls (seed := seed) (D := fun b => (D b ∧ b < w.heap.size) ∨ (.slice b1 n1' c1' : Value).ownBlock = some b ∨ (.slice b4 n4' c4' : Value).ownBlock = some b) (m := m) (bx := wz.heap.size) (kx := .slice b1 n1' c1') (vx := .slice b4 n4' c4') ⟨l1, l2, l3⟩ t p S _ 0 0 ?_ HM.out.nd ?_ ?_ HM.out.ok ?_ (heap_alloc_new wz _) ?_ ?_ ?_ ?_ ?_).mono ?_
    · exact M2.out.ht.wide fun b hb _ => .inl hb.1
    · intro b hb
      have hlt := HS.out b hb
      exact ⟨fun h => h.elim (HM.out.ds b hb).1 fun h => by have := (HD2.out b h).1; omega, (HM.out.ds b hb).2⟩
    · exact M2.out.c1
    · have := HM.out.sz; omega
    · exact (OA.out.alloc _).rd (fun _ h => h.elim) fun b h => .inr (.inl h)
    · exact (OB.out.alloc _).rd (fun _ h => h.elim) fun b h => .inr (.inr h)
    · intro h; have := HS.out _ h; omega
    · exact fun h => h.elim (fun h => by omega) fun h => by have := (HD2.out _ h).2; omega
    · omega
    rintro e w3 ⟨p', S', rfl, t3, n3, s3, k3⟩
    have T3 := Lib.hid t3
    have N3 := Lib.hid n3
    have S3 := Lib.hid s3
    have K3 := Lib.hid k3
    have hm3 : w3.heap[m]? = some (mapObj seed p) := k3.obj (p := m) (fun h => h.elim (by omega) fun h => (HM.out.ds m h).2 rfl) M2.out.ho
    have HM3 := Lib.hid hm3
    have f2 : w3.frozen? ⟨m, 2, none⟩ = false := by
      unfold mapObj at hm3
      simp [World.frozen?, hm3]
    have e2 : ∃ u, w3.cell? ⟨m, 2, none⟩ = some u := by
      unfold mapObj at hm3
      exact ⟨ptr p, by simp [World.cell?, hm3]⟩
    obtain ⟨u2, e2⟩ := e2
    clear t3 n3 s3 k3 hm3
    go_wp2
    go_ret
    have KW := Lib.hid ((Kept.refl (fun x => x = m) w3).setCell (p := ⟨m, 2, none⟩) (.inl rfl) (ptr p'))
    refine ⟨rfl, fun b => F b ∨ w.heap.size ≤ b, ⟨p', S', fun b => (D b ∧ b < w.heap.size) ∨ (.slice b1 n1' c1' : Value).ownBlock = some b ∨ (.slice b4 n4' c4' : Value).ownBlock = some b, ?_⟩, ?_, fun b h => h⟩
    · refine ⟨setCell_obj HM3.out _, T3.out.kept KW.out ?_ ?_, N3.out, ?_, ?_, .inl HM.out.fm, ?_, ?_, Tr.put_ok ⟨l1, l2, l3⟩ HM.out.ok, ?_⟩
      · rintro b h _ rfl
        exact h.elim (fun h => HM.out.dm h) fun h => by have := (HD2.out _ h).1; omega
      · rintro b h rfl
        exact (S3.out _ h).elim (fun h => by omega) fun h => (HM.out.ds _ h).2 rfl
      · intro b hb
        rcases S3.out b hb with rfl | hb
        · exact ⟨fun h => h.elim (fun h => by omega) fun h => by have := (HD2.out _ h).2; omega, by omega⟩
        · have hlt := HS.out b hb
          exact ⟨fun h => h.elim (HM.out.ds b hb).1 fun h => by have := (HD2.out b h).1; omega, (HM.out.ds b hb).2⟩
      · exact fun h => h.elim (fun h => HM.out.dm h) fun h => by have := (HD2.out _ h).1; omega
      · intro b hb
        rcases S3.out b hb with rfl | hb
        · exact .inr hsz
        · exact .inl (HM.out.fs b hb)
      · intro b hb _
        exact hb.elim (fun h => .inl (HM.out.fd b h h.2)) fun h => .inr (HD2.out b h).1
      · have h1 := Tr.put_size seed k v t
        have h2 := of_decide_eq_false HL.out
        omega
    · refine (((HZ.out.mono fun _ h => h.elim).alloc _).trans K3.out ?_).setCell (.inl HM.out.fm) _
      exact fun x h => h.elim (fun h => .inr (by omega)) fun h => .inl (HM.out.fs x h)

end Go.Proofs.Ytaopjdjbpamhhaa
/- Proved: contracts of the map's functions Drop, Get, Kin. Conditions: maps in memory, of pairs of lengths that are allowed. -/
namespace Go.Proofs.Ytaopjdjbpamhhaa
open Go Go.RowKit
set_option linter.unusedVariables false
set_option linter.unusedSimpArgs false

theorem MapAt.open {seed : Int} {w : World} {m : Nat} {t : Tr} {F : Nat → Prop} (h : MapAt seed w m t F) : ∃ p S D, MapIn seed w m t p S D F ∧ ∀ b, D b → b < w.heap.size := by
  obtain ⟨p, S, D, h⟩ := h
  exact ⟨p, S, _, h.bd, fun b h => h.2⟩
theorem orMapDrop_none {seed : Int} {w : World} {m : Nat} {t : Tr} {F D1 : Nat → Prop} {kv : Value} {k : Bts} (h : MapAt seed w m t F) (h1 : BV D1 w kv k) (hb : t.get k = none) :
    Calls Try.prog 75 #[.pointer (some ⟨m, 0, none⟩), kv] w fun e w' => e = .returned (.int .i64 3) ∧ w' = w := by
  have H := Lib.hid h
  have HK := Lib.hid h1
  obtain ⟨p, S, D, hm⟩ := h
  have HM := Lib.hid hm
  have HB := Lib.hid hb
  clear hm hb h1
  go_enter Try.func75, Try.ntmps75
  go_wp2_with fail
  refine (orreal_calls H.out).mono ?_
  rintro e w ⟨rfl, rfl⟩
  go_wp2_with fail
  refine (orfind_calls HM.out HK.out).mono ?_
  rintro e w ⟨q, rfl, hq, rfl⟩
  have hq' : q = none := by
    cases q with
    | none => rfl
    | some b => obtain ⟨x, vv, h1, _⟩ := hq; rw [HB.out] at h1; cases h1
  subst hq'
  clear hq
  go_wp2
  go_ret
  exact ⟨rfl, rfl⟩

set_option maxHeartbeats 1000000 in
theorem orMapDrop_ok {seed : Int} {w : World} {m : Nat} {t : Tr} {F D1 : Nat → Prop} {kv : Value} {k : Bts} (h : MapAt seed w m t F) (h1 : BV D1 w kv k) (hD : ∀ b, D1 b → b < w.heap.size → ¬ F b) (hb : (t.get k).isSome = true) :
    Calls Try.prog 75 #[.pointer (some ⟨m, 0, none⟩), kv] w fun e w' => e = .returned (.int .i64 0) ∧ MapAt seed w' m (t.drop seed k) F ∧ Kept F w w' := by
  have H := Lib.hid h
  have HK := Lib.hid (SV.bd byteEl_k h1)
  have HD1 := Lib.hid hD
  obtain ⟨p, S, D, hm, hlt⟩ := h.open
  have HL := Lib.hid hlt
  have c2 := hm.c2
  have HM := Lib.hid hm
  have HB := Lib.hid hb
  clear hm hb h1 hD hlt
  go_enter Try.func75, Try.ntmps75
  go_wp2_with fail
  refine (orreal_calls H.out).mono ?_
  rintro e w ⟨rfl, rfl⟩
  go_wp2_with fail
  refine (orfind_calls HM.out HK.out).mono ?_
  rintro e w ⟨q, rfl, hq, rfl⟩
  have hq' : ∃ b, q = some b := by
    cases q with
    | none => have h1 : t.get k = none := hq; have := HB.out; rw [h1] at this; cases this
    | some b => exact ⟨b, rfl⟩
  obtain ⟨qb, rfl⟩ := hq'
  clear hq
  go_wp2_with fail
  refine (ordrop_calls (seed := seed) (D := D) t p S w HM.out.ht HM.out.nd (fun b hb => ⟨(HM.out.ds b hb).1, fun h => HD1.out b h.1 h.2 (HM.out.fs b hb), (HM.out.ds b hb).2⟩) HM.out.c1 HM.out.ok (by have := HM.out.sz; omega) HK.out (by rw [← Tr.get_has]; exact HB.out)).mono ?_
  rintro e w3 ⟨p', S', rfl, t3, n3, s3, k3⟩
  have T3 := Lib.hid t3
  have N3 := Lib.hid n3
  have S3 := Lib.hid s3
  have K3 := Lib.hid k3
  have hm3 : w3.heap[m]? = some (mapObj seed p) := k3.obj (p := m) (fun h => (HM.out.ds m h).2 rfl) HM.out.ho
  have HM3 := Lib.hid hm3
  have f2 : w3.frozen? ⟨m, 2, none⟩ = false := by
    unfold mapObj at hm3
    simp [World.frozen?, hm3]
  have e2 : ∃ u, w3.cell? ⟨m, 2, none⟩ = some u := by
    unfold mapObj at hm3
    exact ⟨ptr p, by simp [World.cell?, hm3]⟩
  obtain ⟨u2, e2⟩ := e2
  clear t3 n3 s3 k3 hm3
  go_wp2
  go_ret
  have KW := Lib.hid ((Kept.refl (fun x => x = m) w3).setCell (p := ⟨m, 2, none⟩) (.inl rfl) (ptr p'))
  refine ⟨rfl, ⟨p', S', D, ?_⟩, ?_⟩
  · refine ⟨setCell_obj HM3.out _, T3.out.kept KW.out (fun b h _ e => HM.out.dm (e ▸ h)) (fun b hb e => (HM.out.ds b (S3.out b hb)).2 e), N3.out, fun b hb => HM.out.ds b (S3.out b hb), HM.out.dm, HM.out.fm, fun b hb => HM.out.fs b (S3.out b hb), fun b hb _ => HM.out.fd b hb (HL.out b hb), Tr.drop_ok HM.out.ok, ?_⟩
    have := Tr.drop_size seed k t
    have := HM.out.sz
    omega
  · exact (K3.out.mono fun x h => HM.out.fs x h).setCell (.inl HM.out.fm) _

theorem orKin_calls {s1 s2 : Int} {w : World} {m1 m2 : Nat} {t1 t2 : Tr} {F1 F2 : Nat → Prop} (h : MapAt s1 w m1 t1 F1) (h2 : MapAt s2 w m2 t2 F2) :
    Calls Try.prog 115 #[.pointer (some ⟨m1, 0, none⟩), .pointer (some ⟨m2, 0, none⟩)] w fun e w' => e = .returned (.bool (s1 == s2)) ∧ Drew w w' := by
  have H1 := Lib.hid h
  have H2 := Lib.hid h2
  obtain ⟨_, _, _, hm1⟩ := h
  obtain ⟨_, _, _, hm2⟩ := h2
  have c1 := hm1.c1
  have c2 := hm2.c1
  clear hm1 hm2
  go_enter Try.func115, Try.ntmps115
  go_wp2
  go_quiet ((first | ((go_at_call 121; first | exact Drew.q ((orreal_calls (by exact H1.out.at rfl)).mono (by rintro e w ⟨h, rfl⟩; exact ⟨h, Drew.refl _⟩)) | exact Drew.qa ((orreal_calls (by exact H1.out.at rfl)).mono (by rintro e w ⟨h, rfl⟩; exact ⟨h, Drew.refl _⟩)))) | ((go_at_call 121; first | exact Drew.q ((orreal_calls (by exact H2.out.at rfl)).mono (by rintro e w ⟨h, rfl⟩; exact ⟨h, Drew.refl _⟩)) | exact Drew.qa ((orreal_calls (by exact H2.out.at rfl)).mono (by rintro e w ⟨h, rfl⟩; exact ⟨h, Drew.refl _⟩))))))
  go_wp2
  go_ret
  exact ⟨rfl, (by repeat (first | exact Drew.refl _ | exact ⟨_, rfl⟩ | apply Drew.step | apply Drew.one))⟩
end Go.Proofs.Ytaopjdjbpamhhaa
/- Proved: contracts of the map's functions part and SpanDigest. Conditions: maps in memory, of pairs of lengths that are allowed. -/
namespace Go.Proofs.Ytaopjdjbpamhhaa
open Go Go.RowKit
set_option linter.unusedVariables false
set_option linter.unusedSimpArgs false

/-- The tree of the pairs from low on (if fr is set) and below high (if tt is set). -/
def Tr.cut : Tr → Bts → Bool → Bts → Bool → Tr
  | nil, _, _, _, _ => nil
  | nd l k v r, low, fr, high, tt => if fr = false ∧ tt = false then nd l k v r else if fr = true ∧ cmpB k low < 0 then r.cut low fr high tt else if tt = true ∧ ¬ cmpB k high < 0 then l.cut low fr high tt else nd (l.cut low fr [] false) k v (r.cut [] false high tt)
theorem Tr.cut_size : ∀ (t : Tr) (low : Bts) (fr : Bool) (high : Bts) (tt : Bool), (t.cut low fr high tt).size ≤ t.size
  | nil, _, _, _, _ => by simp [Tr.cut]
  | nd l k v r, low, fr, high, tt => by
    have h1 := cut_size l low fr high tt
    have h2 := cut_size r low fr high tt
    have h3 := cut_size l low fr [] false
    have h4 := cut_size r [] false high tt
    rw [Tr.cut]
    split
    · exact Nat.le_refl _
    · split
      · simp only [Tr.size]; omega
      · split
        · simp only [Tr.size]; omega
        · simp only [Tr.size]; omega
theorem BV.nil (D : Nat → Prop) (w : World) : BV D w (.slice none 0 0) [] := ⟨none, 0, rfl, ⟨by simp, fun _ => rfl⟩, by simp, Rd.nil _ _ _ _⟩

set_option maxRecDepth 100000 in
set_option maxHeartbeats 4000000 in
theorem orpart_calls {seed : Int} {D : Nat → Prop} {m : Nat} : ∀ (t : Tr) (p : Option Nat) (S : List Nat) (D1 D2 : Nat → Prop) (lo hi : Value) (low high : Bts) (fr tt : Bool) (w : World), TreeAt seed D w t p S → w.cell? ⟨m, 1, none⟩ = some (.int .u64 seed) → t.ok → t.size ≤ 500000000 → BV D1 w lo low → BV D2 w hi high →
    Calls Try.prog 160 #[.pointer (some ⟨m, 0, none⟩), ptr p, lo, .bool fr, hi, .bool tt] w fun e w' => e = .returned (.tuple #[.int .i64 ((t.cut low fr high tt).size : Int), .int .u64 ((t.cut low fr high tt).dg seed)]) ∧ Kept Noneof w w' := by
  intro t
  induction t with
  | nil =>
    intro p S D1 D2 lo hi low high fr tt w ht hm ok sz h1 h2
    obtain ⟨rfl, rfl⟩ := ht
    obtain ⟨a1, c1, rfl, _, _, _⟩ := h1
    obtain ⟨a2, c2, rfl, _, _, _⟩ := h2
    go_enter Try.func160, Try.ntmps160
    go_wp2_with fail
    refine (orcount_calls (p := none) (n := 0) (d := 0) ⟨rfl, rfl⟩).mono ?_
    rintro e w ⟨rfl, rfl⟩
    go_wp2_with fail
    refine (orsum_calls (p := none) (n := 0) (d := 0) ⟨rfl, rfl⟩).mono ?_
    rintro e w ⟨rfl, rfl⟩
    go_wp2
    go_ret2
    exact ⟨rfl, Kept.refl _ _⟩
  | nd l k v r il ir =>
    intro p S D1 D2 lo hi low high fr tt w ht hm ok sz h1 h2
    have IL := Lib.hid il
    have IR := Lib.hid ir
    have HT := Lib.hid ht
    have HM := Lib.hid hm
    have OK := Lib.hid ok
    have SZ := Lib.hid sz
    have H1 := Lib.hid h1
    have H2 := Lib.hid h2
    obtain ⟨b, pl, pr, Sl, Sr, kv, vv, rfl, rfl, ho, hkv, hvv, hl, hr⟩ := ht
    obtain ⟨a1, c1', rfl, _, _, _⟩ := h1
    obtain ⟨a2, c2', rfl, _, _, _⟩ := h2
    obtain ⟨c0, c1, _, c3, c4, c5, c6, _⟩ := NodeAt.of ho
    have KV := Lib.hid hkv
    have VV := Lib.hid hvv
    have L := Lib.hid hl
    have R := Lib.hid hr
    have SZL := Lib.hid (show l.size ≤ 500000000 by simp only [Tr.size] at sz; omega)
    have SZR := Lib.hid (show r.size ≤ 500000000 by simp only [Tr.size] at sz; omega)
    clear ho hkv hvv hl hr ok sz il ir c5 c6
    change Calls _ _ #[.pointer (some ⟨m, 0, none⟩), .pointer (some ⟨b, 0, none⟩), _, _, _, _] _ _
    cases fr with
    | false =>
      cases tt with
      | false =>
        clear c0 c1 c3 c4 hm
        go_enter Try.func160, Try.ntmps160
        go_wp2_with fail
        refine (orcount_calls (HT.out.child)).mono ?_
        rintro e w ⟨rfl, rfl⟩
        go_wp2_with fail
        refine (orsum_calls (HT.out.child)).mono ?_
        rintro e w ⟨rfl, rfl⟩
        go_wp2
        go_ret2
        exact ⟨rfl, Kept.refl _ _⟩
      | true =>
        by_cases hc : cmpB k high < 0
        · have T2 := Lib.hid (show (decide (0 ≤ cmpS k high)) = false from decide_eq_false (by have := cmpS_lt hc; omega))
          have CUT := Lib.hid (show (Tr.nd l k v r).cut low false high true = .nd (l.cut low false [] false) k v (r.cut [] false high true) by simp [Tr.cut, hc])
          clear hc
          go_enter Try.func160, Try.ntmps160
          go_wp2_with fail
          refine (byCompare_calls KV.out H2.out).mono ?_
          rintro e w ⟨rfl, rfl⟩
          have tT2 := T2.out
          go_wp2_with fail
          (
      refine (IL.out pl Sl D1 Noneof _ _ low [] _ false w L.out HM.out OK.out.1 SZL.out (by exact H1.out) (BV.nil _ _)).mono ?_
      rintro e w1 ⟨rfl, k1⟩
      have K1 := Lib.hid k1
      have d0 := k1.cell (p := ⟨b, 0, none⟩) (fun h => h) c0
      have d1 := k1.cell (p := ⟨b, 1, none⟩) (fun h => h) c1
      have d4 := k1.cell (p := ⟨b, 4, none⟩) (fun h => h) c4
      clear c0 c1 c3 c4 k1
      go_wp2_with fail
      refine (IR.out pr Sr Noneof D2 _ _ [] high false _ w1 (R.out.kept K1.out (fun _ _ _ h => h) fun _ _ h => h) (K1.out.cell (fun h => h) HM.out) OK.out.2.2 SZR.out (BV.nil _ _) (by exact H2.out.kept byteEl_k K1.out fun _ _ _ h => h)).mono ?_
      rintro e w2 ⟨rfl, k2⟩
      have K2 := Lib.hid (K1.out.tr k2)
      have e0 := k2.cell (p := ⟨b, 0, none⟩) (fun h => h) d0
      have e1 := k2.cell (p := ⟨b, 1, none⟩) (fun h => h) d1
      have em := K2.out.cell (p := ⟨m, 1, none⟩) (fun h => h) HM.out
      clear d0 d1 d4 k2 hm
      go_wp2
      refine wp_region_kept 21 [(18, .con (.int .u64 (mark seed ((l.cut low false [] false).dg seed) k v ((r.cut [] false high true).dg seed))))] Noneof (by kernel_rfl) (by kernel_rfl) (by kernel_rfl) ?_; simp only [List.take_succ_cons, List.take_zero, List.drop_succ_cons, List.drop_zero]
      have hS : ∀ w', Kept Noneof w2 w' → w'.cell? ⟨m, 1, none⟩ = some (.int .u64 seed) ∧ w'.cell? ⟨b, 0, none⟩ = some kv ∧ w'.cell? ⟨b, 1, none⟩ = some vv := fun w' k => ⟨k.cell (fun h => h) em, k.cell (fun h => h) e0, k.cell (fun h => h) e1⟩
      iterate 18 (refine SeqL.val (v := ?_) hS rfl (by rfl) (fun wx hSw => ?_) ?_; rotate_left; (focus ((try dsimp only at hSw); go_simp; (try with_reducible rfl))); (try simp only [Act.put, List.setIfInBounds_toArray, List.set_cons_zero, List.set_cons_succ]))
      refine SeqL.con rfl rfl (by rfl) (by rfl) (fun wx hx hh K hK => ?_) ?_
      · go_simp
        refine (ordigestOf_calls (seed := seed) (Tr.dg_u64 _ _) (Tr.dg_u64 _ _) (by exact (KV.out.kept byteEl_k (K2.out.tr hx) fun _ _ _ h => h)) (by exact (VV.out.kept byteEl_k (K2.out.tr hx) fun _ _ _ h => h)) OK.out.2.1.2.1 OK.out.2.1.2.2).mono ?_
        rintro e w3 ⟨rfl, k3⟩
        exact hK.out _ k3
      (try simp only [Act.put, List.setIfInBounds_toArray, List.set_cons_zero, List.set_cons_succ])
      repeat (refine SeqL.val (v := ?_) hS rfl (by rfl) (fun wx hSw => ?_) ?_; rotate_left; (focus ((try dsimp only at hSw); go_simp; (try with_reducible rfl))); (try simp only [Act.put, List.setIfInBounds_toArray, List.set_cons_zero, List.set_cons_succ]))
      refine SeqL.nil fun wz hz hh => ?_
      have KZ := Lib.hid (K2.out.tr hz)
      clear hh hS e0 e1 em hz
      go_wp2
      go_ret2
      refine ⟨?_, KZ.out⟩
      rw [CUT.out]
      have z1 := Tr.cut_size l low false [] false
      have z2 := Tr.cut_size r [] false high true
      have z3 := SZ.out
      simp only [Tr.size] at z3
      have e1 : IntKind.i64.wrap (IntKind.i64.wrap (((l.cut low false [] false).size : Int) + 1) + ((r.cut [] false high true).size : Int)) = (((Tr.nd (l.cut low false [] false) k v (r.cut [] false high true)).size : Nat) : Int) := by
        rw [IntWalk.i64_in (_ + 1) ⟨by omega, by omega⟩, IntWalk.i64_in _ ⟨by omega, by omega⟩]
        simp only [Tr.size]
        omega
      rw [← e1]
      rfl)
        · have T2 := Lib.hid (show (decide (0 ≤ cmpS k high)) = true from decide_eq_true (cmpS_ge hc))
          have CUT := Lib.hid (show (Tr.nd l k v r).cut low false high true = l.cut low false high true by simp [Tr.cut, hc])
          clear hc
          go_enter Try.func160, Try.ntmps160
          go_wp2_with fail
          refine (byCompare_calls KV.out H2.out).mono ?_
          rintro e w ⟨rfl, rfl⟩
          have tT2 := T2.out
          go_wp2_with fail
          refine (IL.out pl Sl D1 D2 _ _ low high false true w L.out HM.out OK.out.1 SZL.out (by exact H1.out) (by exact H2.out)).mono ?_
          rintro e w1 ⟨rfl, k1⟩
          go_wp2
          go_ret2
          exact ⟨by rw [CUT.out]; rfl, k1⟩
    | true =>
      by_cases hd : cmpB k low < 0
      · have T1 := Lib.hid (show (decide (cmpS k low < 0)) = true from decide_eq_true (cmpS_lt hd))
        cases tt with
        | false =>
          have CUT := Lib.hid (show (Tr.nd l k v r).cut low true high false = r.cut low true high false by simp [Tr.cut, hd])
          clear hd
          go_enter Try.func160, Try.ntmps160
          go_wp2_with fail
          refine (byCompare_calls KV.out H1.out).mono ?_
          rintro e w ⟨rfl, rfl⟩
          have tT1 := T1.out
          go_wp2_with fail
          refine (IR.out pr Sr D1 D2 _ _ low high true false w R.out HM.out OK.out.2.2 SZR.out (by exact H1.out) (by exact H2.out)).mono ?_
          rintro e w1 ⟨rfl, k1⟩
          go_wp2
          go_ret2
          exact ⟨by rw [CUT.out]; rfl, k1⟩
        | true =>
          have CUT := Lib.hid (show (Tr.nd l k v r).cut low true high true = r.cut low true high true by simp [Tr.cut, hd])
          clear hd
          go_enter Try.func160, Try.ntmps160
          go_wp2_with fail
          refine (byCompare_calls KV.out H1.out).mono ?_
          rintro e w ⟨rfl, rfl⟩
          have tT1 := T1.out
          go_wp2_with fail
          refine (IR.out pr Sr D1 D2 _ _ low high true true w R.out HM.out OK.out.2.2 SZR.out (by exact H1.out) (by exact H2.out)).mono ?_
          rintro e w1 ⟨rfl, k1⟩
          go_wp2
          go_ret2
          exact ⟨by rw [CUT.out]; rfl, k1⟩
      · have T1 := Lib.hid (show (decide (cmpS k low < 0)) = false from decide_eq_false (by have := cmpS_ge hd; omega))
        cases tt with
        | false =>
          have CUT := Lib.hid (show (Tr.nd l k v r).cut low true high false = .nd (l.cut low true [] false) k v (r.cut [] false high false) by simp [Tr.cut, hd])
          clear hd
          go_enter Try.func160, Try.ntmps160
          go_wp2_with fail
          refine (byCompare_calls KV.out H1.out).mono ?_
          rintro e w ⟨rfl, rfl⟩
          have tT1 := T1.out
          go_wp2_with fail
          (
      refine (IL.out pl Sl D1 Noneof _ _ low [] _ false w L.out HM.out OK.out.1 SZL.out (by exact H1.out) (BV.nil _ _)).mono ?_
      rintro e w1 ⟨rfl, k1⟩
      have K1 := Lib.hid k1
      have d0 := k1.cell (p := ⟨b, 0, none⟩) (fun h => h) c0
      have d1 := k1.cell (p := ⟨b, 1, none⟩) (fun h => h) c1
      have d4 := k1.cell (p := ⟨b, 4, none⟩) (fun h => h) c4
      clear c0 c1 c3 c4 k1
      go_wp2_with fail
      refine (IR.out pr Sr Noneof D2 _ _ [] high false _ w1 (R.out.kept K1.out (fun _ _ _ h => h) fun _ _ h => h) (K1.out.cell (fun h => h) HM.out) OK.out.2.2 SZR.out (BV.nil _ _) (by exact H2.out.kept byteEl_k K1.out fun _ _ _ h => h)).mono ?_
      rintro e w2 ⟨rfl, k2⟩
      have K2 := Lib.hid (K1.out.tr k2)
      have e0 := k2.cell (p := ⟨b, 0, none⟩) (fun h => h) d0
      have e1 := k2.cell (p := ⟨b, 1, none⟩) (fun h => h) d1
      have em := K2.out.cell (p := ⟨m, 1, none⟩) (fun h => h) HM.out
      clear d0 d1 d4 k2 hm
      go_wp2
      refine wp_region_kept 21 [(18, .con (.int .u64 (mark seed ((l.cut low true [] false).dg seed) k v ((r.cut [] false high false).dg seed))))] Noneof (by kernel_rfl) (by kernel_rfl) (by kernel_rfl) ?_; simp only [List.take_succ_cons, List.take_zero, List.drop_succ_cons, List.drop_zero]
      have hS : ∀ w', Kept Noneof w2 w' → w'.cell? ⟨m, 1, none⟩ = some (.int .u64 seed) ∧ w'.cell? ⟨b, 0, none⟩ = some kv ∧ w'.cell? ⟨b, 1, none⟩ = some vv := fun w' k => ⟨k.cell (fun h => h) em, k.cell (fun h => h) e0, k.cell (fun h => h) e1⟩
      iterate 18 (refine SeqL.val (v := ?_) hS rfl (by rfl) (fun wx hSw => ?_) ?_; rotate_left; (focus ((try dsimp only at hSw); go_simp; (try with_reducible rfl))); (try simp only [Act.put, List.setIfInBounds_toArray, List.set_cons_zero, List.set_cons_succ]))
      refine SeqL.con rfl rfl (by rfl) (by rfl) (fun wx hx hh K hK => ?_) ?_
      · go_simp
        refine (ordigestOf_calls (seed := seed) (Tr.dg_u64 _ _) (Tr.dg_u64 _ _) (by exact (KV.out.kept byteEl_k (K2.out.tr hx) fun _ _ _ h => h)) (by exact (VV.out.kept byteEl_k (K2.out.tr hx) fun _ _ _ h => h)) OK.out.2.1.2.1 OK.out.2.1.2.2).mono ?_
        rintro e w3 ⟨rfl, k3⟩
        exact hK.out _ k3
      (try simp only [Act.put, List.setIfInBounds_toArray, List.set_cons_zero, List.set_cons_succ])
      repeat (refine SeqL.val (v := ?_) hS rfl (by rfl) (fun wx hSw => ?_) ?_; rotate_left; (focus ((try dsimp only at hSw); go_simp; (try with_reducible rfl))); (try simp only [Act.put, List.setIfInBounds_toArray, List.set_cons_zero, List.set_cons_succ]))
      refine SeqL.nil fun wz hz hh => ?_
      have KZ := Lib.hid (K2.out.tr hz)
      clear hh hS e0 e1 em hz
      go_wp2
      go_ret2
      refine ⟨?_, KZ.out⟩
      rw [CUT.out]
      have z1 := Tr.cut_size l low true [] false
      have z2 := Tr.cut_size r [] false high false
      have z3 := SZ.out
      simp only [Tr.size] at z3
      have e1 : IntKind.i64.wrap (IntKind.i64.wrap (((l.cut low true [] false).size : Int) + 1) + ((r.cut [] false high false).size : Int)) = (((Tr.nd (l.cut low true [] false) k v (r.cut [] false high false)).size : Nat) : Int) := by
        rw [IntWalk.i64_in (_ + 1) ⟨by omega, by omega⟩, IntWalk.i64_in _ ⟨by omega, by omega⟩]
        simp only [Tr.size]
        omega
      rw [← e1]
      rfl)
        | true =>
          by_cases hc : cmpB k high < 0
          · have T2 := Lib.hid (show (decide (0 ≤ cmpS k high)) = false from decide_eq_false (by have := cmpS_lt hc; omega))
            have CUT := Lib.hid (show (Tr.nd l k v r).cut low true high true = .nd (l.cut low true [] false) k v (r.cut [] false high true) by simp [Tr.cut, hc, hd])
            clear hc hd
            go_enter Try.func160, Try.ntmps160
            go_wp2_with fail
            refine (byCompare_calls KV.out H1.out).mono ?_
            rintro e w ⟨rfl, rfl⟩
            have tT1 := T1.out
            go_wp2_with fail
            refine (byCompare_calls KV.out H2.out).mono ?_
            rintro e w ⟨rfl, rfl⟩
            have tT2 := T2.out
            go_wp2_with fail
            
            (
      refine (IL.out pl Sl D1 Noneof _ _ low [] _ false w L.out HM.out OK.out.1 SZL.out (by exact H1.out) (BV.nil _ _)).mono ?_
      rintro e w1 ⟨rfl, k1⟩
      have K1 := Lib.hid k1
      have d0 := k1.cell (p := ⟨b, 0, none⟩) (fun h => h) c0
      have d1 := k1.cell (p := ⟨b, 1, none⟩) (fun h => h) c1
      have d4 := k1.cell (p := ⟨b, 4, none⟩) (fun h => h) c4
      clear c0 c1 c3 c4 k1
      go_wp2_with fail
      refine (IR.out pr Sr Noneof D2 _ _ [] high false _ w1 (R.out.kept K1.out (fun _ _ _ h => h) fun _ _ h => h) (K1.out.cell (fun h => h) HM.out) OK.out.2.2 SZR.out (BV.nil _ _) (by exact H2.out.kept byteEl_k K1.out fun _ _ _ h => h)).mono ?_
      rintro e w2 ⟨rfl, k2⟩
      have K2 := Lib.hid (K1.out.tr k2)
      have e0 := k2.cell (p := ⟨b, 0, none⟩) (fun h => h) d0
      have e1 := k2.cell (p := ⟨b, 1, none⟩) (fun h => h) d1
      have em := K2.out.cell (p := ⟨m, 1, none⟩) (fun h => h) HM.out
      clear d0 d1 d4 k2 hm
      go_wp2
      refine wp_region_kept 21 [(18, .con (.int .u64 (mark seed ((l.cut low true [] false).dg seed) k v ((r.cut [] false high true).dg seed))))] Noneof (by kernel_rfl) (by kernel_rfl) (by kernel_rfl) ?_; simp only [List.take_succ_cons, List.take_zero, List.drop_succ_cons, List.drop_zero]
      have hS : ∀ w', Kept Noneof w2 w' → w'.cell? ⟨m, 1, none⟩ = some (.int .u64 seed) ∧ w'.cell? ⟨b, 0, none⟩ = some kv ∧ w'.cell? ⟨b, 1, none⟩ = some vv := fun w' k => ⟨k.cell (fun h => h) em, k.cell (fun h => h) e0, k.cell (fun h => h) e1⟩
      iterate 18 (refine SeqL.val (v := ?_) hS rfl (by rfl) (fun wx hSw => ?_) ?_; rotate_left; (focus ((try dsimp only at hSw); go_simp; (try with_reducible rfl))); (try simp only [Act.put, List.setIfInBounds_toArray, List.set_cons_zero, List.set_cons_succ]))
      refine SeqL.con rfl rfl (by rfl) (by rfl) (fun wx hx hh K hK => ?_) ?_
      · go_simp
        refine (ordigestOf_calls (seed := seed) (Tr.dg_u64 _ _) (Tr.dg_u64 _ _) (by exact (KV.out.kept byteEl_k (K2.out.tr hx) fun _ _ _ h => h)) (by exact (VV.out.kept byteEl_k (K2.out.tr hx) fun _ _ _ h => h)) OK.out.2.1.2.1 OK.out.2.1.2.2).mono ?_
        rintro e w3 ⟨rfl, k3⟩
        exact hK.out _ k3
      (try simp only [Act.put, List.setIfInBounds_toArray, List.set_cons_zero, List.set_cons_succ])
      repeat (refine SeqL.val (v := ?_) hS rfl (by rfl) (fun wx hSw => ?_) ?_; rotate_left; (focus ((try dsimp only at hSw); go_simp; (try with_reducible rfl))); (try simp only [Act.put, List.setIfInBounds_toArray, List.set_cons_zero, List.set_cons_succ]))
      refine SeqL.nil fun wz hz hh => ?_
      have KZ := Lib.hid (K2.out.tr hz)
      clear hh hS e0 e1 em hz
      go_wp2
      go_ret2
      refine ⟨?_, KZ.out⟩
      rw [CUT.out]
      have z1 := Tr.cut_size l low true [] false
      have z2 := Tr.cut_size r [] false high true
      have z3 := SZ.out
      simp only [Tr.size] at z3
      have e1 : IntKind.i64.wrap (IntKind.i64.wrap (((l.cut low true [] false).size : Int) + 1) + ((r.cut [] false high true).size : Int)) = (((Tr.nd (l.cut low true [] false) k v (r.cut [] false high true)).size : Nat) : Int) := by
        rw [IntWalk.i64_in (_ + 1) ⟨by omega, by omega⟩, IntWalk.i64_in _ ⟨by omega, by omega⟩]
        simp only [Tr.size]
        omega
      rw [← e1]
      rfl)
          · have T2 := Lib.hid (show (decide (0 ≤ cmpS k high)) = true from decide_eq_true (cmpS_ge hc))
            have CUT := Lib.hid (show (Tr.nd l k v r).cut low true high true = l.cut low true high true by simp [Tr.cut, hc, hd])
            clear hc hd
            go_enter Try.func160, Try.ntmps160
            go_wp2_with fail
            refine (byCompare_calls KV.out H1.out).mono ?_
            rintro e w ⟨rfl, rfl⟩
            have tT1 := T1.out
            go_wp2_with fail
            refine (byCompare_calls KV.out H2.out).mono ?_
            rintro e w ⟨rfl, rfl⟩
            have tT2 := T2.out
            go_wp2_with fail
            refine (IL.out pl Sl D1 D2 _ _ low high true true w L.out HM.out OK.out.1 SZL.out (by exact H1.out) (by exact H2.out)).mono ?_
            rintro e w1 ⟨rfl, k1⟩
            go_wp2
            go_ret2
            exact ⟨by rw [CUT.out]; rfl, k1⟩

theorem orSpanDigest_calls {seed : Int} {w : World} {m : Nat} {t : Tr} {F D1 D2 : Nat → Prop} {lo hi : Value} {low high : Bts} {tt : Bool} (h : MapAt seed w m t F) (h1 : BV D1 w lo low) (h2 : BV D2 w hi high) :
    Calls Try.prog 118 #[.pointer (some ⟨m, 0, none⟩), lo, hi, .bool tt] w fun e w' => e = .returned (.tuple #[.int .i64 ((t.cut low true high tt).size : Int), .int .u64 ((t.cut low true high tt).dg seed)]) ∧ Kept Noneof w w' := by
  have H := Lib.hid h
  have H1 := Lib.hid h1
  have H2 := Lib.hid h2
  obtain ⟨p, S, D, hm⟩ := h
  have c2 := hm.c2
  have HM := Lib.hid hm
  obtain ⟨a1, c1', rfl, _, _, _⟩ := h1
  obtain ⟨a2, c2', rfl, _, _, _⟩ := h2
  clear hm
  go_enter Try.func118, Try.ntmps118
  go_wp2_with fail
  refine (orreal_calls H.out).mono ?_
  rintro e w ⟨rfl, rfl⟩
  go_wp2_with fail
  refine (orpart_calls t p S D1 D2 _ _ low high true tt w HM.out.ht HM.out.c1 HM.out.ok (by have := HM.out.sz; omega) (by exact H1.out) (by exact H2.out)).mono ?_
  rintro e w1 ⟨rfl, k1⟩
  go_wp2
  go_ret2
  exact ⟨rfl, k1⟩
end Go.Proofs.Ytaopjdjbpamhhaa
/- Proved: contracts of the map's functions node.pair, ordered and gather. Conditions: nodes as a tree in memory. -/
namespace Go.Proofs.Ytaopjdjbpamhhaa
open Go Go.RowKit
set_option linter.unusedVariables false
set_option linter.unusedSimpArgs false

set_option maxRecDepth 100000 in
set_option maxHeartbeats 1000000 in
theorem ornode_pair_calls {D : Nat → Prop} {w : World} {b : Nat} {kv vv : Value} {k v : Bts} (c0 : w.cell? ⟨b, 0, none⟩ = some kv) (c1 : w.cell? ⟨b, 1, none⟩ = some vv) (hk : BV D w kv k) (hv : BV D w vv v) :
    Calls Try.prog 159 #[.pointer (some ⟨b, 0, none⟩)] w fun e w' => ∃ k' v', e = .returned (.agg #[k', v']) ∧ BV (fun x => w.heap.size ≤ x) w' k' k ∧ BV (fun x => w.heap.size ≤ x) w' v' v ∧ Kept Noneof w w' := by
  have HK := Lib.hid hk
  have HV := Lib.hid hv
  have W0 := Lib.hid (Kept.refl Noneof w)
  clear hk hv
  go_enter Try.func159, Try.ntmps159
  go_wp2_with fail
  have G1 := heap_alloc_new w (.cells #[.slice none 0 0, .slice none 0 0] 70)
  have K1 := Lib.hid ((Kept.refl Noneof w).alloc (.cells #[.slice none 0 0, .slice none 0 0] 70))
  have hsz : w.heap.size < (w.alloc (.cells #[.slice none 0 0, .slice none 0 0] 70)).heap.size := block_lt G1
  generalize w.alloc (.cells #[.slice none 0 0, .slice none 0 0] 70) = w1 at *
  have HG := Lib.hid G1
  have HZ := Lib.hid hsz
  have d0 := K1.out.cell (p := ⟨b, 0, none⟩) (fun h => h) c0
  have d1 := K1.out.cell (p := ⟨b, 1, none⟩) (fun h => h) c1
  clear G1 hsz c0 c1
  refine wp_region_kept 11 [(4, .act IsSlice fun u wx => BV (fun x => w.heap.size < x) wx u k), (9, .act IsSlice fun u wx => BV (fun x => w.heap.size < x) wx u v)] Noneof (by kernel_rfl) (by kernel_rfl) (by kernel_rfl) ?_; simp only [List.take_succ_cons, List.take_zero, List.drop_succ_cons, List.drop_zero]
  have hS : ∀ w', Kept Noneof w1 w' → w'.cell? ⟨b, 0, none⟩ = some kv ∧ w'.cell? ⟨b, 1, none⟩ = some vv := fun w' q => ⟨q.cell (fun h => h) d0, q.cell (fun h => h) d1⟩
  iterate 4 (refine SeqL.val (v := ?_) hS rfl (by rfl) (fun wx hSw => ?_) ?_; rotate_left; (focus ((try dsimp only at hSw); go_simp; (try with_reducible rfl))); (try simp only [Act.put, List.setIfInBounds_toArray, List.set_cons_zero, List.set_cons_succ]))
  refine SeqL.act rfl rfl (by rfl) (by rfl) isSlice (fun wx hx hh K hK => ?_) (fun u1 hu1 => ?_)
  · go_simp
    refine (byClone_calls (HK.out.kept byteEl_k (K1.out.tr hx) fun _ _ _ h => h)).mono ?_
    rintro e w2 ⟨v', rfl, o1, k1⟩
    exact hK.out v' w2 o1.slice' k1 (o1.rd (fun _ h => h.elim) fun x h => Nat.lt_of_lt_of_le (Nat.lt_of_lt_of_le HZ.out hx.size) (o1.lt x h).1)
  obtain ⟨b1, n1', c1', rfl⟩ := hu1
  (try simp only [Act.put, List.setIfInBounds_toArray, List.set_cons_zero, List.set_cons_succ])
  iterate 4 (refine SeqL.val (v := ?_) hS rfl (by rfl) (fun wx hSw => ?_) ?_; rotate_left; (focus ((try dsimp only at hSw); go_simp; (try with_reducible rfl))); (try simp only [Act.put, List.setIfInBounds_toArray, List.set_cons_zero, List.set_cons_succ]))
  refine SeqL.act rfl rfl (by rfl) (by rfl) isSlice (fun wx hx hh K hK => ?_) (fun u1 hu1 => ?_)
  · go_simp
    refine (byClone_calls (HV.out.kept byteEl_k (K1.out.tr hx) fun _ _ _ h => h)).mono ?_
    rintro e w2 ⟨v', rfl, o1, k1⟩
    exact hK.out v' w2 o1.slice' k1 (o1.rd (fun _ h => h.elim) fun x h => Nat.lt_of_lt_of_le (Nat.lt_of_lt_of_le HZ.out hx.size) (o1.lt x h).1)
  obtain ⟨b2, n2', c2', rfl⟩ := hu1
  (try simp only [Act.put, List.setIfInBounds_toArray, List.set_cons_zero, List.set_cons_succ])
  (refine SeqL.val (v := ?_) hS rfl (by rfl) (fun wx hSw => ?_) ?_; rotate_left; (focus ((try dsimp only at hSw); go_simp; (try with_reducible rfl))); (try simp only [Act.put, List.setIfInBounds_toArray, List.set_cons_zero, List.set_cons_succ]))
  refine SeqL.nil fun wz hz hh => ?_
  obtain ⟨wa, _, oa, ka⟩ := hh 4 (by decide) _ _ _ rfl rfl
  obtain ⟨wb, _, ob, kb⟩ := hh 9 (by decide) _ _ _ rfl rfl
  have gz := hz.obj (p := w.heap.size) (fun h => h) HG.out
  have e0 : wz.cell? ⟨w.heap.size, 0, none⟩ = some (.slice none 0 0) := by simp [World.cell?, gz]
  have e1 : wz.cell? ⟨w.heap.size, 1, none⟩ = some (.slice none 0 0) := by simp [World.cell?, gz]
  have f0 : ∀ j, wz.frozen? ⟨w.heap.size, j, none⟩ = false := fun j => by simp [World.frozen?, gz]
  have GZ := Lib.hid gz
  have OA := Lib.hid (show BV (fun x => w.heap.size < x) wz (.slice b1 n1' c1') k from oa.kept byteEl_k ka fun _ _ _ h => h)
  have OB := Lib.hid (show BV (fun x => w.heap.size < x) wz (.slice b2 n2' c2') v from ob.kept byteEl_k kb fun _ _ _ h => h)
  have KZ := Lib.hid (K1.out.tr hz)
  clear hh hS oa ob ka kb hz gz d0 d1
  go_wp2
  refine bodyPost_ret (results_cell_row rfl _ _ w.heap.size _ #[.slice b1 n1' c1', .slice b2 n2' c2'] (0, 0) _ rfl (setCell_obj (setCell_obj GZ.out _) _) Try.underlying70 rfl (by kernel_rfl)) rfl ?_
  have KS := Lib.hid (((Kept.refl (fun x => x = w.heap.size) wz).setCell (p := ⟨w.heap.size, 0, none⟩) (.inl rfl) (.slice b1 n1' c1')).setCell (p := ⟨w.heap.size, 1, none⟩) (.inl rfl) (.slice b2 n2' c2'))
  refine ⟨_, _, rfl, ?_, ?_, ?_⟩
  · exact (OA.out.kept byteEl_k KS.out fun x h _ e => by have : w.heap.size < x := h; omega).wide byteEl_k fun x h _ => Nat.le_of_lt h
  · exact (OB.out.kept byteEl_k KS.out fun x h _ e => by have : w.heap.size < x := h; omega).wide byteEl_k fun x h _ => Nat.le_of_lt h
  · exact (KZ.out.setCell (.inr (Nat.le_refl _)) _).setCell (.inr (Nat.le_refl _)) _
end Go.Proofs.Ytaopjdjbpamhhaa
/- Proved: contracts of the map's functions ordered and gather. Conditions: nodes as a tree in memory. -/
namespace Go.Proofs.Ytaopjdjbpamhhaa
open Go Go.RowKit
set_option linter.unusedVariables false
set_option linter.unusedSimpArgs false

set_option maxHeartbeats 1000000 in
theorem orMap_All_1_1_calls {D : Nat → Prop} {w : World} {b : Nat} {kv vv : Value} {k v : Bts} (c0 : w.cell? ⟨b, 0, none⟩ = some kv) (c1 : w.cell? ⟨b, 1, none⟩ = some vv) (hk : BV D w kv k) (hv : BV D w vv v) :
    Calls Try.prog 188 #[.pointer (some ⟨b, 0, none⟩)] w fun e w' => ∃ k' v', e = .returned (.agg #[k', v']) ∧ BV (fun x => w.heap.size ≤ x) w' k' k ∧ BV (fun x => w.heap.size ≤ x) w' v' v ∧ Kept Noneof w w' := by
  have HK := Lib.hid hk
  have HV := Lib.hid hv
  clear hk hv
  go_enter Try.func188, Try.ntmps188
  go_wp2_with fail
  have G1 := heap_alloc_new w (.cells #[.slice none 0 0, .slice none 0 0] 70)
  have K1 := Lib.hid ((Kept.refl Noneof w).alloc (.cells #[.slice none 0 0, .slice none 0 0] 70))
  have hsz : w.heap.size < (w.alloc (.cells #[.slice none 0 0, .slice none 0 0] 70)).heap.size := block_lt G1
  generalize w.alloc (.cells #[.slice none 0 0, .slice none 0 0] 70) = w1 at *
  have HG := Lib.hid G1
  have HZ := Lib.hid hsz
  have d0 := K1.out.cell (p := ⟨b, 0, none⟩) (fun h => h) c0
  have d1 := K1.out.cell (p := ⟨b, 1, none⟩) (fun h => h) c1
  clear G1 hsz c0 c1
  refine (ornode_pair_calls (D := D) d0 d1 (HK.out.kept byteEl_k K1.out fun _ _ _ h => h) (HV.out.kept byteEl_k K1.out fun _ _ _ h => h)).mono ?_
  rintro e wz ⟨k', v', rfl, o1, o2, kz⟩
  obtain ⟨b1, n1', rfl, _⟩ := id o1
  obtain ⟨b2, n2', rfl, _⟩ := id o2
  have gz := kz.obj (p := w.heap.size) (fun h => h) HG.out
  have e0 : wz.cell? ⟨w.heap.size, 0, none⟩ = some (.slice none 0 0) := by simp [World.cell?, gz]
  have e1 : wz.cell? ⟨w.heap.size, 1, none⟩ = some (.slice none 0 0) := by simp [World.cell?, gz]
  have f0 : ∀ j, wz.frozen? ⟨w.heap.size, j, none⟩ = false := fun j => by simp [World.frozen?, gz]
  have GZ := Lib.hid gz
  have OA := Lib.hid o1
  have OB := Lib.hid o2
  have KZ := Lib.hid (K1.out.tr kz)
  clear o1 o2 gz kz d0 d1
  go_wp2
  refine bodyPost_ret (results_cell_row rfl _ _ w.heap.size _ #[_, _] (0, 0) _ rfl (setCell_obj (setCell_obj GZ.out _) _) Try.underlying70 rfl (by kernel_rfl)) rfl ?_
  have KS := Lib.hid (((Kept.refl (fun x => x = w.heap.size) wz).setCell (p := ⟨w.heap.size, 0, none⟩) (.inl rfl) (.slice b1 k.length n1')).setCell (p := ⟨w.heap.size, 1, none⟩) (.inl rfl) (.slice b2 v.length n2'))
  have hz := HZ.out
  refine ⟨_, _, rfl, ?_, ?_, ?_⟩
  · exact (OA.out.kept byteEl_k KS.out fun x h _ e => by have : w1.heap.size ≤ x := h; omega).wide byteEl_k fun x h _ => Nat.le_trans (Nat.le_of_lt hz) h
  · exact (OB.out.kept byteEl_k KS.out fun x h _ e => by have : w1.heap.size ≤ x := h; omega).wide byteEl_k fun x h _ => Nat.le_trans (Nat.le_of_lt hz) h
  · exact (KZ.out.setCell (.inr (Nat.le_refl _)) _).setCell (.inr (Nat.le_refl _)) _

set_option maxRecDepth 100000 in
set_option maxHeartbeats 4000000 in
theorem orordered_calls {seed : Int} {D : Nat → Prop} {B : Nat} (hD : ∀ b, D b → b < B) : ∀ (t : Tr) (p : Option Nat) (S : List Nat) (w : World) (vo : Value) (out : List (Bts × Bts)), TreeAt seed D w t p S → (∀ b ∈ S, b < B) → B ≤ w.heap.size →
    Own 70 pairEl (fun b => B ≤ b) B w vo out → (out.length + t.size) * 48 ≤ 140737488355328 →
    Calls Try.prog 187 #[ptr p, vo, .func (.func 188) #[] #[]] w fun e w' => ∃ v', e = .returned v' ∧ Own 70 pairEl (fun b => B ≤ b) B w' v' (out ++ t.pairs) ∧ Kept (fun b => B ≤ b) w w' := by
  intro t
  induction t with
  | nil =>
    intro p S w vo out ht hS hB ho hb
    obtain ⟨rfl, rfl⟩ := ht
    have HO := Lib.hid ho
    obtain ⟨a, c, rfl⟩ := ho.slice
    clear ho
    change Calls _ _ #[.pointer none, _, _] _ _
    go_enter Try.func187, Try.ntmps187
    go_wp2
    go_ret
    exact ⟨_, rfl, by simpa [Tr.pairs] using HO.out, Kept.refl _ _⟩
  | nd l k v r il ir =>
    intro p S w vo out ht hS hB ho hb
    have IL := Lib.hid il
    have IR := Lib.hid ir
    have HO := Lib.hid ho
    have HS := Lib.hid hS
    have HB := Lib.hid hB
    have BY := Lib.hid hb
    obtain ⟨b, pl, pr, Sl, Sr, kv, vv, rfl, rfl, hob, hkv, hvv, hl, hr⟩ := ht
    obtain ⟨a1, c1', rfl⟩ := ho.slice
    obtain ⟨c0, c1, _, c3, c4, _, _, _⟩ := NodeAt.of hob
    have KV := Lib.hid hkv
    have VV := Lib.hid hvv
    have L := Lib.hid hl
    have R := Lib.hid hr
    clear hob hkv hvv hl hr il ir ho hS hB hb
    change Calls _ _ #[.pointer (some ⟨b, 0, none⟩), _, _] _ _
    go_enter Try.func187, Try.ntmps187
    go_wp2_with fail
    refine wp_region_chain 19 [10, 13, 14, 15, 17] (fun w' => w'.cell? ⟨b, 3, none⟩ = some (ptr pl) ∧ w'.cell? ⟨b, 4, none⟩ = some (ptr pr)) (by kernel_rfl) (by kernel_rfl) ?_ ?_
    · exact ⟨c3, c4⟩
    simp only [List.take_succ_cons, List.take_zero, List.drop_succ_cons, List.drop_zero]
    iterate 10 (refine SeqY.val (v := ?_) (by rfl) (by rfl) (fun wx hSw => ?_) ?_; rotate_left; (focus ((try dsimp only at hSw); go_simp; (try with_reducible rfl))); (try simp only [Act.put, List.setIfInBounds_toArray, List.set_cons_zero, List.set_cons_succ]))
    refine SeqY.act (by rfl) rfl (by rfl) (by rfl) (fun K hK => ?_)
    go_simp
    refine (IL.out pl Sl w.drew _ out (by exact L.out.at rfl) (fun x hx => HS.out x (by simp [hx])) HB.out (by exact HO.out.at rfl) (by have := BY.out; simp only [Tr.size] at this; omega)).mono ?_
    rintro e w1 ⟨v1, rfl, o1, k1⟩
    have hbB : b < B := HS.out b (by simp)
    have HBB := Lib.hid hbB
    have K1 := Lib.hid (show Kept (fun b => B ≤ b) w w1 from ⟨k1.os, k1.tape, k1.output, k1.size, k1.block⟩)
    have d : ∀ j u, w.cell? ⟨b, j, none⟩ = some u → w1.cell? ⟨b, j, none⟩ = some u := fun j u h => k1.cell (p := ⟨b, j, none⟩) (by simp; omega) h
    have d0 := d _ _ c0
    have d1 := d _ _ c1
    have d3 := d _ _ c3
    have d4 := d _ _ c4
    refine hK.out _ _ ⟨d3, d4⟩ ?_
    have O1 := Lib.hid o1
    obtain ⟨a2, n2, c2', rfl⟩ := o1.slice'
    clear K hK o1 k1 hbB c0 c1 d
    (try simp only [Act.put, List.setIfInBounds_toArray, List.set_cons_zero, List.set_cons_succ])
    iterate 2 (refine SeqY.val (v := ?_) (by rfl) (by rfl) (fun wx hSw => ?_) ?_; rotate_left; (focus ((try dsimp only at hSw); go_simp; (try with_reducible rfl))); (try simp only [Act.put, List.setIfInBounds_toArray, List.set_cons_zero, List.set_cons_succ]))
    refine SeqY.act (by rfl) rfl (by rfl) (by rfl) (fun K hK => ?_)
    go_simp
    refine (orMap_All_1_1_calls (D := D) d0 d1 (KV.out.kept byteEl_k K1.out fun x h _ (h2 : B ≤ x) => by have := hD x h; omega) (VV.out.kept byteEl_k K1.out fun x h _ (h2 : B ≤ x) => by have := hD x h; omega)).mono ?_
    rintro e w2 ⟨k', v', rfl, p1, p2, k2⟩
    obtain ⟨b1, n1', rfl, _⟩ := id p1
    obtain ⟨b2, n2', rfl, _⟩ := id p2
    have K2 := Lib.hid k2
    have P1 := Lib.hid p1
    have P2 := Lib.hid p2
    have e3 := k2.cell (p := ⟨b, 3, none⟩) (fun h => h) d3
    have e4 := k2.cell (p := ⟨b, 4, none⟩) (fun h => h) d4
    refine hK.out _ _ ⟨e3, e4⟩ ?_
    clear K hK p1 p2 k2 d0 d1 d3 d4
    (try simp only [Act.put, List.setIfInBounds_toArray, List.set_cons_zero, List.set_cons_succ])
    refine SeqY.act (by rfl) rfl (by rfl) (by rfl) (fun K hK => ?_)
    go_simp
    have G3 := heap_alloc_new w2 (.cells #[.slice b1 k.length n1', .slice b2 v.length n2'] 70)
    have K3 := Lib.hid ((Kept.refl Noneof w2).alloc (.cells #[.slice b1 k.length n1', .slice b2 v.length n2'] 70))
    refine hK.out _ _ ⟨K3.out.cell (p := ⟨b, 3, none⟩) (fun h => h) e3, K3.out.cell (p := ⟨b, 4, none⟩) (fun h => h) e4⟩ ?_
    have f4 := K3.out.cell (p := ⟨b, 4, none⟩) (fun h => h) e4
    have f3 := K3.out.cell (p := ⟨b, 3, none⟩) (fun h => h) e3
    generalize w2.alloc (.cells #[.slice b1 k.length n1', .slice b2 v.length n2'] 70) = w3 at *
    clear K hK e3 e4
    (try simp only [Act.put, List.setIfInBounds_toArray, List.set_cons_zero, List.set_cons_succ])
    refine SeqY.act (by rfl) rfl (by rfl) (by rfl) (fun K hK => ?_)
    have O3 := Lib.hid ((O1.out.kept K2.out fun _ h => h.elim).kept K3.out fun _ h => h.elim)
    have hs1 := K1.out.size
    have hs2 := K2.out.size
    have hs3 := K3.out.size
    have hB := HB.out
    have lo := Lib.hid O1.out.lt
    refine wp_app_one (E := pairEl) (.tmp 20) (.tmp 24) _ rfl tPairs (D' := fun x => w1.heap.size ≤ x) _ (out ++ l.pairs) rfl O3.out w2.heap.size _ (k, v) rfl ⟨_, _, G3⟩ ⟨_, _, rfl, P1.out.kept byteEl_k K3.out (fun _ _ _ h => h), P2.out.kept byteEl_k K3.out fun _ _ _ h => h⟩ (fun x hx _ => ⟨by have : w1.heap.size ≤ x := hx; omega, fun he => by have := (lo.out x he).2; have : w1.heap.size ≤ x := hx; omega⟩) (by have := BY.out; simp only [Tr.size, List.length_append, Tr.pairs_len] at this ⊢; omega) (by decide) (by omega) ?_
    rintro v4 w4 o4 k4 hb4
    have K4 := Lib.hid (show Kept (fun b => B ≤ b) w w4 from ((K1.out.trans K2.out fun _ h => h.elim).trans K3.out fun _ h => h.elim).trans k4 fun x hx => .inl (lo.out x hx).1)
    have hbB := HBB.out
    have g4 := k4.cell (p := ⟨b, 4, none⟩) (fun hx => by have := (lo.out b hx).1; omega) f4
    have g3 := k4.cell (p := ⟨b, 3, none⟩) (fun hx => by have := (lo.out b hx).1; omega) f3
    refine hK.out _ _ ⟨g3, g4⟩ ?_
    have O4 := Lib.hid o4
    obtain ⟨a4, n4, c4', rfl⟩ := o4.slice'
    clear K hK o4 k4 f3 f4 hb4 G3 g3 hs1 hs2 hs3
    (try simp only [Act.put, List.setIfInBounds_toArray, List.set_cons_zero, List.set_cons_succ])
    (refine SeqY.val (v := ?_) (by rfl) (by rfl) (fun wx hSw => ?_) ?_; rotate_left; (focus ((try dsimp only at hSw); go_simp; (try with_reducible rfl))); (try simp only [Act.put, List.setIfInBounds_toArray, List.set_cons_zero, List.set_cons_succ]))
    refine SeqY.act (by rfl) rfl (by rfl) (by rfl) (fun K hK => ?_)
    go_simp
    have hs4 := K4.out.size
    refine (IR.out pr Sr w4 _ (out ++ l.pairs ++ [(k, v)]) (R.out.kept K4.out (fun x h _ (h2 : B ≤ x) => by have := hD x h; omega) fun x hx (h2 : B ≤ x) => by have := HS.out x (by simp [hx]); omega) (fun x hx => HS.out x (by simp [hx])) (by omega) O4.out (by have := BY.out; simp only [Tr.size, List.length_append, List.length_cons, List.length_nil, Tr.pairs_len] at this ⊢; omega)).mono ?_
    rintro e w5 ⟨v5, rfl, o5, k5⟩
    refine hK.out _ _ ⟨k5.cell (p := ⟨b, 3, none⟩) (fun (h2 : B ≤ b) => by omega) (K4.out.cell (p := ⟨b, 3, none⟩) (fun (h2 : B ≤ b) => by omega) c3), k5.cell (p := ⟨b, 4, none⟩) (fun (h2 : B ≤ b) => by omega) g4⟩ ?_
    have O5 := Lib.hid o5
    have K5 := Lib.hid (K4.out.tr k5)
    obtain ⟨a5, n5, c5', rfl⟩ := o5.slice'
    clear K hK o5 k5 g4
    (try simp only [Act.put, List.setIfInBounds_toArray, List.set_cons_zero, List.set_cons_succ])
    (refine SeqY.val (v := ?_) (by rfl) (by rfl) (fun wx hSw => ?_) ?_; rotate_left; (focus ((try dsimp only at hSw); go_simp; (try with_reducible rfl))); (try simp only [Act.put, List.setIfInBounds_toArray, List.set_cons_zero, List.set_cons_succ]))
    refine SeqY.nil ?_
    go_wp2
    go_ret
    refine ⟨_, rfl, ?_, K5.out⟩
    have := O5.out
    rwa [List.append_assoc, List.append_assoc, List.singleton_append] at this
end Go.Proofs.Ytaopjdjbpamhhaa
/- Proved: contracts of the map's function Image. Conditions: maps in memory. -/
namespace Go.Proofs.Ytaopjdjbpamhhaa
open Go Go.RowKit
set_option linter.unusedVariables false
set_option linter.unusedSimpArgs false

/-- The bytes of a node in an image. -/
def rowB (l : Tr) (k v : Bts) (r : Tr) : Bts :=
  [(if l.size = 0 then 0 else 1) + (if r.size = 0 then 0 else 2), UInt8.ofNat k.length] ++ leI v.length 2 ++ k ++ v
def Tr.rows : Tr → List Bts
  | nil => []
  | nd l k v r => rowB l k v r :: (l.rows ++ r.rows)

theorem SeqY.alloc {P : Program} {ops : Array Oper} {S : World → Prop} {acts : List Nat} {Fin : Act → World → Prop} {k : Nat} {l : List Oper} {a : Act} {w : World} {o : Obj} (h : ∀ w', w'.heap[w.heap.size]? = some o → Kept Noneof w w' → w.heap.size < w'.heap.size → SeqY P ops S acts Fin k l a w') : SeqY P ops S acts Fin k l a (w.alloc o) :=
  h _ (heap_alloc_new w o) ((Kept.refl Noneof w).alloc o) (block_lt (heap_alloc_new w o))
theorem two_bytes {D : Nat → Prop} {w : World} {x y : UInt8} {i j : Int} (hi : i = ((x.toNat : Nat) : Int)) (hj : j = ((y.toNat : Nat) : Int)) : Cells byteEl D w [.int .u8 i, .int .u8 j] [x, y] := by
  subst hi
  subst hj
  exact ⟨[_], [_], rfl, rfl, [_], [], rfl, rfl, rfl⟩
theorem wp_app_two {K : Act → World → Prop} {w : World} {o : Oper} {a : Act} {Q : Exit → Act → World → Prop} (s x : Operand) (ho : o.op = .call { callee := .builtin .append, args := #[s, x], argTypes := #[31, 31] })
    (hs : a.eval s = .slice none 0 0) {g : Nat} (hx : a.eval x = .slice (some ⟨g, 0, none⟩) 2 2) {i j : Int} {e' : TypeId} {f : Nat × Nat} (hg : w.heap[g]? = some (.cells #[.int .u8 i, .int .u8 j] e' f)) (c d : UInt8) (hi : i = ((c.toNat : Nat) : Int)) (hj : j = ((d.toNat : Nat) : Int))
    (h : ∀ v' w', Own 5 byteEl Noneof w.heap.size w' v' [c, d] → Kept Noneof w w' → K (a.put o.dst v') w') : o.wp Try.prog a w K Q := by
  refine wp_app (E := byteEl) s x _ ho tBytes (D := Noneof) (D' := Noneof) (B := w.heap.size) _ [] hs (Own.nil _ _ _ _ _) _ 2 [c, d] hx (by simp) (fun h => by cases h) _ (two_bytes hi hj) (fun q u hu => ⟨_, rfl, ?_⟩) (fun _ h => h.elim) (by simp) (by decide) (Nat.le_refl _) fun v' w' k1 k2 k3 _ => h v' w' k1 (k2.mono fun _ h => by cases h)
  rw [Addr.add_lit, Nat.zero_add]
  simp [World.cell?, hg, hu]
theorem wp_app_bytes {P : Program} {ops : Array Oper} {K : Act → World → Prop} {w : World} {o : Oper} {a : Act} {Q : Exit → Act → World → Prop} (hgd : o.guard = none) (s x : Operand) (t : TypeId) (ho : o.op = .call { callee := .builtin .append, args := #[s, x], argTypes := #[t, t] })
    {e : TypeId} {z : Value} (T : SlT P t e 1 1 z) {D' : Nat → Prop} {B : Nat} (v : Value) (l : Bts) (hs : a.eval s = v) (hown : Own e byteEl Noneof B w v l)
    (vx : Value) (m : Bts) (hx : a.eval x = vx) (hm : SV byteEl D' w vx m) (hbytes : l.length + m.length ≤ 140737488355328) (hbase : B ≤ w.heap.size)
    (h : ∀ v' w', Own e byteEl Noneof B w' v' (l ++ m) → Kept (fun k => v.ownBlock = some k) w w' → (∀ b, v'.ownBlock = some b → v.ownBlock = some b ∨ w.heap.size ≤ b) → K (a.put o.dst v') w') : o.wp P a w K Q := by
  obtain ⟨ao, c, rfl, ⟨hc, hn⟩, _, hr⟩ := hm
  obtain ⟨news, h1, h2⟩ := hr.cells
  exact wp_app (E := byteEl) s x t ho T v l hs hown ao c m hx hc hn news (h1.bytes (D' := Noneof)) h2 (fun _ h => h.elim) (by omega) (by decide) hbase fun v' w' k1 k2 k3 _ => h v' w' k1 k2 k3
theorem TreeAt.empty {seed : Int} {D : Nat → Prop} {w : World} {t : Tr} {p : Option Nat} {S : List Nat} (h : TreeAt seed D w t p S) : t.size = 0 ↔ p = none := by
  cases t with
  | nil => obtain ⟨rfl, _⟩ := h; simp [Tr.size]
  | nd l k v r =>
    obtain ⟨b, _, _, _, _, _, _, rfl, _⟩ := h
    simp [Tr.size]

set_option maxRecDepth 100000 in
set_option maxHeartbeats 2000000 in
theorem orImage_1_calls {seed : Int} {D : Nat → Prop} {w : World} {p : Option Nat} {S : List Nat} {l r : Tr} {k v : Bts} (ht : TreeAt seed D w (.nd l k v r) p S) (hkl : k.length ≤ 64) (hvl : v.length ≤ 1000) :
    Calls Try.prog 128 #[ptr p] w fun e w' => ∃ v', e = .returned v' ∧ Own 5 byteEl Noneof w.heap.size w' v' (rowB l k v r) ∧ Kept Noneof w w' := by
  obtain ⟨b, pl, pr, Sl, Sr, kv, vv, rfl, rfl, hob, hkv, hvv, hl, hr⟩ := ht
  obtain ⟨a1, n1, rfl, _⟩ := id hkv
  obtain ⟨a2, n2, rfl, _⟩ := id hvv
  obtain ⟨c0, c1, _, c3, c4, _, _, _⟩ := NodeAt.of hob
  have KV := Lib.hid hkv
  have VV := Lib.hid hvv
  have L := Lib.hid hl
  have R := Lib.hid hr
  have el : l.size = 0 ↔ pl = none := TreeAt.empty hl
  have er : r.size = 0 ↔ pr = none := TreeAt.empty hr
  have hb := byte_nat k.length (by omega)
  have HK := Lib.hid hkl
  have HV := Lib.hid hvl
  clear hob hkv hvv hl hr hkl hvl
  change Calls _ _ #[.pointer (some ⟨b, 0, none⟩)] _ _
  rcases pl with _ | b3 <;> rcases pr with _ | b4
  all_goals
    have el := Lib.hid el
    have er := Lib.hid er
    go_enter Try.func128, Try.ntmps128
    go_wp2_with fail
    refine wp_region_chain 17 [8, 9, 16] (fun w' => w'.cell? ⟨b, 0, none⟩ = some (.slice a1 k.length n1) ∧ w'.cell? ⟨b, 1, none⟩ = some (.slice a2 v.length n2)) (by kernel_rfl) (by kernel_rfl) ?_ ?_
    · exact ⟨c0, c1⟩
    simp only [List.take_succ_cons, List.take_zero, List.drop_succ_cons, List.drop_zero]
    iterate 8 (refine SeqY.val (v := ?_) (by rfl) (by rfl) (fun wx hSw => ?_) ?_; rotate_left; (focus ((try dsimp only at hSw); go_simp; (try with_reducible rfl))); (try simp only [Act.put, List.setIfInBounds_toArray, List.set_cons_zero, List.set_cons_succ]))
    refine SeqY.act (by rfl) rfl (by rfl) (by rfl) (fun K hK => ?_)
    go_simp
    refine hK.out _ _ ⟨((Kept.refl Noneof _).alloc _).cell (p := ⟨b, 0, none⟩) (fun h => h) c0, ((Kept.refl Noneof _).alloc _).cell (p := ⟨b, 1, none⟩) (fun h => h) c1⟩ ?_
    refine SeqY.alloc (w := w.drew) fun w3 G3 K3 hs3 => ?_
    have K4 := Lib.hid (show Kept Noneof w w3 from ⟨K3.os, K3.tape, K3.output, K3.size, K3.block⟩)
    clear K hK
    (try simp only [Act.put, List.setIfInBounds_toArray, List.set_cons_zero, List.set_cons_succ])
    refine SeqY.act (by rfl) rfl (by rfl) (by rfl) (fun K hK => ?_)
    have hk8 : (k.length : Int) = (((UInt8.ofNat k.length).toNat : Nat) : Int) := by have := HK.out; simp; omega
    first | refine wp_app_two (.tmp 17) (.tmp 25) rfl rfl rfl G3 0 _ rfl hk8 ?_ | refine wp_app_two (.tmp 17) (.tmp 25) rfl rfl rfl G3 1 _ rfl hk8 ?_ | refine wp_app_two (.tmp 17) (.tmp 25) rfl rfl rfl G3 2 _ rfl hk8 ?_ | refine wp_app_two (.tmp 17) (.tmp 25) rfl rfl rfl G3 3 _ rfl hk8 ?_
    intro v4 w4 o4 k4
    have K5 := Lib.hid (K4.out.tr k4)
    have d0 := K5.out.cell (p := ⟨b, 0, none⟩) (fun h => h) c0
    have d1 := K5.out.cell (p := ⟨b, 1, none⟩) (fun h => h) c1
    have O4 := Lib.hid (o4.base K4.out.size)
    have L4 := Lib.hid o4.lt
    obtain ⟨a4, n4, c4', rfl⟩ := o4.slice'
    refine hK.out _ _ ⟨d0, d1⟩ ?_
    have hv64 : IntKind.u64.wrap (v.length : Int) = (v.length : Int) := IntWalk.u64_in _ ⟨by omega, by have := HV.out; omega⟩
    clear K hK o4 k4 K3 G3 hk8
    (try simp only [Act.put, List.setIfInBounds_toArray, List.set_cons_zero, List.set_cons_succ])
    iterate 6 (refine SeqY.val (v := ?_) (by rfl) (by rfl) (fun wx hSw => ?_) ?_; rotate_left; (focus ((try dsimp only at hSw); go_simp; (try with_reducible rfl))); (try simp only [Act.put, List.setIfInBounds_toArray, List.set_cons_zero, List.set_cons_succ]))
    refine SeqY.act (by rfl) rfl (by rfl) (by rfl) (fun K hK => ?_)
    go_simp
    refine (orlittle_calls (x := v.length) (n := 2) O4.out (by omega) (by have := HV.out; omega) (by omega) (by show (2 : Nat) ≤ 100000000; omega) K5.out.size).mono ?_
    rintro e w6 ⟨v6, rfl, o6, k6⟩
    have K6 := Lib.hid (K5.out.trans k6 fun x hx => .inr (O4.out.lt x hx).1)
    have hw : ∀ x, x < w.heap.size → (.slice a4 n4 c4' : Value).ownBlock ≠ some x := fun x hx h => by have := (O4.out.lt x h).1; omega
    have lb : b < w.heap.size := cell_lt (p := ⟨b, 0, none⟩) c0
    have g0 := k6.cell (p := ⟨b, 0, none⟩) (hw b lb) d0
    have g1 := k6.cell (p := ⟨b, 1, none⟩) (hw b lb) d1
    have O6 := Lib.hid o6
    obtain ⟨a6, n6, c6', rfl⟩ := o6.slice'
    refine hK.out _ _ ⟨g0, g1⟩ ?_
    clear K hK o6 k6 hw d0 d1
    (try simp only [Act.put, List.setIfInBounds_toArray, List.set_cons_zero, List.set_cons_succ])
    refine SeqY.nil ?_
    go_wp2_with fail
    clear c0 c1
    refine wp_region_chain 12 [5, 10] (fun w' => w'.cell? ⟨b, 0, none⟩ = some (.slice a1 k.length n1) ∧ w'.cell? ⟨b, 1, none⟩ = some (.slice a2 v.length n2)) (by kernel_rfl) (by kernel_rfl) ?_ ?_
    · exact ⟨g0, g1⟩
    simp only [List.take_succ_cons, List.take_zero, List.drop_succ_cons, List.drop_zero]
    iterate 5 (refine SeqY.val (v := ?_) (by rfl) (by rfl) (fun wx hSw => ?_) ?_; rotate_left; (focus ((try dsimp only at hSw); go_simp; (try with_reducible rfl))); (try simp only [Act.put, List.setIfInBounds_toArray, List.set_cons_zero, List.set_cons_succ]))
    have kbd := HK.out
    have vbd := HV.out
    have K7 := Lib.hid (K6.out.drew)
    have O7 := Lib.hid (O6.out.at (w' := w6.drew) rfl)
    have h0 : w6.drew.cell? ⟨b, 0, none⟩ = some (.slice a1 k.length n1) := g0
    have h1 : w6.drew.cell? ⟨b, 1, none⟩ = some (.slice a2 v.length n2) := g1
    have lo := Lib.hid O7.out.lt
    generalize w6.drew = w7 at *
    clear K6 O6 g0 g1
    refine SeqY.act (by rfl) rfl (by rfl) (by rfl) (fun K hK => ?_)
    refine wp_app_bytes (ops := #[]) rfl (.tmp 34) (.tmp 38) _ rfl tBytes _ _ rfl O7.out _ k rfl (KV.out.kept byteEl_k K7.out fun _ _ _ h => h) (by simp [leI_len]; omega) K7.out.size ?_
    intro v8 w8 o8 k8 _
    have hw : (.slice a6 n6 c6' : Value).ownBlock ≠ some b := fun h => by have := (lo.out b h).1; omega
    have K8 := Lib.hid (K7.out.trans k8 fun x hx => .inr (lo.out x hx).1)
    have i0 := k8.cell (p := ⟨b, 0, none⟩) hw h0
    have i1 := k8.cell (p := ⟨b, 1, none⟩) hw h1
    have O8 := Lib.hid o8
    obtain ⟨a8, n8, c8', rfl⟩ := o8.slice'
    refine hK.out _ _ ⟨i0, i1⟩ ?_
    clear K hK o8 k8 hw h0 h1 O7 K7
    (try simp only [Act.put, List.setIfInBounds_toArray, List.set_cons_zero, List.set_cons_succ])
    iterate 4 (refine SeqY.val (v := ?_) (by rfl) (by rfl) (fun wx hSw => ?_) ?_; rotate_left; (focus ((try dsimp only at hSw); go_simp; (try with_reducible rfl))); (try simp only [Act.put, List.setIfInBounds_toArray, List.set_cons_zero, List.set_cons_succ]))
    refine SeqY.act (by rfl) rfl (by rfl) (by rfl) (fun K hK => ?_)
    refine wp_app_bytes (ops := #[]) rfl (.tmp 39) (.tmp 43) _ rfl tBytes _ _ rfl O8.out _ v rfl (VV.out.kept byteEl_k K8.out fun _ _ _ h => h) (by simp [leI_len]; omega) K8.out.size ?_
    intro v9 w9 o9 k9 _
    have lo8 := O8.out.lt
    have hw : (.slice a8 n8 c8' : Value).ownBlock ≠ some b := fun h => by have := (lo8 b h).1; omega
    have K9 := Lib.hid (K8.out.trans k9 fun x hx => .inr (lo8 x hx).1)
    have O9 := Lib.hid o9
    obtain ⟨a9, n9, c9', rfl⟩ := o9.slice'
    refine hK.out _ _ ⟨k9.cell (p := ⟨b, 0, none⟩) hw i0, k9.cell (p := ⟨b, 1, none⟩) hw i1⟩ ?_
    clear K hK o9 k9 hw i0 i1 lo8
    (try simp only [Act.put, List.setIfInBounds_toArray, List.set_cons_zero, List.set_cons_succ])
    (refine SeqY.val (v := ?_) (by rfl) (by rfl) (fun wx hSw => ?_) ?_; rotate_left; (focus ((try dsimp only at hSw); go_simp; (try with_reducible rfl))); (try simp only [Act.put, List.setIfInBounds_toArray, List.set_cons_zero, List.set_cons_succ]))
    refine SeqY.nil ?_
    go_wp2
    go_ret
    refine ⟨_, rfl, ?_, K9.out⟩
    have ho := O9.out
    have h1 := el.out
    have h2 := er.out
    simp only [reduceCtorEq, iff_true, iff_false] at h1 h2
    unfold rowB
    simp only [h1, h2, if_true, if_false]
    exact ho
end Go.Proofs.Ytaopjdjbpamhhaa
/- Proved: contracts of gather over images' rows, and of the map's function Image. Conditions: maps in memory. -/
namespace Go.Proofs.Ytaopjdjbpamhhaa
open Go Go.RowKit
set_option linter.unusedVariables false
set_option linter.unusedSimpArgs false

theorem tRows : SlT Try.prog 51 31 1 24 (.slice none 0 0) := SlT.of (by kernel_rfl) (by kernel_rfl) rfl (by decide)
theorem Tr.rows_len : ∀ t : Tr, t.rows.length = t.size
  | nil => rfl
  | nd l k v r => by simp only [Tr.rows, Tr.size, List.length_cons, List.length_append, rows_len l, rows_len r]; omega

set_option maxRecDepth 100000 in
set_option maxHeartbeats 4000000 in
theorem orgather_rows {seed : Int} {D : Nat → Prop} {B : Nat} (hD : ∀ b, D b → b < B) : ∀ (t : Tr) (p : Option Nat) (S : List Nat) (w : World) (vo : Value) (out : List Bts), TreeAt seed D w t p S → t.ok → (∀ b ∈ S, b < B) → B ≤ w.heap.size →
    Own 31 bytesEl (fun b => B ≤ b) B w vo out → (out.length + t.size) * 24 ≤ 140737488355328 →
    Calls Try.prog 127 #[ptr p, vo, .func (.func 128) #[] #[]] w fun e w' => ∃ v', e = .returned v' ∧ Own 31 bytesEl (fun b => B ≤ b) B w' v' (out ++ t.rows) ∧ Kept (fun b => B ≤ b) w w' := by
  intro t
  induction t with
  | nil =>
    intro p S w vo out ht ok hS hB ho hb
    obtain ⟨rfl, rfl⟩ := ht
    have HO := Lib.hid ho
    obtain ⟨a, c, rfl⟩ := ho.slice
    clear ho
    change Calls _ _ #[.pointer none, _, _] _ _
    go_enter Try.func127, Try.ntmps127
    go_wp2
    go_ret
    exact ⟨_, rfl, by simpa [Tr.rows] using HO.out, Kept.refl _ _⟩
  | nd l k v r il ir =>
    intro p S w vo out ht ok hS hB ho hb
    have IL := Lib.hid il
    have IR := Lib.hid ir
    have HO := Lib.hid ho
    have HS := Lib.hid hS
    have HB := Lib.hid hB
    have BY := Lib.hid hb
    have OK := Lib.hid ok
    have HT := Lib.hid ht
    obtain ⟨b, pl, pr, Sl, Sr, kv, vv, rfl, rfl, hob, hkv, hvv, hl, hr⟩ := ht
    obtain ⟨a1, n1, c1', rfl⟩ := ho.slice'
    obtain ⟨_, _, _, c3, c4, _, _, _⟩ := NodeAt.of hob
    have L := Lib.hid hl
    have R := Lib.hid hr
    clear hob hkv hvv hl hr il ir ho hS hB hb ok
    change Calls _ _ #[.pointer (some ⟨b, 0, none⟩), _, _] _ _
    go_enter Try.func127, Try.ntmps127
    go_wp2_with fail
    refine wp_region_chain 19 [11, 12, 13, 15, 17] (fun w' => w'.cell? ⟨b, 3, none⟩ = some (ptr pl) ∧ w'.cell? ⟨b, 4, none⟩ = some (ptr pr)) (by kernel_rfl) (by kernel_rfl) ?_ ?_
    · exact ⟨c3, c4⟩
    simp only [List.take_succ_cons, List.take_zero, List.drop_succ_cons, List.drop_zero]
    iterate 11 (refine SeqY.val (v := ?_) (by rfl) (by rfl) (fun wx hSw => ?_) ?_; rotate_left; (focus ((try dsimp only at hSw); go_simp; (try with_reducible rfl))); (try simp only [Act.put, List.setIfInBounds_toArray, List.set_cons_zero, List.set_cons_succ]))
    refine SeqY.act (by rfl) rfl (by rfl) (by rfl) (fun K hK => ?_)
    go_simp
    refine (orImage_1_calls (w := w.drew) (p := some b) (l := l) (k := k) (v := v) (r := r) (HT.out.at rfl) OK.out.2.1.2.1 OK.out.2.1.2.2).mono ?_
    rintro e w1 ⟨v1, rfl, o1, k1⟩
    have hbB : b < B := HS.out b (by simp)
    have K1 := Lib.hid (show Kept Noneof w w1 from ⟨k1.os, k1.tape, k1.output, k1.size, k1.block⟩)
    have O1 := Lib.hid (show Own 5 byteEl Noneof w.heap.size w1 v1 (rowB l k v r) from o1)
    have d3 := k1.cell (p := ⟨b, 3, none⟩) (fun h => h) c3
    have d4 := k1.cell (p := ⟨b, 4, none⟩) (fun h => h) c4
    obtain ⟨a2, n2, c2', rfl⟩ := o1.slice'
    refine hK.out _ _ ⟨d3, d4⟩ ?_
    clear K hK o1 k1 c3 c4
    (try simp only [Act.put, List.setIfInBounds_toArray, List.set_cons_zero, List.set_cons_succ])
    refine SeqY.act (by rfl) rfl (by rfl) (by rfl) (fun K hK => ?_)
    go_simp
    have G3 := heap_alloc_new w1 (.cells #[.slice a2 n2 c2'] 31)
    have K3 := Lib.hid ((Kept.refl Noneof w1).alloc (.cells #[.slice a2 n2 c2'] 31))
    have f3 := K3.out.cell (p := ⟨b, 3, none⟩) (fun h => h) d3
    have f4 := K3.out.cell (p := ⟨b, 4, none⟩) (fun h => h) d4
    refine hK.out _ _ ⟨f3, f4⟩ ?_
    generalize w1.alloc (.cells #[.slice a2 n2 c2'] 31) = w3 at *
    clear K hK d3 d4
    (try simp only [Act.put, List.setIfInBounds_toArray, List.set_cons_zero, List.set_cons_succ])
    refine SeqY.act (by rfl) rfl (by rfl) (by rfl) (fun K hK => ?_)
    have O3 := Lib.hid ((HO.out.kept K1.out fun _ h => h.elim).kept K3.out fun _ h => h.elim)
    have hs1 := K1.out.size
    have hs3 := K3.out.size
    have hB := HB.out
    have lo := Lib.hid HO.out.lt
    have lw := Lib.hid O1.out.lt
    refine wp_app_one (E := bytesEl) (.tmp 18) (.tmp 22) _ rfl tRows (D' := fun x => w.heap.size ≤ x) _ out rfl O3.out w1.heap.size _ (rowB l k v r) rfl ⟨_, _, G3⟩ ⟨_, rfl, (O1.out.rd (fun _ h => h.elim) fun x hx => (lw.out x hx).1).kept byteEl_k K3.out (fun _ _ _ h => h)⟩ (fun x hx _ => ⟨by have : w.heap.size ≤ x := hx; omega, fun he => by have := (lo.out x he).2; have : w.heap.size ≤ x := hx; omega⟩) (by have := BY.out; simp only [Tr.size] at this ⊢; omega) (by decide) (by omega) ?_
    rintro v4 w4 o4 k4 hb4
    have K4 := Lib.hid (show Kept (fun b => B ≤ b) w w4 from (K1.out.mono (fun _ h => h.elim) |>.trans K3.out fun _ h => h.elim).trans k4 fun x hx => .inl (lo.out x hx).1)
    have g3 := k4.cell (p := ⟨b, 3, none⟩) (fun hx => by have := (lo.out b hx).1; omega) f3
    have g4 := k4.cell (p := ⟨b, 4, none⟩) (fun hx => by have := (lo.out b hx).1; omega) f4
    refine hK.out _ _ ⟨g3, g4⟩ ?_
    have O4 := Lib.hid o4
    obtain ⟨a4, n4, c4', rfl⟩ := o4.slice'
    clear K hK o4 k4 f3 f4 hb4 G3 hs1 hs3
    (try simp only [Act.put, List.setIfInBounds_toArray, List.set_cons_zero, List.set_cons_succ])
    (refine SeqY.val (v := ?_) (by rfl) (by rfl) (fun wx hSw => ?_) ?_; rotate_left; (focus ((try dsimp only at hSw); go_simp; (try with_reducible rfl))); (try simp only [Act.put, List.setIfInBounds_toArray, List.set_cons_zero, List.set_cons_succ]))
    refine SeqY.act (by rfl) rfl (by rfl) (by rfl) (fun K hK => ?_)
    go_simp
    have hs4 := K4.out.size
    refine (IL.out pl Sl w4 _ (out ++ [rowB l k v r]) (L.out.kept K4.out (fun x h _ (h2 : B ≤ x) => by have := hD x h; omega) fun x hx (h2 : B ≤ x) => by have := HS.out x (by simp [hx]); omega) OK.out.1 (fun x hx => HS.out x (by simp [hx])) (by omega) O4.out (by have := BY.out; simp only [Tr.size, List.length_append, List.length_cons, List.length_nil] at this ⊢; omega)).mono ?_
    rintro e w5 ⟨v5, rfl, o5, k5⟩
    have h3 := k5.cell (p := ⟨b, 3, none⟩) (fun (h2 : B ≤ b) => by omega) g3
    have h4 := k5.cell (p := ⟨b, 4, none⟩) (fun (h2 : B ≤ b) => by omega) g4
    refine hK.out _ _ ⟨h3, h4⟩ ?_
    have O5 := Lib.hid o5
    have K5 := Lib.hid (K4.out.tr k5)
    obtain ⟨a5, n5, c5', rfl⟩ := o5.slice'
    clear K hK o5 k5 g3 g4
    (try simp only [Act.put, List.setIfInBounds_toArray, List.set_cons_zero, List.set_cons_succ])
    (refine SeqY.val (v := ?_) (by rfl) (by rfl) (fun wx hSw => ?_) ?_; rotate_left; (focus ((try dsimp only at hSw); go_simp; (try with_reducible rfl))); (try simp only [Act.put, List.setIfInBounds_toArray, List.set_cons_zero, List.set_cons_succ]))
    refine SeqY.act (by rfl) rfl (by rfl) (by rfl) (fun K hK => ?_)
    go_simp
    have hs5 := K5.out.size
    refine (IR.out pr Sr w5 _ (out ++ [rowB l k v r] ++ l.rows) (R.out.kept K5.out (fun x h _ (h2 : B ≤ x) => by have := hD x h; omega) fun x hx (h2 : B ≤ x) => by have := HS.out x (by simp [hx]); omega) OK.out.2.2 (fun x hx => HS.out x (by simp [hx])) (by omega) O5.out (by have := BY.out; simp only [Tr.size, List.length_append, List.length_cons, List.length_nil, Tr.rows_len] at this ⊢; omega)).mono ?_
    rintro e w6 ⟨v6, rfl, o6, k6⟩
    refine hK.out _ _ ⟨k6.cell (p := ⟨b, 3, none⟩) (fun (h2 : B ≤ b) => by omega) h3, k6.cell (p := ⟨b, 4, none⟩) (fun (h2 : B ≤ b) => by omega) h4⟩ ?_
    have O6 := Lib.hid o6
    have K6 := Lib.hid (K5.out.tr k6)
    obtain ⟨a6, n6, c6', rfl⟩ := o6.slice'
    clear K hK o6 k6 h3 h4
    (try simp only [Act.put, List.setIfInBounds_toArray, List.set_cons_zero, List.set_cons_succ])
    (refine SeqY.val (v := ?_) (by rfl) (by rfl) (fun wx hSw => ?_) ?_; rotate_left; (focus ((try dsimp only at hSw); go_simp; (try with_reducible rfl))); (try simp only [Act.put, List.setIfInBounds_toArray, List.set_cons_zero, List.set_cons_succ]))
    refine SeqY.nil ?_
    go_wp2
    go_ret
    refine ⟨_, rfl, ?_, K6.out⟩
    have := O6.out
    rwa [List.append_assoc, List.append_assoc, List.singleton_append] at this
end Go.Proofs.Ytaopjdjbpamhhaa
/- Proved: contracts of gather over nodes, and of the map's function Nodes. Conditions: maps in memory. -/
namespace Go.Proofs.Ytaopjdjbpamhhaa
open Go Go.RowKit
set_option linter.unusedVariables false
set_option linter.unusedSimpArgs false

structure ND where
  k : Bts
  v : Bts
  dg : Int
  size : Nat
  left : Int
  right : Int
def nodeEl : El ND where
  k := 6
  R := fun D w cs x => ∃ u v, cs = [u, v, .int .u64 x.dg, .int .i64 x.size, .int .i64 x.left, .int .i64 x.right] ∧ BV D w u x.k ∧ BV D w v x.v
  mono := fun hw ⟨u, v, h1, h2, h3⟩ => ⟨u, v, h1, h2.mono byteEl_k hw, h3.mono byteEl_k hw⟩
  len := fun ⟨u, v, h1, _⟩ => by rw [h1]; rfl
  one := fun ⟨u, v, h1, h2, h3⟩ x hx => by
    rw [h1] at hx
    rcases List.mem_cons.1 hx with rfl | hx
    · exact h2.cell1
    · rcases List.mem_cons.1 hx with rfl | hx
      · exact h3.cell1
      · simp only [List.mem_cons, List.not_mem_nil, or_false] at hx
        rcases hx with rfl | rfl | rfl | rfl <;> rfl
theorem nodeEl_k : 0 < nodeEl.k := by decide
def ndOf (seed : Int) (l : Tr) (k v : Bts) (r : Tr) (i : Int) : ND := ⟨k, v, (Tr.nd l k v r).dg seed, (Tr.nd l k v r).size, if l.size = 0 then -1 else i + 1, if r.size = 0 then -1 else i + 1 + l.size⟩
def Tr.nodes (seed : Int) : Tr → Int → List ND
  | nil, _ => []
  | nd l k v r, i => ndOf seed l k v r i :: (l.nodes seed (i + 1) ++ r.nodes seed (i + 1 + l.size))
theorem Tr.nodes_len (seed : Int) : ∀ (t : Tr) (i : Int), (t.nodes seed i).length = t.size
  | nil, _ => rfl
  | nd l k v r, i => by simp only [Tr.nodes, Tr.size, List.length_cons, List.length_append, nodes_len seed l, nodes_len seed r]; omega
def intObj (j : Int) : Obj := .cells #[.int .i64 j] 3
theorem intObj_cell {w : World} {q : Nat} {j : Int} (h : w.heap[q]? = some (intObj j)) : w.cell? ⟨q, 0, none⟩ = some (.int .i64 j) ∧ w.frozen? ⟨q, 0, none⟩ = false := by
  unfold intObj at h
  simp [World.cell?, World.frozen?, h]

theorem nd_done {seed : Int} {l r : Tr} {k v : Bts} {w w1 w2 w4 W : World} {m4 q : Nat} {kv vv : Value} {i a b c d : Int} (hz : w.heap.size < w1.heap.size) (hm : w2.heap.size ≤ m4) (hq : q < w.heap.size)
    (B1 : BV (fun x => w1.heap.size ≤ x ∧ x < w2.heap.size) w4 kv k) (B2 : BV (fun x => w1.heap.size ≤ x ∧ x < w2.heap.size) w4 vv v) (Q : w4.heap[q]? = some (intObj i)) (K : Kept (fun x => x = q) w w4) (hs : w1.heap.size ≤ w2.heap.size)
    (KS : Kept (fun x => x = m4 ∨ x = w.heap.size) w4 W) (e1 : a = (ndOf seed l k v r i).dg) (e2 : b = (ndOf seed l k v r i).size) (e3 : c = (ndOf seed l k v r i).left) (e4 : d = (ndOf seed l k v r i).right) :
    ∃ k' v', Ending.returned (.agg #[kv, vv, .int .u64 a, .int .i64 b, .int .i64 c, .int .i64 d]) = .returned (.agg #[k', v', .int .u64 (ndOf seed l k v r i).dg, .int .i64 (ndOf seed l k v r i).size, .int .i64 (ndOf seed l k v r i).left, .int .i64 (ndOf seed l k v r i).right]) ∧ BV (fun x => w.heap.size ≤ x) W k' k ∧ BV (fun x => w.heap.size ≤ x) W v' v ∧ W.heap[q]? = some (intObj i) ∧ Kept (fun x => x = q) w W := by
  refine ⟨kv, vv, by rw [e1, e2, e3, e4], ?_, ?_, KS.obj (by omega) Q, K.trans KS fun x h => .inr (by omega)⟩
  · exact (B1.kept byteEl_k KS fun x h _ e => by omega).wide byteEl_k fun x h _ => by omega
  · exact (B2.kept byteEl_k KS fun x h _ e => by omega).wide byteEl_k fun x h _ => by omega

set_option maxRecDepth 100000 in
set_option maxHeartbeats 4000000 in
theorem orMap_Nodes_1_calls {seed : Int} {D : Nat → Prop} {w : World} {p : Option Nat} {S : List Nat} {l r : Tr} {k v : Bts} {q : Nat} {i j : Int} (ht : TreeAt seed D w (.nd l k v r) p S) (hq : w.heap[q]? = some (intObj j)) (hi : j + 1 = i) (hqS : q ∉ S) (hqD : ¬ D q) (h0 : 0 ≤ i) (h1 : i + l.size + r.size ≤ 1000000000) :
    Calls Try.prog 158 #[ptr p, .pointer (some ⟨q, 0, none⟩)] w fun e w' => ∃ k' v', e = .returned (.agg #[k', v', .int .u64 (ndOf seed l k v r i).dg, .int .i64 (ndOf seed l k v r i).size, .int .i64 (ndOf seed l k v r i).left, .int .i64 (ndOf seed l k v r i).right]) ∧ BV (fun x => w.heap.size ≤ x) w' k' k ∧ BV (fun x => w.heap.size ≤ x) w' v' v ∧ w'.heap[q]? = some (intObj i) ∧ Kept (fun x => x = q) w w' := by
  obtain ⟨b, pl, pr, Sl, Sr, kv, vv, rfl, rfl, hob, hkv, hvv, hl, hr⟩ := ht
  obtain ⟨c0, c1, _, c3, c4, c5, c6, _⟩ := NodeAt.of hob
  have hbq : b ≠ q := fun e => hqS (by simp [e])
  have el : l.size = 0 ↔ pl = none := TreeAt.empty hl
  have er : r.size = 0 ↔ pr = none := TreeAt.empty hr
  have KV := Lib.hid hkv
  have VV := Lib.hid hvv
  have CL := Lib.hid hl.child
  have HI := Lib.hid hi
  have HQD := Lib.hid hqD
  have H0 := Lib.hid h0
  have H1 := Lib.hid h1
  have HQ := Lib.hid hq
  have LB := Lib.hid (cell_lt c3)
  have lb0 : b < w.heap.size := LB.out
  have hqc := intObj_cell hq
  obtain ⟨q0, fq⟩ := hqc
  have BQ := Lib.hid hbq
  have SB := Lib.hid (show ∀ x, pl = some x → x < w.heap.size from fun x hx => hl.lt x (hl.root hx))
  have SQ := Lib.hid (show ∀ x, pl = some x → x ≠ q from fun x hx e => hqS (by have := hl.root hx; simp [← e, this]))
  clear hob hkv hvv hl hr hi hqD h0 h1 hq hqS hbq
  change Calls _ _ #[.pointer (some ⟨b, 0, none⟩), _] _ _
  rcases pl with _ | b3 <;> rcases pr with _ | b4
  all_goals
    have EL := Lib.hid el
    have ER := Lib.hid er
    clear el er
    have qa : ∀ o, (w.alloc o).cell? ⟨q, 0, none⟩ = some (.int .i64 j) := fun o => ((Kept.refl Noneof w).alloc o).cell (p := ⟨q, 0, none⟩) (fun h => h) q0
    have qf : ∀ o, (w.alloc o).frozen? ⟨q, 0, none⟩ = false := fun o => (intObj_cell (((Kept.refl Noneof w).alloc o).obj (fun h => h) HQ.out)).2
    have hw : IntKind.i64.wrap (j + 1) = i := by have a := HI.out; have b := H0.out; have c := H1.out; rw [IntWalk.i64_in _ ⟨by omega, by omega⟩, a]
    go_enter Try.func158, Try.ntmps158
    go_wp2_with fail
    have G0 := heap_alloc_new w (.cells #[.slice none 0 0, .slice none 0 0, .int .u64 0, .int .i64 0, .int .i64 0, .int .i64 0] 172)
    have K0 := (Kept.refl (fun x => x = q) w).alloc (.cells #[.slice none 0 0, .slice none 0 0, .int .u64 0, .int .i64 0, .int .i64 0, .int .i64 0] 172)
    have s0 := block_lt G0
    have lq := block_lt HQ.out
    have Q0 := ((Kept.refl Noneof w).alloc (.cells #[.slice none 0 0, .slice none 0 0, .int .u64 0, .int .i64 0, .int .i64 0, .int .i64 0] 172)).obj (fun h => h) HQ.out
    generalize w.alloc (.cells #[.slice none 0 0, .slice none 0 0, .int .u64 0, .int .i64 0, .int .i64 0, .int .i64 0] 172) = wa at *
    have KS := (Kept.refl (fun x => x = q) wa).setCell (p := ⟨q, 0, none⟩) (.inl rfl) (.int .i64 i)
    have G1 := Lib.hid (KS.obj (p := w.heap.size) (by omega) G0)
    have Q1 := Lib.hid (show (wa.setCell ⟨q, 0, none⟩ (.int .i64 i)).heap[q]? = some (intObj i) from setCell_obj Q0 _)
    have K1 := Lib.hid (K0.trans KS fun _ h => .inl h)
    have Z1 := Lib.hid (Nat.lt_of_lt_of_le s0 KS.size)
    generalize wa.setCell ⟨q, 0, none⟩ (.int .i64 i) = w1 at *
    have hbq := BQ.out
    have d0 := K1.out.cell (p := ⟨b, 0, none⟩) hbq c0
    have d1 := K1.out.cell (p := ⟨b, 1, none⟩) hbq c1
    have d3 := K1.out.cell (p := ⟨b, 3, none⟩) hbq c3
    have d4 := K1.out.cell (p := ⟨b, 4, none⟩) hbq c4
    have d5 := K1.out.cell (p := ⟨b, 5, none⟩) hbq c5
    have d6 := K1.out.cell (p := ⟨b, 6, none⟩) hbq c6
    clear q0 fq qa qf G0 K0 s0 lq Q0 KS c0 c1 c3 c4 c5 c6 wa
    refine (ornode_pair_calls (D := D) d0 d1 (KV.out.kept byteEl_k K1.out fun x h _ e => HQD.out (e ▸ h)) (VV.out.kept byteEl_k K1.out fun x h _ e => HQD.out (e ▸ h))).mono ?_
    rintro e w2 ⟨k', v', rfl, o1, o2, k2⟩
    obtain ⟨b1, n1, rfl, _⟩ := id o1
    obtain ⟨b2, n2, rfl, _⟩ := id o2
    have O1 := Lib.hid o1
    have O2 := Lib.hid o2
    have K2 := Lib.hid k2
    clear o1 o2 k2
    go_wp2_with fail
    have G3 := heap_alloc_new w2 (.cells #[.slice b1 k.length n1, .slice b2 v.length n2] 70)
    have K3 := Lib.hid ((Kept.refl Noneof w2).alloc (.cells #[.slice b1 k.length n1, .slice b2 v.length n2] 70))
    generalize w2.alloc (.cells #[.slice b1 k.length n1, .slice b2 v.length n2] 70) = w3 at *
    have K12 := Lib.hid ((K1.out.trans K2.out fun _ h => h.elim).trans K3.out fun _ h => h.elim)
    have e0 : w3.cell? ⟨w2.heap.size, 0, none⟩ = some (.slice b1 k.length n1) := by simp [World.cell?, G3]
    have e1 : w3.cell? ⟨w2.heap.size, 1, none⟩ = some (.slice b2 v.length n2) := by simp [World.cell?, G3]
    have e3 := K3.out.cell (p := ⟨b, 3, none⟩) (fun h => h) (K2.out.cell (p := ⟨b, 3, none⟩) (fun h => h) d3)
    have e4 := K3.out.cell (p := ⟨b, 4, none⟩) (fun h => h) (K2.out.cell (p := ⟨b, 4, none⟩) (fun h => h) d4)
    have e5 := K3.out.cell (p := ⟨b, 5, none⟩) (fun h => h) (K2.out.cell (p := ⟨b, 5, none⟩) (fun h => h) d5)
    have e6 := K3.out.cell (p := ⟨b, 6, none⟩) (fun h => h) (K2.out.cell (p := ⟨b, 6, none⟩) (fun h => h) d6)
    have HG3 := Lib.hid (block_lt G3)
    clear G3 d0 d1 d3 d4 d5 d6
    obtain ⟨m2, hm2⟩ : ∃ m2, m2 = w2.heap.size := ⟨_, rfl⟩
    rw [← hm2] at e0 e1
    rw [← hm2]
    have HM2 := Lib.hid hm2
    clear hm2
    refine wp_region_chain 15 [13, 14] (fun w' => w'.cell? ⟨m2, 0, none⟩ = some (.slice b1 k.length n1) ∧ w'.cell? ⟨m2, 1, none⟩ = some (.slice b2 v.length n2) ∧ w'.cell? ⟨b, 6, none⟩ = some (.int .u64 ((Tr.nd l k v r).dg seed)) ∧ w'.cell? ⟨b, 5, none⟩ = some (.int .i64 ((1 + l.size + r.size : Nat) : Int))) (by kernel_rfl) (by kernel_rfl) ?_ ?_
    · exact ⟨e0, e1, e6, e5⟩
    simp only [List.take_succ_cons, List.take_zero, List.drop_succ_cons, List.drop_zero]
    iterate 13 (refine SeqY.val (v := ?_) (by rfl) (by rfl) (fun wx hSw => ?_) ?_; rotate_left; (focus ((try dsimp only at hSw); go_simp; (try with_reducible rfl))); (try simp only [Act.put, List.setIfInBounds_toArray, List.set_cons_zero, List.set_cons_succ]))
    refine SeqY.act (by rfl) rfl (by rfl) (by rfl) (fun K hK => ?_)
    go_simp
    refine hK.out _ _ ?_ ?_
    · exact ⟨((Kept.refl Noneof _).alloc _).cell (p := ⟨m2, 0, none⟩) (fun h => h) e0, ((Kept.refl Noneof _).alloc _).cell (p := ⟨m2, 1, none⟩) (fun h => h) e1, ((Kept.refl Noneof _).alloc _).cell (p := ⟨b, 6, none⟩) (fun h => h) e6, ((Kept.refl Noneof _).alloc _).cell (p := ⟨b, 5, none⟩) (fun h => h) e5⟩
    clear K hK
    (try simp only [Act.put, List.setIfInBounds_toArray, List.set_cons_zero, List.set_cons_succ])
    refine SeqY.act0 (by rfl) rfl (by rfl) (fun K hK => ?_)
    go_simp
    refine hK.out _ ?_ ?_
    · exact ⟨((Kept.refl Noneof _).alloc _).cell (p := ⟨m2, 0, none⟩) (fun h => h) e0, ((Kept.refl Noneof _).alloc _).cell (p := ⟨m2, 1, none⟩) (fun h => h) e1, ((Kept.refl Noneof _).alloc _).cell (p := ⟨b, 6, none⟩) (fun h => h) e6, ((Kept.refl Noneof _).alloc _).cell (p := ⟨b, 5, none⟩) (fun h => h) e5⟩
    refine SeqY.alloc (w := w3.drew) fun w4 G4 K4 hs4 => ?_
    clear K hK
    refine SeqY.nil ?_
    have K34 := Lib.hid (show Kept Noneof w3 w4 from ⟨K4.os, K4.tape, K4.output, K4.size, K4.block⟩)
    have K14 := Lib.hid ((K2.out.trans K3.out fun _ h => h.elim).trans K34.out fun _ h => h.elim)
    have K04 := Lib.hid (K1.out.trans K14.out fun _ h => .inl h.elim)
    have hd : w3.drew.heap.size = w3.heap.size := rfl
    rw [hd] at G4 hs4
    have Q4 := K14.out.obj (p := q) (fun h => h) Q1.out
    have R4 := K14.out.obj (p := w.heap.size) (fun h => h) G1.out
    have B1 := Lib.hid (show BV (fun x => w1.heap.size ≤ x ∧ x < w2.heap.size) w4 (.slice b1 k.length n1) k from (O1.out.bd byteEl_k).kept byteEl_k (K3.out.trans K34.out fun _ h => h.elim) fun _ _ _ h => h)
    have B2 := Lib.hid (show BV (fun x => w1.heap.size ≤ x ∧ x < w2.heap.size) w4 (.slice b2 v.length n2) v from (O2.out.bd byteEl_k).kept byteEl_k (K3.out.trans K34.out fun _ h => h.elim) fun _ _ _ h => h)
    have i3 := K34.out.cell (p := ⟨b, 3, none⟩) (fun h => h) e3
    have i4 := K34.out.cell (p := ⟨b, 4, none⟩) (fun h => h) e4
    have z1 := Z1.out
    have z2 := K2.out.size
    have z3 := K3.out.size
    have lq := block_lt HQ.out
    have lb := BQ.out
    have lb2 := LB.out
    generalize w3.heap.size = m4 at *
    have M4 := Lib.hid (show w2.heap.size ≤ m4 from z3)
    have Z2 := Lib.hid z2
    have n1' : m4 ≠ q := by omega
    have n2' : m4 ≠ w.heap.size := by omega
    have n3' : m4 ≠ b := by omega
    have hw2 : IntKind.i64.wrap (i + 1) = i + 1 := by have b := H0.out; have c := H1.out; exact IntWalk.i64_in _ ⟨by omega, by omega⟩
    have j0 : w4.cell? ⟨m4, 0, none⟩ = some (.slice b1 k.length n1) := by simp [World.cell?, G4]
    have j1 : w4.cell? ⟨m4, 1, none⟩ = some (.slice b2 v.length n2) := by simp [World.cell?, G4]
    have j2 : w4.cell? ⟨m4, 2, none⟩ = some (.int .u64 ((Tr.nd l k v r).dg seed)) := by simp [World.cell?, G4]
    have j3 : w4.cell? ⟨m4, 3, none⟩ = some (.int .i64 ((1 + l.size + r.size : Nat) : Int)) := by simp [World.cell?, G4]
    have j4 : w4.cell? ⟨m4, 4, none⟩ = some (.int .i64 (-1)) := by simp [World.cell?, G4]
    have j5 : w4.cell? ⟨m4, 5, none⟩ = some (.int .i64 (-1)) := by simp [World.cell?, G4]
    have jf : ∀ j, w4.frozen? ⟨m4, j, none⟩ = false := fun j => by simp [World.frozen?, G4]
    have rf : ∀ j, w4.frozen? ⟨w.heap.size, j, none⟩ = false := fun j => by simp [World.frozen?, R4]
    have qi := (intObj_cell Q4).1
    have r0 : w4.cell? ⟨w.heap.size, 0, none⟩ = some (.slice none 0 0) := by simp [World.cell?, R4]
    have r1 : w4.cell? ⟨w.heap.size, 1, none⟩ = some (.slice none 0 0) := by simp [World.cell?, R4]
    have r2 : w4.cell? ⟨w.heap.size, 2, none⟩ = some (.int .u64 0) := by simp [World.cell?, R4]
    have r3 : w4.cell? ⟨w.heap.size, 3, none⟩ = some (.int .i64 0) := by simp [World.cell?, R4]
    have r4 : w4.cell? ⟨w.heap.size, 4, none⟩ = some (.int .i64 0) := by simp [World.cell?, R4]
    have r5 : w4.cell? ⟨w.heap.size, 5, none⟩ = some (.int .i64 0) := by simp [World.cell?, R4]
    simp only [ptr, adr] at i3 i4
    have GG := Lib.hid G4
    have RR := Lib.hid R4
    have QQ := Lib.hid Q4
    clear G4 R4 Q4 z1 z2 z3 lq e0 e1 e3 e4 e5 e6 hs4 hd K4 O1 O2 K12 HG3 HM2 lb2
  · have KB := Lib.hid (Kept.refl (fun x => x = m4 ∨ x = w.heap.size) w4)
    (
    go_wp2
    refine bodyPost_ret (results_cell_row rfl _ _ w.heap.size _ #[_, _, _, _, _, _] (0, 0) _ rfl (setCell_obj (setCell_obj (setCell_obj (setCell_obj (setCell_obj (setCell_obj RR.out _) _) _) _) _) _) Try.underlying172 rfl (by kernel_rfl)) rfl ?_
    refine nd_done (Z1.out) (M4.out) (block_lt HQ.out) B1.out B2.out QQ.out K04.out Z2.out (Kept.setCell (Kept.setCell (Kept.setCell (Kept.setCell (Kept.setCell (Kept.setCell (KB.out) (.inl (.inr rfl)) _) (.inl (.inr rfl)) _) (.inl (.inr rfl)) _) (.inl (.inr rfl)) _) (.inl (.inr rfl)) _) (.inl (.inr rfl)) _) rfl ?_ ?_ ?_
    · simp [ndOf, Tr.size]
    all_goals
      have el := EL.out
      have er := ER.out
      simp only [true_iff, false_iff, iff_true, iff_false, reduceCtorEq] at el er
      simp [ndOf, el, er])
  · go_wp2_with fail
    (
    have G5 := Lib.hid GG.out
    have K45 := Lib.hid (show Kept (fun x => x = m4) w4 w4 from Kept.refl _ _)
    have a0 := K45.out.cell (p := ⟨q, 0, none⟩) (fun e => n1' e.symm) qi
    have a3 := K45.out.cell (p := ⟨b, 3, none⟩) (fun e => n3' e.symm) i3
    have R5 := Lib.hid (K45.out.obj (p := w.heap.size) (fun e => n2' e.symm) RR.out)
    have hw3 : IntKind.i64.wrap (i + 1 + (l.size : Int)) = i + 1 + l.size := by have b := H0.out; have c := H1.out; exact IntWalk.i64_in _ ⟨by omega, by omega⟩
    have f5 : (w4).frozen? ⟨m4, 5, none⟩ = false := by have := G5.out; simp [World.frozen?, this]
    have c5 : (w4).cell? ⟨m4, 5, none⟩ = some (.int .i64 (-1)) := by have := G5.out; simp [World.cell?, this]
    have CH := Lib.hid (show childAt w4 none l.size (l.dg seed) from (CL.out.kept K04.out fun x h => SQ.out x h).kept K45.out fun x h => by have := SB.out x h; have := M4.out; have := Z1.out; have := Z2.out; omega)
    clear j0 j1 j2 j3 j4 j5 jf r0 r1 r2 r3 r4 r5 rf i4
    refine wp_region_chain 10 [6, 9] (fun w' => w'.cell? ⟨q, 0, none⟩ = some (.int .i64 i) ∧ w'.cell? ⟨b, 3, none⟩ = some (.pointer none)) (by kernel_rfl) (by kernel_rfl) ?_ ?_
    · exact ⟨a0, a3⟩
    simp only [List.take_succ_cons, List.take_zero, List.drop_succ_cons, List.drop_zero]
    iterate 6 (refine SeqY.val (v := ?_) (by rfl) (by rfl) (fun wx hSw => ?_) ?_; rotate_left; (focus ((try dsimp only at hSw); go_simp; (try with_reducible rfl))); (try simp only [Act.put, List.setIfInBounds_toArray, List.set_cons_zero, List.set_cons_succ]))
    refine SeqY.act (by rfl) rfl (by rfl) (by rfl) (fun K hK => ?_)
    go_simp
    refine (orcount_calls (w := (w4).drew) (p := none) (n := l.size) (d := l.dg seed) (CH.out.at rfl)).mono ?_
    rintro e w6 ⟨rfl, rfl⟩
    refine hK.out _ _ ⟨a0, a3⟩ ?_
    clear K hK
    (try simp only [Act.put, List.setIfInBounds_toArray, List.set_cons_zero, List.set_cons_succ])
    iterate 2 (refine SeqY.val (v := ?_) (by rfl) (by rfl) (fun wx hSw => ?_) ?_; rotate_left; (focus ((try dsimp only at hSw); go_simp; (try with_reducible rfl))); (try simp only [Act.put, List.setIfInBounds_toArray, List.set_cons_zero, List.set_cons_succ]))
    refine SeqY.act0 (by rfl) rfl (by rfl) (fun K hK => ?_)
    go_simp
    have K47 : Kept (fun x => x = m4) w4 ((w4).setCell ⟨m4, 5, none⟩ (.int .i64 (i + 1 + (l.size : Int)))).drew := (K45.out.setCell (.inl rfl) _).drew
    have G7 : ((w4).setCell ⟨m4, 5, none⟩ (.int .i64 (i + 1 + (l.size : Int)))).drew.heap[m4]? = _ := setCell_obj G5.out _
    have a7 := K47.cell (p := ⟨q, 0, none⟩) (fun e => n1' e.symm) qi
    have b7 := K47.cell (p := ⟨b, 3, none⟩) (fun e => n3' e.symm) i3
    refine hK.out _ ⟨a7, b7⟩ ?_
    clear K hK a0 a3 R5 f5 c5 CH
    refine SeqY.nil ?_
    have R7 := K47.obj (p := w.heap.size) (fun e => n2' e.symm) RR.out
    generalize ((w4).setCell ⟨m4, 5, none⟩ (.int .i64 (i + 1 + (l.size : Int)))).drew = w7 at *
    have j0 : w7.cell? ⟨m4, 0, none⟩ = some (.slice b1 k.length n1) := by simp [World.cell?, G7]
    have j1 : w7.cell? ⟨m4, 1, none⟩ = some (.slice b2 v.length n2) := by simp [World.cell?, G7]
    have j2 : w7.cell? ⟨m4, 2, none⟩ = some (.int .u64 ((Tr.nd l k v r).dg seed)) := by simp [World.cell?, G7]
    have j3 : w7.cell? ⟨m4, 3, none⟩ = some (.int .i64 ((1 + l.size + r.size : Nat) : Int)) := by simp [World.cell?, G7]
    have j4 : w7.cell? ⟨m4, 4, none⟩ = some (.int .i64 (-1)) := by simp [World.cell?, G7]
    have j5 : w7.cell? ⟨m4, 5, none⟩ = some (.int .i64 (i + 1 + (l.size : Int))) := by simp [World.cell?, G7]
    have r0 : w7.cell? ⟨w.heap.size, 0, none⟩ = some (.slice none 0 0) := by simp [World.cell?, R7]
    have r1 : w7.cell? ⟨w.heap.size, 1, none⟩ = some (.slice none 0 0) := by simp [World.cell?, R7]
    have r2 : w7.cell? ⟨w.heap.size, 2, none⟩ = some (.int .u64 0) := by simp [World.cell?, R7]
    have r3 : w7.cell? ⟨w.heap.size, 3, none⟩ = some (.int .i64 0) := by simp [World.cell?, R7]
    have r4 : w7.cell? ⟨w.heap.size, 4, none⟩ = some (.int .i64 0) := by simp [World.cell?, R7]
    have r5 : w7.cell? ⟨w.heap.size, 5, none⟩ = some (.int .i64 0) := by simp [World.cell?, R7]
    have rf : ∀ j, w7.frozen? ⟨w.heap.size, j, none⟩ = false := fun j => by simp [World.frozen?, R7]
    have KB := Lib.hid (show Kept (fun x => x = m4 ∨ x = w.heap.size) w4 w7 from K47.mono fun _ h => .inl h)
    have RR7 := Lib.hid R7
    clear K47 G7 R7 a7 b7 G5 K45
    (
    go_wp2
    refine bodyPost_ret (results_cell_row rfl _ _ w.heap.size _ #[_, _, _, _, _, _] (0, 0) _ rfl (setCell_obj (setCell_obj (setCell_obj (setCell_obj (setCell_obj (setCell_obj RR7.out _) _) _) _) _) _) Try.underlying172 rfl (by kernel_rfl)) rfl ?_
    refine nd_done (Z1.out) (M4.out) (block_lt HQ.out) B1.out B2.out QQ.out K04.out Z2.out (Kept.setCell (Kept.setCell (Kept.setCell (Kept.setCell (Kept.setCell (Kept.setCell (KB.out) (.inl (.inr rfl)) _) (.inl (.inr rfl)) _) (.inl (.inr rfl)) _) (.inl (.inr rfl)) _) (.inl (.inr rfl)) _) (.inl (.inr rfl)) _) rfl ?_ ?_ ?_
    · simp [ndOf, Tr.size]
    all_goals
      have el := EL.out
      have er := ER.out
      simp only [true_iff, false_iff, iff_true, iff_false, reduceCtorEq] at el er
      simp [ndOf, el, er]))
  · have KB := Lib.hid (show Kept (fun x => x = m4 ∨ x = w.heap.size) w4 (w4.setCell ⟨m4, 4, none⟩ (.int .i64 (i + 1))) from (Kept.refl _ w4).setCell (.inl (.inl rfl)) _)
    have R3 := Kept.obj (w' := w4.setCell ⟨m4, 4, none⟩ (.int .i64 (i + 1))) ((Kept.refl (fun x => x = m4) w4).setCell (.inl rfl) _) (fun e => n2' e.symm) RR.out
    (
    go_wp2
    refine bodyPost_ret (results_cell_row rfl _ _ w.heap.size _ #[_, _, _, _, _, _] (0, 0) _ rfl (setCell_obj (setCell_obj (setCell_obj (setCell_obj (setCell_obj (setCell_obj R3 _) _) _) _) _) _) Try.underlying172 rfl (by kernel_rfl)) rfl ?_
    refine nd_done (Z1.out) (M4.out) (block_lt HQ.out) B1.out B2.out QQ.out K04.out Z2.out (Kept.setCell (Kept.setCell (Kept.setCell (Kept.setCell (Kept.setCell (Kept.setCell (KB.out) (.inl (.inr rfl)) _) (.inl (.inr rfl)) _) (.inl (.inr rfl)) _) (.inl (.inr rfl)) _) (.inl (.inr rfl)) _) (.inl (.inr rfl)) _) rfl ?_ ?_ ?_
    · simp [ndOf, Tr.size]
    all_goals
      have el := EL.out
      have er := ER.out
      simp only [true_iff, false_iff, iff_true, iff_false, reduceCtorEq] at el er
      simp [ndOf, el, er])
  · go_wp2_with fail
    (
    have G5 := Lib.hid (show (w4.setCell ⟨m4, 4, none⟩ (.int .i64 (i + 1))).heap[m4]? = _ from setCell_obj GG.out _)
    have K45 := Lib.hid (show Kept (fun x => x = m4) w4 (w4.setCell ⟨m4, 4, none⟩ (.int .i64 (i + 1))) from (Kept.refl (fun x => x = m4) w4).setCell (p := ⟨m4, 4, none⟩) (.inl rfl) (.int .i64 (i + 1)))
    have a0 := K45.out.cell (p := ⟨q, 0, none⟩) (fun e => n1' e.symm) qi
    have a3 := K45.out.cell (p := ⟨b, 3, none⟩) (fun e => n3' e.symm) i3
    have R5 := Lib.hid (K45.out.obj (p := w.heap.size) (fun e => n2' e.symm) RR.out)
    have hw3 : IntKind.i64.wrap (i + 1 + (l.size : Int)) = i + 1 + l.size := by have b := H0.out; have c := H1.out; exact IntWalk.i64_in _ ⟨by omega, by omega⟩
    have f5 : ((w4.setCell ⟨m4, 4, none⟩ (.int .i64 (i + 1)))).frozen? ⟨m4, 5, none⟩ = false := by have := G5.out; simp [World.frozen?, this]
    have c5 : ((w4.setCell ⟨m4, 4, none⟩ (.int .i64 (i + 1)))).cell? ⟨m4, 5, none⟩ = some (.int .i64 (-1)) := by have := G5.out; simp [World.cell?, this]
    have CH := Lib.hid (show childAt (w4.setCell ⟨m4, 4, none⟩ (.int .i64 (i + 1))) (some b3) l.size (l.dg seed) from (CL.out.kept K04.out fun x h => SQ.out x h).kept K45.out fun x h => by have := SB.out x h; have := M4.out; have := Z1.out; have := Z2.out; omega)
    clear j0 j1 j2 j3 j4 j5 jf r0 r1 r2 r3 r4 r5 rf i4
    refine wp_region_chain 10 [6, 9] (fun w' => w'.cell? ⟨q, 0, none⟩ = some (.int .i64 i) ∧ w'.cell? ⟨b, 3, none⟩ = some (.pointer (some ⟨b3, 0, none⟩))) (by kernel_rfl) (by kernel_rfl) ?_ ?_
    · exact ⟨a0, a3⟩
    simp only [List.take_succ_cons, List.take_zero, List.drop_succ_cons, List.drop_zero]
    iterate 6 (refine SeqY.val (v := ?_) (by rfl) (by rfl) (fun wx hSw => ?_) ?_; rotate_left; (focus ((try dsimp only at hSw); go_simp; (try with_reducible rfl))); (try simp only [Act.put, List.setIfInBounds_toArray, List.set_cons_zero, List.set_cons_succ]))
    refine SeqY.act (by rfl) rfl (by rfl) (by rfl) (fun K hK => ?_)
    go_simp
    refine (orcount_calls (w := ((w4.setCell ⟨m4, 4, none⟩ (.int .i64 (i + 1)))).drew) (p := (some b3)) (n := l.size) (d := l.dg seed) (CH.out.at rfl)).mono ?_
    rintro e w6 ⟨rfl, rfl⟩
    refine hK.out _ _ ⟨a0, a3⟩ ?_
    clear K hK
    (try simp only [Act.put, List.setIfInBounds_toArray, List.set_cons_zero, List.set_cons_succ])
    iterate 2 (refine SeqY.val (v := ?_) (by rfl) (by rfl) (fun wx hSw => ?_) ?_; rotate_left; (focus ((try dsimp only at hSw); go_simp; (try with_reducible rfl))); (try simp only [Act.put, List.setIfInBounds_toArray, List.set_cons_zero, List.set_cons_succ]))
    refine SeqY.act0 (by rfl) rfl (by rfl) (fun K hK => ?_)
    go_simp
    have K47 : Kept (fun x => x = m4) w4 (((w4.setCell ⟨m4, 4, none⟩ (.int .i64 (i + 1)))).setCell ⟨m4, 5, none⟩ (.int .i64 (i + 1 + (l.size : Int)))).drew := (K45.out.setCell (.inl rfl) _).drew
    have G7 : (((w4.setCell ⟨m4, 4, none⟩ (.int .i64 (i + 1)))).setCell ⟨m4, 5, none⟩ (.int .i64 (i + 1 + (l.size : Int)))).drew.heap[m4]? = _ := setCell_obj G5.out _
    have a7 := K47.cell (p := ⟨q, 0, none⟩) (fun e => n1' e.symm) qi
    have b7 := K47.cell (p := ⟨b, 3, none⟩) (fun e => n3' e.symm) i3
    refine hK.out _ ⟨a7, b7⟩ ?_
    clear K hK a0 a3 R5 f5 c5 CH
    refine SeqY.nil ?_
    have R7 := K47.obj (p := w.heap.size) (fun e => n2' e.symm) RR.out
    generalize (((w4.setCell ⟨m4, 4, none⟩ (.int .i64 (i + 1)))).setCell ⟨m4, 5, none⟩ (.int .i64 (i + 1 + (l.size : Int)))).drew = w7 at *
    have j0 : w7.cell? ⟨m4, 0, none⟩ = some (.slice b1 k.length n1) := by simp [World.cell?, G7]
    have j1 : w7.cell? ⟨m4, 1, none⟩ = some (.slice b2 v.length n2) := by simp [World.cell?, G7]
    have j2 : w7.cell? ⟨m4, 2, none⟩ = some (.int .u64 ((Tr.nd l k v r).dg seed)) := by simp [World.cell?, G7]
    have j3 : w7.cell? ⟨m4, 3, none⟩ = some (.int .i64 ((1 + l.size + r.size : Nat) : Int)) := by simp [World.cell?, G7]
    have j4 : w7.cell? ⟨m4, 4, none⟩ = some (.int .i64 (i + 1)) := by simp [World.cell?, G7]
    have j5 : w7.cell? ⟨m4, 5, none⟩ = some (.int .i64 (i + 1 + (l.size : Int))) := by simp [World.cell?, G7]
    have r0 : w7.cell? ⟨w.heap.size, 0, none⟩ = some (.slice none 0 0) := by simp [World.cell?, R7]
    have r1 : w7.cell? ⟨w.heap.size, 1, none⟩ = some (.slice none 0 0) := by simp [World.cell?, R7]
    have r2 : w7.cell? ⟨w.heap.size, 2, none⟩ = some (.int .u64 0) := by simp [World.cell?, R7]
    have r3 : w7.cell? ⟨w.heap.size, 3, none⟩ = some (.int .i64 0) := by simp [World.cell?, R7]
    have r4 : w7.cell? ⟨w.heap.size, 4, none⟩ = some (.int .i64 0) := by simp [World.cell?, R7]
    have r5 : w7.cell? ⟨w.heap.size, 5, none⟩ = some (.int .i64 0) := by simp [World.cell?, R7]
    have rf : ∀ j, w7.frozen? ⟨w.heap.size, j, none⟩ = false := fun j => by simp [World.frozen?, R7]
    have KB := Lib.hid (show Kept (fun x => x = m4 ∨ x = w.heap.size) w4 w7 from K47.mono fun _ h => .inl h)
    have RR7 := Lib.hid R7
    clear K47 G7 R7 a7 b7 G5 K45
    (
    go_wp2
    refine bodyPost_ret (results_cell_row rfl _ _ w.heap.size _ #[_, _, _, _, _, _] (0, 0) _ rfl (setCell_obj (setCell_obj (setCell_obj (setCell_obj (setCell_obj (setCell_obj RR7.out _) _) _) _) _) _) Try.underlying172 rfl (by kernel_rfl)) rfl ?_
    refine nd_done (Z1.out) (M4.out) (block_lt HQ.out) B1.out B2.out QQ.out K04.out Z2.out (Kept.setCell (Kept.setCell (Kept.setCell (Kept.setCell (Kept.setCell (Kept.setCell (KB.out) (.inl (.inr rfl)) _) (.inl (.inr rfl)) _) (.inl (.inr rfl)) _) (.inl (.inr rfl)) _) (.inl (.inr rfl)) _) (.inl (.inr rfl)) _) rfl ?_ ?_ ?_
    · simp [ndOf, Tr.size]
    all_goals
      have el := EL.out
      have er := ER.out
      simp only [true_iff, false_iff, iff_true, iff_false, reduceCtorEq] at el er
      simp [ndOf, el, er]))
end Go.Proofs.Ytaopjdjbpamhhaa
/- Proved: contract of gather over nodes. Conditions: nodes as a tree in memory. -/
namespace Go.Proofs.Ytaopjdjbpamhhaa
open Go Go.RowKit
set_option linter.unusedVariables false
set_option linter.unusedSimpArgs false

theorem tNodes : SlT Try.prog 166 172 6 80 (.agg #[.slice none 0 0, .slice none 0 0, .int .u64 0, .int .i64 0, .int .i64 0, .int .i64 0]) := SlT.of (by kernel_rfl) (by kernel_rfl) rfl (by decide)
set_option maxRecDepth 100000 in
set_option maxHeartbeats 4000000 in
theorem orgather_nodes {seed : Int} {D : Nat → Prop} {B q : Nat} (hD : ∀ b, D b → b < B ∧ b ≠ q) (hqB : q < B) : ∀ (t : Tr) (p : Option Nat) (S : List Nat) (w : World) (vo : Value) (out : List ND) (j i : Int), TreeAt seed D w t p S → (∀ b ∈ S, b < B ∧ b ≠ q) → B ≤ w.heap.size → w.heap[q]? = some (intObj j) → j + 1 = i → 0 ≤ i → i + t.size ≤ 1000000000 →
    Own 172 nodeEl (fun b => B ≤ b) B w vo out → (out.length + t.size) * 80 ≤ 140737488355328 →
    Calls Try.prog 157 #[ptr p, vo, .func (.func 158) #[] #[.pointer (some ⟨q, 0, none⟩)]] w fun e w' => ∃ v', e = .returned v' ∧ Own 172 nodeEl (fun b => B ≤ b) B w' v' (out ++ t.nodes seed i) ∧ w'.heap[q]? = some (intObj (j + t.size)) ∧ Kept (fun b => b = q ∨ B ≤ b) w w' := by
  intro t
  induction t with
  | nil =>
    intro p S w vo out j i ht hS hB hq hi h0 hsz ho hb
    obtain ⟨rfl, rfl⟩ := ht
    have HO := Lib.hid ho
    have HQ := Lib.hid hq
    obtain ⟨a, c, rfl⟩ := ho.slice
    clear ho hq hi h0 hsz
    change Calls _ _ #[.pointer none, _, _] _ _
    go_enter Try.func157, Try.ntmps157
    go_wp2
    go_ret
    exact ⟨_, rfl, by simpa [Tr.nodes] using HO.out, by simpa [Tr.size] using HQ.out, Kept.refl _ _⟩
  | nd l k v r il ir =>
    intro p S w vo out j i ht hS hB hq hi h0 hsz ho hb
    have IL := Lib.hid il
    have IR := Lib.hid ir
    have HO := Lib.hid ho
    have HS := Lib.hid hS
    have HB := Lib.hid hB
    have BY := Lib.hid hb
    have HQ := Lib.hid hq
    have HI := Lib.hid hi
    have H0 := Lib.hid h0
    have SZ := Lib.hid hsz
    have HT := Lib.hid ht
    obtain ⟨b, pl, pr, Sl, Sr, kv, vv, rfl, rfl, hob, hkv, hvv, hl, hr⟩ := ht
    obtain ⟨a1, n1, c1', rfl⟩ := ho.slice'
    obtain ⟨_, _, _, c3, c4, _, _, _⟩ := NodeAt.of hob
    have L := Lib.hid hl
    have R := Lib.hid hr
    clear hob hkv hvv hl hr il ir ho hS hB hb hq hi h0 hsz
    change Calls _ _ #[.pointer (some ⟨b, 0, none⟩), _, _] _ _
    go_enter Try.func157, Try.ntmps157
    go_wp2_with fail
    refine wp_region_chain 19 [11, 12, 13, 15, 17] (fun w' => w'.cell? ⟨b, 3, none⟩ = some (ptr pl) ∧ w'.cell? ⟨b, 4, none⟩ = some (ptr pr)) (by kernel_rfl) (by kernel_rfl) ?_ ?_
    · exact ⟨c3, c4⟩
    simp only [List.take_succ_cons, List.take_zero, List.drop_succ_cons, List.drop_zero]
    iterate 11 (refine SeqY.val (v := ?_) (by rfl) (by rfl) (fun wx hSw => ?_) ?_; rotate_left; (focus ((try dsimp only at hSw); go_simp; (try with_reducible rfl))); (try simp only [Act.put, List.setIfInBounds_toArray, List.set_cons_zero, List.set_cons_succ]))
    refine SeqY.act (by rfl) rfl (by rfl) (by rfl) (fun K hK => ?_)
    go_simp
    refine (orMap_Nodes_1_calls (w := w.drew) (p := some b) (l := l) (k := k) (v := v) (r := r) (HT.out.at rfl) (show w.drew.heap[q]? = _ from HQ.out) HI.out (fun h => (HS.out q h).2 rfl) (fun h => (hD q h).2 rfl) H0.out (by have := SZ.out; simp only [Tr.size] at this; omega)).mono ?_
    rintro e w1 ⟨k', v', rfl, o1, o2, q1, k1⟩
    have hbQ : b ≠ q := (HS.out b (by simp)).2
    have hbB : b < B := (HS.out b (by simp)).1
    have K1 := Lib.hid (show Kept (fun x => x = q) w w1 from ⟨k1.os, k1.tape, k1.output, k1.size, k1.block⟩)
    have O1 := Lib.hid (show BV (fun x => w.heap.size ≤ x) w1 k' k from o1)
    have O2 := Lib.hid (show BV (fun x => w.heap.size ≤ x) w1 v' v from o2)
    have Q1 := Lib.hid q1
    have d3 := k1.cell (p := ⟨b, 3, none⟩) hbQ c3
    have d4 := k1.cell (p := ⟨b, 4, none⟩) hbQ c4
    obtain ⟨b1, n1', rfl, _⟩ := id o1
    obtain ⟨b2, n2', rfl, _⟩ := id o2
    refine hK.out _ _ ⟨d3, d4⟩ ?_
    clear K hK o1 o2 q1 k1 c3 c4
    (try simp only [Act.put, List.setIfInBounds_toArray, List.set_cons_zero, List.set_cons_succ])
    refine SeqY.act (by rfl) rfl (by rfl) (by rfl) (fun K hK => ?_)
    go_simp
    have G3 := heap_alloc_new w1 (.cells #[.slice b1 k.length n1', .slice b2 v.length n2', .int .u64 (ndOf seed l k v r i).dg, .int .i64 (ndOf seed l k v r i).size, .int .i64 (ndOf seed l k v r i).left, .int .i64 (ndOf seed l k v r i).right] 172)
    have K3 := Lib.hid ((Kept.refl Noneof w1).alloc (.cells #[.slice b1 k.length n1', .slice b2 v.length n2', .int .u64 (ndOf seed l k v r i).dg, .int .i64 (ndOf seed l k v r i).size, .int .i64 (ndOf seed l k v r i).left, .int .i64 (ndOf seed l k v r i).right] 172))
    have f3 := K3.out.cell (p := ⟨b, 3, none⟩) (fun h => h) d3
    have f4 := K3.out.cell (p := ⟨b, 4, none⟩) (fun h => h) d4
    refine hK.out _ _ ⟨f3, f4⟩ ?_
    generalize w1.alloc (.cells #[.slice b1 k.length n1', .slice b2 v.length n2', .int .u64 (ndOf seed l k v r i).dg, .int .i64 (ndOf seed l k v r i).size, .int .i64 (ndOf seed l k v r i).left, .int .i64 (ndOf seed l k v r i).right] 172) = w3 at *
    clear K hK d3 d4
    (try simp only [Act.put, List.setIfInBounds_toArray, List.set_cons_zero, List.set_cons_succ])
    refine SeqY.act (by rfl) rfl (by rfl) (by rfl) (fun K hK => ?_)
    have lo := Lib.hid HO.out.lt
    have O3 := Lib.hid ((HO.out.kept K1.out fun x h _ => ⟨fun (h2 : B ≤ x) => by omega, fun h2 => by have := (lo.out x h2).1; omega⟩).kept K3.out fun _ h => h.elim)
    have hs1 := K1.out.size
    have hs3 := K3.out.size
    have hB := HB.out
    have Q3 := K3.out.obj (fun h => h) Q1.out
    refine wp_app_one (E := nodeEl) (.tmp 18) (.tmp 22) _ rfl tNodes (D' := fun x => w.heap.size ≤ x) _ out rfl O3.out w1.heap.size _ (ndOf seed l k v r i) rfl ⟨_, _, G3⟩ ⟨_, _, rfl, O1.out.kept byteEl_k K3.out (fun _ _ _ h => h), O2.out.kept byteEl_k K3.out fun _ _ _ h => h⟩ (fun x hx _ => ⟨by have : w.heap.size ≤ x := hx; omega, fun he => by have := (lo.out x he).2; have : w.heap.size ≤ x := hx; omega⟩) (by have := BY.out; simp only [Tr.size] at this ⊢; omega) (by decide) (by omega) ?_
    rintro v4 w4 o4 k4 hb4
    have K4 := Lib.hid (show Kept (fun b => b = q ∨ B ≤ b) w w4 from ((K1.out.mono fun _ h => .inl h).trans K3.out fun _ h => h.elim).trans k4 fun x hx => .inl (.inr (lo.out x hx).1))
    have Q4 := Lib.hid (k4.obj (p := q) (fun hx => by have := (lo.out q hx).1; omega) Q3)
    have g3 := k4.cell (p := ⟨b, 3, none⟩) (fun hx => by have := (lo.out b hx).1; omega) f3
    have g4 := k4.cell (p := ⟨b, 4, none⟩) (fun hx => by have := (lo.out b hx).1; omega) f4
    refine hK.out _ _ ⟨g3, g4⟩ ?_
    have O4 := Lib.hid o4
    obtain ⟨a4, n4, c4', rfl⟩ := o4.slice'
    clear K hK o4 k4 f3 f4 hb4 G3 hs1 hs3 Q3
    (try simp only [Act.put, List.setIfInBounds_toArray, List.set_cons_zero, List.set_cons_succ])
    (refine SeqY.val (v := ?_) (by rfl) (by rfl) (fun wx hSw => ?_) ?_; rotate_left; (focus ((try dsimp only at hSw); go_simp; (try with_reducible rfl))); (try simp only [Act.put, List.setIfInBounds_toArray, List.set_cons_zero, List.set_cons_succ]))
    refine SeqY.act (by rfl) rfl (by rfl) (by rfl) (fun K hK => ?_)
    go_simp
    have hs4 := K4.out.size
    refine (IL.out pl Sl w4 _ (out ++ [ndOf seed l k v r i]) i (i + 1) (L.out.kept K4.out (fun x h _ (h2 : x = q ∨ B ≤ x) => by have := hD x h; omega) fun x hx (h2 : x = q ∨ B ≤ x) => by have := HS.out x (by simp [hx]); omega) (fun x hx => HS.out x (by simp [hx])) (by omega) Q4.out rfl (by have := H0.out; omega) (by have := SZ.out; simp only [Tr.size] at this; omega) O4.out (by have := BY.out; simp only [Tr.size, List.length_append, List.length_cons, List.length_nil] at this ⊢; omega)).mono ?_
    rintro e w5 ⟨v5, rfl, o5, q5, k5⟩
    have Q5 := Lib.hid q5
    have h3 := k5.cell (p := ⟨b, 3, none⟩) (fun (h2 : b = q ∨ B ≤ b) => by omega) g3
    have h4 := k5.cell (p := ⟨b, 4, none⟩) (fun (h2 : b = q ∨ B ≤ b) => by omega) g4
    refine hK.out _ _ ⟨h3, h4⟩ ?_
    have O5 := Lib.hid o5
    have K5 := Lib.hid (K4.out.tr k5)
    obtain ⟨a5, n5, c5', rfl⟩ := o5.slice'
    clear K hK o5 k5 g3 g4 q5
    (try simp only [Act.put, List.setIfInBounds_toArray, List.set_cons_zero, List.set_cons_succ])
    (refine SeqY.val (v := ?_) (by rfl) (by rfl) (fun wx hSw => ?_) ?_; rotate_left; (focus ((try dsimp only at hSw); go_simp; (try with_reducible rfl))); (try simp only [Act.put, List.setIfInBounds_toArray, List.set_cons_zero, List.set_cons_succ]))
    refine SeqY.act (by rfl) rfl (by rfl) (by rfl) (fun K hK => ?_)
    go_simp
    have hs5 := K5.out.size
    refine (IR.out pr Sr w5 _ (out ++ [ndOf seed l k v r i] ++ l.nodes seed (i + 1)) (i + l.size) (i + 1 + l.size) (R.out.kept K5.out (fun x h _ (h2 : x = q ∨ B ≤ x) => by have := hD x h; omega) fun x hx (h2 : x = q ∨ B ≤ x) => by have := HS.out x (by simp [hx]); omega) (fun x hx => HS.out x (by simp [hx])) (by omega) Q5.out (by omega) (by have := H0.out; omega) (by have := SZ.out; simp only [Tr.size] at this; omega) O5.out (by have := BY.out; simp only [Tr.size, List.length_append, List.length_cons, List.length_nil, Tr.nodes_len] at this ⊢; omega)).mono ?_
    rintro e w6 ⟨v6, rfl, o6, q6, k6⟩
    have Q6 := Lib.hid q6
    refine hK.out _ _ ⟨k6.cell (p := ⟨b, 3, none⟩) (fun (h2 : b = q ∨ B ≤ b) => by omega) h3, k6.cell (p := ⟨b, 4, none⟩) (fun (h2 : b = q ∨ B ≤ b) => by omega) h4⟩ ?_
    have O6 := Lib.hid o6
    have K6 := Lib.hid (K5.out.tr k6)
    obtain ⟨a6, n6, c6', rfl⟩ := o6.slice'
    clear K hK o6 k6 h3 h4 q6
    (try simp only [Act.put, List.setIfInBounds_toArray, List.set_cons_zero, List.set_cons_succ])
    (refine SeqY.val (v := ?_) (by rfl) (by rfl) (fun wx hSw => ?_) ?_; rotate_left; (focus ((try dsimp only at hSw); go_simp; (try with_reducible rfl))); (try simp only [Act.put, List.setIfInBounds_toArray, List.set_cons_zero, List.set_cons_succ]))
    refine SeqY.nil ?_
    go_wp2
    go_ret
    refine ⟨_, rfl, ?_, ?_, K6.out⟩
    · have := O6.out
      rwa [List.append_assoc, List.append_assoc, List.singleton_append] at this
    · have := Q6.out
      have hi := HI.out
      rw [this, show i + (l.size : Int) + r.size = j + ((Tr.nd l k v r).size : Nat) by simp only [Tr.size]; omega]
end Go.Proofs.Ytaopjdjbpamhhaa
/- Proved: contract of the map's function Nodes. Conditions: a map in memory. -/
namespace Go.Proofs.Ytaopjdjbpamhhaa
open Go Go.RowKit
set_option linter.unusedVariables false
set_option linter.unusedSimpArgs false

set_option maxRecDepth 100000 in
set_option maxHeartbeats 2000000 in
theorem orNodes_calls {seed : Int} {w : World} {m : Nat} {t : Tr} {F : Nat → Prop} (h : MapAt seed w m t F) (hs : t.size ≤ 1000000) :
    Calls Try.prog 116 #[.pointer (some ⟨m, 0, none⟩)] w fun e w' => ∃ v', e = .returned v' ∧ Own 172 nodeEl (fun b => w.heap.size ≤ b) w.heap.size w' v' (t.nodes seed 0) ∧ Kept Noneof w w' := by
  have H := Lib.hid h
  obtain ⟨p, S, D, hm, hlt⟩ := h.open
  have HL := Lib.hid hlt
  have c2 := hm.c2
  have HM := Lib.hid hm
  have SZ := Lib.hid hs
  clear h hm hlt hs
  go_enter Try.func116, Try.ntmps116
  go_wp2_with fail
  refine (orreal_calls H.out).mono ?_
  rintro e w' ⟨rfl, rfl⟩
  have c2A : ∀ o, (w'.alloc o).cell? ⟨m, 2, none⟩ = some (ptr p) := fun o => ((Kept.refl Noneof w').alloc o).cell (p := ⟨m, 2, none⟩) (fun h => h) c2
  go_wp2_with fail
  have G1 := heap_alloc_new w' (.cells #[.int .i64 (-1)] 3)
  have K1 := (Kept.refl Noneof w').alloc (.cells #[.int .i64 (-1)] 3)
  have hsz : (w'.alloc (.cells #[.int .i64 (-1)] 3)).heap.size = w'.heap.size + 1 := by simp
  generalize w'.alloc (.cells #[.int .i64 (-1)] 3) = w1 at *
  have T1 := HM.out.kept0 K1
  refine (orgather_nodes (seed := seed) (D := fun b => D b ∧ b < w'.heap.size) (B := w'.heap.size + 1) (q := w'.heap.size) (fun b h => by omega) (by omega) t p S w1 _ [] (-1) 0 T1.ht (fun b hb => by have := HM.out.ht.lt b hb; omega) (by omega) G1 rfl (by omega) (by have := SZ.out; omega) (Own.nil _ _ _ _ _) (by have := SZ.out; simp only [List.length_nil]; omega)).mono ?_
  rintro e w2 ⟨v2, rfl, o2, _, k2⟩
  have K2 := Lib.hid (K1.trans (T := fun b => b = w'.heap.size ∨ w'.heap.size + 1 ≤ b) k2 fun b hb => .inr (by omega))
  have O2 := Lib.hid o2
  obtain ⟨a2, n2, c2', rfl⟩ := o2.slice'
  clear o2 k2
  go_wp2
  go_ret
  exact ⟨_, rfl, (O2.out.wide fun b hb => by omega).base (by omega), K2.out⟩
end Go.Proofs.Ytaopjdjbpamhhaa
/- Proved: contracts of the map's function All and of the iterator that it returns. Conditions: a map in memory. -/
namespace Go.Proofs.Ytaopjdjbpamhhaa
open Go Go.RowKit Go.Shelf
set_option linter.unusedVariables false
set_option linter.unusedSimpArgs false
attribute [local go_sem] Oper.semAt_some

set_option maxHeartbeats 1000000 in
theorem orAll_calls {w : World} {m : Nat} :
    Calls Try.prog 161 #[.pointer (some ⟨m, 0, none⟩)] w fun e w' => e = .returned (.func (.func 186) #[] #[.pointer (some ⟨w.heap.size, 0, none⟩)]) ∧ w'.cell? ⟨w.heap.size, 0, none⟩ = some (.pointer (some ⟨m, 0, none⟩)) ∧ Kept Noneof w w' ∧ w.heap.size < w'.heap.size := by
  go_enter Try.func161, Try.ntmps161
  go_wp2
  go_ret
  exact ⟨rfl, by simp, (Kept.refl _ _).alloc _, by simp⟩

/-- What a round of All is handed: a key and a value, and what they read as. -/
abbrev AllE : Type := Value × Value × Bts × Bts
def allRx (B N : Nat) (x : AllE) (W : World) : Prop := BV (fun b => B + 2 ≤ b ∧ b < N) W x.1 x.2.2.1 ∧ BV (fun b => B + 2 ≤ b ∧ b < N) W x.2.1 x.2.2.2

set_option maxRecDepth 100000 in
set_option maxHeartbeats 2000000 in
theorem orAll_1_iter {seed : Int} {W : World} {m : Nat} {t : Tr} {F : Nat → Prop} {B bb n : Nat} (h : MapAt seed W m t F) (hs : t.size ≤ 1000000) (hb : W.cell? ⟨bb, 0, none⟩ = some (.pointer (some ⟨m, 0, none⟩))) (hsz : W.heap.size = B + 2) (hbb : bb < B) :
    IterRel n Try.prog 186 #[.pointer (some ⟨bb, 0, none⟩)] (fun x : AllE => #[x.1, x.2.1]) B (allRx B) (fun xs => xs.map (fun x => x.2.2) = t.pairs) (fun pre => pre.map (fun x => x.2.2) <+: t.pairs) t.pairs.length W := by
  intro J Jx hY hJ hJx h0
  have H := Lib.hid h
  obtain ⟨p, S, D, hm, hlt⟩ := h.open
  have HL := Lib.hid hlt
  have c2 := hm.c2
  have HM := Lib.hid hm
  have SZ := Lib.hid hs
  have HY := Lib.hid hY
  have HJ := Lib.hid hJ
  have HX := Lib.hid hJx
  have H0 := Lib.hid h0
  have HW := Lib.hid hsz
  have HBB := Lib.hid hbb
  clear h hm hlt hs hY hJ hJx h0 hsz hbb
  refine callsIn_of_wp Try.func186 rfl trivial ?_ rfl
  simp only [Try.ntmps186, List.size_toArray, List.length_cons, List.length_nil, Nat.reduceAdd, Nat.reduceSub, Array.replicate_succ, Array.replicate_zero, List.push_toArray, List.append_toArray, List.nil_append, List.cons_append]
  gi_wp2
  refine ⟨trivial, fun hd => (by simp [Fence.wide] at hd), callsIn_wide.2 ((orreal_calls H.out).mono ?_)⟩
  rintro e w1 ⟨rfl, rfl⟩
  gi_wp2
  refine ⟨trivial, fun hd => (by simp [Fence.wide] at hd), callsIn_wide.2 ((orordered_calls (B := B + 2) (fun b hb => by have := HL.out b hb; have := HW.out; omega) t p S w1 _ [] HM.out.ht (fun b hb => by have := HM.out.ht.lt b hb; have := HW.out; omega) (by have := HW.out; omega) (Own.nil _ _ _ _ _) (by have := SZ.out; simp only [List.length_nil]; omega)).mono ?_)⟩
  rintro e w2 ⟨v2, rfl, o2, k2⟩
  have hn2 : B + 2 ≤ w2.heap.size := by have := k2.size; have := HW.out; omega
  have SV2 := Lib.hid (show SV pairEl (fun b => B + 2 ≤ b ∧ b < w2.heap.size) w2 v2 t.pairs from (o2.sv.bd pairEl_k).wide pairEl_k fun b h _ => by omega)
  have K2 : Kept Noneof w1 w2 := ⟨k2.os, k2.tape, k2.output, k2.size, fun k hk _ => k2.block k hk (by have := HW.out; omega)⟩
  have J2 := H0.out w2 K2
  have hlen := Tr.pairs_len t
  obtain ⟨a, c, rfl, hac, hmx, hrd⟩ := SV2.out
  have RD := Lib.hid hrd
  have HN := Lib.hid hn2
  clear o2 k2 K2 hn2 hrd hlen
  generalize hNN : w2.heap.size = N at *
  gi_wp2
  gi_loopw [14] (fun i wr => ∃ (k : Nat) (pre : List AllE), k ≤ t.pairs.length ∧ i = .int .i64 k ∧ Hid (pre.map (fun x => x.2.2) = t.pairs.take k) ∧ J N pre wr ∧ KpN (B + 2) N w2 wr) (fun i _ => t.pairs.length - (intOf i).toNat)
  case atStart => exact ⟨0, [], Nat.zero_le _, rfl, Lib.hid rfl, J2, Kept.refl _ _⟩
  case round =>
    obtain ⟨k, pre, hk, rfl, HP, hJs, hkn⟩ := hrel
    by_cases hl : k < t.pairs.length
    · have hrd := RD.out.kept (E := pairEl) pairEl_k hkn (fun b h1 _ h2 => by omega)
      obtain ⟨b1, o1, u, v, rfl, _, g1, g2, hk', hv'⟩ := Rd.pair hrd hl
      obtain ⟨fn, tmps, assign, body, hy, hR⟩ := HY.out N pre (u, v, t.pairs[k]) (wr.alloc (.cells #[u, v] 70)) HN.out (by have := congrArg List.length HP.out; simp only [List.length_map, List.length_take] at this; omega) (HJ.out _ _ _ _ hJs ((Kept.refl Noneof wr).alloc _)) ⟨hk'.kept byteEl_k ((Kept.refl Noneof wr).alloc _) (fun _ _ _ h => h), hv'.kept byteEl_k ((Kept.refl Noneof wr).alloc _) (fun _ _ _ h => h)⟩
      dsimp only at hy
      have HP2 := Lib.hid (show (pre ++ [(u, v, t.pairs[k])]).map (fun x => x.2.2) = t.pairs.take (k + 1) by
        rw [List.map_append, HP.out, List.take_add_one, List.getElem?_eq_getElem hl]; rfl)
      obtain ⟨a1, c1, hu1, _⟩ := id hk'
      obtain ⟨a2, c2', hv1, _⟩ := id hv'
      clear hk' hv' hrd
      subst hu1 hv1
      gi_wp2
      refine ⟨fun hd => by simp [Fence.wide] at hd, hR.mono ?_⟩
      rintro e W3 (⟨rfl, hJ3, hk3⟩ | ⟨rfl, hJx3⟩)
      · gi_wp2
        go_roundw
        case rel => exact ⟨k + 1, _, by omega, by go_num, HP2, hJ3, (hkn.alloc _).tr hk3⟩
        case measure => simp [intOf]; omega
      · gi_wp2
        refine bodyPost_ret (results_none rfl _ _ _) rfl ?_
        exact ⟨⟨_, rfl⟩, .inr ⟨N, _, HN.out, by rw [HP2.out]; exact List.take_prefix _ _, hJx3⟩⟩
    · obtain rfl : k = t.pairs.length := by omega
      gi_wp2
      go_end0
      exact ⟨⟨_, rfl⟩, .inl ⟨N, pre, HN.out, by rw [HP.out, List.take_length], hJs⟩⟩
end Go.Proofs.Ytaopjdjbpamhhaa
/- Proved: plain facts on treaps: the order of keys, search trees that are heaps, what putting, dropping and cutting do to their pairs, and that there is one tree for each list of pairs. No program. No condition. -/
namespace Go.Proofs.Ytaopjdjbpamhhaa
open Go Go.RowKit
set_option linter.unusedVariables false
set_option linter.unusedSimpArgs false

theorem cmpB_neg : ∀ a b : Bts, cmpB b a = - cmpB a b
  | [], [] => by simp [cmpB]
  | [], y :: u => by simp [cmpB]
  | x :: t, [] => by simp [cmpB]
  | x :: t, y :: u => by
    have ih := cmpB_neg t u
    unfold cmpB
    by_cases h : x = y
    · rw [if_pos h, if_pos h.symm, ih]
    · rw [if_neg h, if_neg (fun e => h e.symm)]; omega
theorem cmpB_zero : ∀ {a b : Bts}, cmpB a b = 0 → a = b
  | [], [], _ => rfl
  | [], y :: u, h => by simp [cmpB] at h; omega
  | x :: t, [], h => by simp [cmpB] at h; omega
  | x :: t, y :: u, h => by
    unfold cmpB at h
    by_cases e : x = y
    · rw [if_pos e] at h; rw [e, cmpB_zero h]
    · rw [if_neg e] at h; exact absurd (UInt8.toNat_inj.1 (by omega)) e
theorem cmpB_self (a : Bts) : cmpB a a = 0 := by have := cmpB_neg a a; omega
theorem cmpB_iff {a b : Bts} : cmpB a b = 0 ↔ a = b := ⟨cmpB_zero, fun h => by rw [h, cmpB_self]⟩
theorem cmpB_trans : ∀ {a b c : Bts}, cmpB a b < 0 → cmpB b c < 0 → cmpB a c < 0
  | [], [], c, h, _ => by simp [cmpB] at h
  | x :: t, [], c, h, _ => by simp [cmpB] at h; omega
  | [], y :: u, [], _, k => by simp [cmpB] at k; omega
  | [], y :: u, z :: s, _, _ => by simp only [cmpB, List.length_cons]; omega
  | x :: t, y :: u, [], _, k => by simp [cmpB] at k; omega
  | x :: t, y :: u, z :: s, h, k => by
    unfold cmpB at h k ⊢
    by_cases e : x = y
    · subst e
      rw [if_pos rfl] at h
      by_cases f : x = z
      · rw [if_pos f] at k ⊢; exact cmpB_trans h k
      · rw [if_neg f] at k ⊢; exact k
    · rw [if_neg e] at h
      by_cases f : y = z
      · subst f; rw [if_neg e]; exact h
      · rw [if_neg f] at k; rw [if_neg (fun g => by subst g; omega)]; omega

section
variable {seed : Int}
theorem aboveK_iff {a b : Bts} : aboveK seed a b = true ↔ coin seed 3 b < coin seed 3 a ∨ coin seed 3 a = coin seed 3 b ∧ cmpB a b < 0 := by
  unfold aboveK
  by_cases h : coin seed 3 a = coin seed 3 b
  · rw [if_pos h, decide_eq_true_iff, h]; simp
  · rw [if_neg h, decide_eq_true_iff]; simp [h]
theorem aboveK_asymm {a b : Bts} (h : aboveK seed a b = true) : ¬ aboveK seed b a = true := by
  rw [aboveK_iff] at *
  have := cmpB_neg a b
  omega
theorem aboveK_self (a : Bts) : ¬ aboveK seed a a = true := fun h => aboveK_asymm h h
theorem aboveK_trans {a b c : Bts} (h : aboveK seed a b = true) (k : aboveK seed b c = true) : aboveK seed a c = true := by
  rw [aboveK_iff] at *
  rcases h with h | ⟨h, h'⟩ <;> rcases k with k | ⟨k, k'⟩
  · left; omega
  · left; omega
  · left; omega
  · exact .inr ⟨by omega, cmpB_trans h' k'⟩
theorem aboveK_total {a b : Bts} (h : ¬ cmpB a b = 0) : aboveK seed a b = true ∨ aboveK seed b a = true := by
  rw [aboveK_iff, aboveK_iff]
  have := cmpB_neg a b
  omega
end

/-- Pairs in the order of keys. -/
def Srt (l : List (Bts × Bts)) : Prop := l.Pairwise fun p q => cmpB p.1 q.1 < 0
def ins : List (Bts × Bts) → Bts → Bts → List (Bts × Bts)
  | [], k, v => [(k, v)]
  | p :: l, k, v => if cmpB p.1 k < 0 then p :: ins l k v else if cmpB p.1 k = 0 then (k, v) :: l else (k, v) :: p :: l
def del : List (Bts × Bts) → Bts → List (Bts × Bts)
  | [], _ => []
  | p :: l, k => if cmpB p.1 k < 0 then p :: del l k else if cmpB p.1 k = 0 then l else p :: l
def getK : List (Bts × Bts) → Bts → Option Bts
  | [], _ => none
  | p :: l, k => if cmpB p.1 k < 0 then getK l k else if cmpB p.1 k = 0 then some p.2 else none
theorem rank_cons (p : Bts × Bts) (l : List (Bts × Bts)) (k : Bts) : rank (p :: l) k = if cmpB p.1 k < 0 then rank l k + 1 else 0 := by
  unfold rank
  rw [List.takeWhile_cons]
  by_cases h : cmpB p.1 k < 0
  · simp [h]
  · simp [h]
theorem hasK_cons (p : Bts × Bts) (l : List (Bts × Bts)) (k : Bts) : hasK (p :: l) k = if cmpB p.1 k < 0 then hasK l k else cmpB p.1 k == 0 := by
  unfold hasK
  rw [rank_cons]
  by_cases h : cmpB p.1 k < 0
  · simp [h]
  · simp [h]
theorem putK_ins : ∀ (l : List (Bts × Bts)) (k v : Bts), putK l k v = ins l k v
  | [], k, v => by simp [putK, ins, rank]
  | p :: l, k, v => by
    have ih := putK_ins l k v
    unfold putK at ih ⊢
    rw [rank_cons, hasK_cons, ins]
    by_cases h : cmpB p.1 k < 0
    · rw [if_pos h, if_pos h, if_pos h, ← ih]
      split <;> simp
    · by_cases e : cmpB p.1 k = 0 <;> simp [h, e]
theorem dropK_del : ∀ (l : List (Bts × Bts)) (k : Bts), dropK l k = del l k
  | [], k => by simp [dropK, del, hasK, rank]
  | p :: l, k => by
    have ih := dropK_del l k
    unfold dropK at ih ⊢
    rw [rank_cons, hasK_cons, del]
    by_cases h : cmpB p.1 k < 0
    · rw [if_pos h, if_pos h, if_pos h, ← ih]
      split <;> simp
    · by_cases e : cmpB p.1 k = 0 <;> simp [h, e]
theorem hasK_getK : ∀ (l : List (Bts × Bts)) (k : Bts), hasK l k = (getK l k).isSome
  | [], k => by simp [hasK, getK]
  | p :: l, k => by
    rw [hasK_cons, getK, hasK_getK l k]
    by_cases h : cmpB p.1 k < 0
    · simp [h]
    · by_cases e : cmpB p.1 k = 0 <;> simp [h, e]
theorem rank_getK : ∀ {l : List (Bts × Bts)} {k v : Bts}, getK l k = some v → ∃ x, l[rank l k]? = some (x, v)
  | [], k, v, h => by simp [getK] at h
  | p :: l, k, v, h => by
    rw [getK] at h
    rw [rank_cons]
    by_cases c : cmpB p.1 k < 0
    · rw [if_pos c] at h
      obtain ⟨x, hx⟩ := rank_getK h
      exact ⟨x, by rw [if_pos c]; simpa using hx⟩
    · rw [if_neg c] at h
      rw [if_neg c]
      split at h
      · exact ⟨p.1, by simp [← Option.some.inj h]⟩
      · cases h

theorem mem_ins : ∀ {l : List (Bts × Bts)} {k v : Bts} {p : Bts × Bts}, p ∈ ins l k v → p = (k, v) ∨ p ∈ l
  | [], k, v, p, h => by simp [ins] at h; exact .inl h
  | q :: l, k, v, p, h => by
    rw [ins] at h
    split at h
    · rcases List.mem_cons.1 h with rfl | h
      · exact .inr (by simp)
      · exact (mem_ins h).imp id fun h => by simp [h]
    · split at h
      · rcases List.mem_cons.1 h with rfl | h
        · exact .inl rfl
        · exact .inr (by simp [h])
      · rcases List.mem_cons.1 h with rfl | h
        · exact .inl rfl
        · exact .inr h
theorem ins_lt : ∀ {a : List (Bts × Bts)} {k : Bts} (_ : ∀ p ∈ a, cmpB p.1 k < 0) (b : List (Bts × Bts)) (v : Bts), ins (a ++ b) k v = a ++ ins b k v
  | [], _, _, _, _ => rfl
  | p :: a, k, h, b, v => by rw [List.cons_append, ins, if_pos (h p (by simp)), ins_lt (fun q hq => h q (by simp [hq])), List.cons_append]
theorem not_lt_of {a b : Bts} (h : cmpB a b < 0) : ¬ cmpB b a < 0 ∧ ¬ cmpB b a = 0 := by have := cmpB_neg a b; omega
theorem ins_gt0 {b : List (Bts × Bts)} {k : Bts} (h : ∀ p ∈ b, cmpB k p.1 < 0) (v : Bts) : ins b k v = (k, v) :: b := by
  cases b with
  | nil => rfl
  | cons p b =>
    have := not_lt_of (h p (by simp))
    rw [ins, if_neg this.1, if_neg this.2]
theorem ins_gt : ∀ {a b : List (Bts × Bts)} {k : Bts} (_ : ∀ p ∈ b, cmpB k p.1 < 0) (v : Bts), ins (a ++ b) k v = ins a k v ++ b
  | [], b, k, h, v => by rw [List.nil_append, ins_gt0 h]; rfl
  | p :: a, b, k, h, v => by
    rw [List.cons_append, ins, ins, ins_gt h v]
    split
    · rfl
    · split <;> rfl
theorem del_lt : ∀ {a : List (Bts × Bts)} {k : Bts} (_ : ∀ p ∈ a, cmpB p.1 k < 0) (b : List (Bts × Bts)), del (a ++ b) k = a ++ del b k
  | [], _, _, _ => rfl
  | p :: a, k, h, b => by rw [List.cons_append, del, if_pos (h p (by simp)), del_lt (fun q hq => h q (by simp [hq])), List.cons_append]
theorem del_gt0 {b : List (Bts × Bts)} {k : Bts} (h : ∀ p ∈ b, cmpB k p.1 < 0) : del b k = b := by
  cases b with
  | nil => rfl
  | cons p b =>
    have := not_lt_of (h p (by simp))
    rw [del, if_neg this.1, if_neg this.2]
theorem del_gt : ∀ {a b : List (Bts × Bts)} {k : Bts} (_ : ∀ p ∈ b, cmpB k p.1 < 0), del (a ++ b) k = del a k ++ b
  | [], b, k, h => by rw [List.nil_append, del_gt0 h]; rfl
  | p :: a, b, k, h => by
    rw [List.cons_append, del, del, del_gt h]
    split
    · rfl
    · split <;> rfl
theorem getK_lt : ∀ {a : List (Bts × Bts)} {k : Bts} (_ : ∀ p ∈ a, cmpB p.1 k < 0) (b : List (Bts × Bts)), getK (a ++ b) k = getK b k
  | [], _, _, _ => rfl
  | p :: a, k, h, b => by rw [List.cons_append, getK, if_pos (h p (by simp)), getK_lt (fun q hq => h q (by simp [hq]))]
theorem getK_gt0 {b : List (Bts × Bts)} {k : Bts} (h : ∀ p ∈ b, cmpB k p.1 < 0) : getK b k = none := by
  cases b with
  | nil => rfl
  | cons p b =>
    have := not_lt_of (h p (by simp))
    rw [getK, if_neg this.1, if_neg this.2]
theorem getK_gt : ∀ {a b : List (Bts × Bts)} {k : Bts} (_ : ∀ p ∈ b, cmpB k p.1 < 0), getK (a ++ b) k = getK a k
  | [], b, k, h => by rw [List.nil_append, getK_gt0 h]; rfl
  | p :: a, b, k, h => by rw [List.cons_append, getK, getK, getK_gt h]
theorem srt_ins : ∀ {l : List (Bts × Bts)} {k v : Bts}, Srt l → Srt (ins l k v)
  | [], k, v, _ => by simp [ins, Srt]
  | p :: l, k, v, h => by
    have h' := List.pairwise_cons.1 h
    rw [ins]
    split
    · next c =>
      refine List.pairwise_cons.2 ⟨fun q hq => ?_, srt_ins h'.2⟩
      rcases mem_ins hq with rfl | hq
      · exact c
      · exact h'.1 q hq
    · next c =>
      split
      · next e =>
        have e := cmpB_zero e
        subst e
        exact List.pairwise_cons.2 ⟨h'.1, h'.2⟩
      · next e =>
        have c' : cmpB k p.1 < 0 := by have := cmpB_neg p.1 k; omega
        refine List.pairwise_cons.2 ⟨fun q hq => ?_, h⟩
        rcases List.mem_cons.1 hq with rfl | hq
        · exact c'
        · exact cmpB_trans c' (h'.1 q hq)
theorem del_sub : ∀ (l : List (Bts × Bts)) (k : Bts), (del l k).Sublist l
  | [], _ => List.Sublist.refl _
  | p :: l, k => by
    rw [del]
    split
    · exact (del_sub l k).cons_cons p
    · split
      · exact List.sublist_cons_self p l
      · exact List.Sublist.refl _
theorem srt_del {l : List (Bts × Bts)} {k : Bts} (h : Srt l) : Srt (del l k) := List.Pairwise.sublist (del_sub l k) h

/-- A search tree that is a heap. -/
def Tr.good (seed : Int) : Tr → Prop
  | nil => True
  | nd l k _ r => l.good seed ∧ r.good seed ∧ (∀ p ∈ l.pairs, cmpB p.1 k < 0 ∧ aboveK seed k p.1 = true) ∧ ∀ p ∈ r.pairs, cmpB k p.1 < 0 ∧ aboveK seed k p.1 = true
section
variable {seed : Int}
theorem Tr.good_srt : ∀ {t : Tr}, t.good seed → Srt t.pairs
  | nil, _ => List.Pairwise.nil
  | nd l k v r, ⟨hl, hr, pl, pr⟩ => by
    refine List.pairwise_append.2 ⟨good_srt hl, List.pairwise_cons.2 ⟨fun p hp => (pr p hp).1, good_srt hr⟩, fun a ha b hb => ?_⟩
    rcases List.mem_cons.1 hb with rfl | hb
    · exact (pl a ha).1
    · exact cmpB_trans (pl a ha).1 (pr b hb).1
theorem Tr.split_good {key : Bts} : ∀ {t : Tr}, t.good seed → (t.split key).1.good seed ∧ (t.split key).2.good seed ∧ (∀ p ∈ (t.split key).1.pairs, cmpB p.1 key < 0) ∧ ∀ p ∈ (t.split key).2.pairs, ¬ cmpB p.1 key < 0
  | nil, _ => by simp [Tr.split, Tr.good, Tr.pairs]
  | nd l k v r, ⟨hl, hr, pl, pr⟩ => by
    obtain ⟨l1, l2, l3, l4⟩ := split_good (key := key) hl
    obtain ⟨r1, r2, r3, r4⟩ := split_good (key := key) hr
    have el := Tr.split_pairs key l
    have er := Tr.split_pairs key r
    rw [Tr.split]
    split
    · next c =>
      refine ⟨⟨hl, r1, pl, fun p hp => pr p (by rw [← er]; simp [hp])⟩, r2, fun p hp => ?_, r4⟩
      simp only [Tr.pairs, List.mem_append, List.mem_cons] at hp
      rcases hp with hp | rfl | hp
      · exact cmpB_trans (pl p hp).1 c
      · exact c
      · exact r3 p hp
    · next c =>
      refine ⟨l1, ⟨l2, hr, fun p hp => pl p (by rw [← el]; simp [hp]), pr⟩, l3, fun p hp => ?_⟩
      simp only [Tr.pairs, List.mem_append, List.mem_cons] at hp
      rcases hp with hp | rfl | hp
      · exact l4 p hp
      · exact c
      · exact fun h => c (cmpB_trans (pr p hp).1 h)
theorem Tr.put_good {key val : Bts} : ∀ {t : Tr}, t.good seed → (t.put seed key val).good seed ∧ (t.put seed key val).pairs = ins t.pairs key val
  | nil, _ => by simp [Tr.put, Tr.good, Tr.pairs, ins]
  | nd l k v r, h => by
    obtain ⟨hl, hr, pl, pr⟩ := id h
    obtain ⟨gl, el⟩ := put_good (key := key) (val := val) hl
    obtain ⟨gr, er⟩ := put_good (key := key) (val := val) hr
    rw [Tr.put]
    split
    · next e =>
      have e := cmpB_zero e
      subst e
      refine ⟨⟨hl, hr, pl, pr⟩, ?_⟩
      rw [Tr.pairs, Tr.pairs, ins_lt (fun p hp => (pl p hp).1), ins, if_neg (by rw [cmpB_self]; omega), if_pos (cmpB_self _)]
    · next e =>
      split
      · next ha =>
        obtain ⟨s1, s2, s3, s4⟩ := Tr.split_good (key := key) h
        have hnew : ∀ p ∈ (Tr.nd l k v r).pairs, aboveK seed key p.1 = true := by
          intro p hp
          simp only [Tr.pairs, List.mem_append, List.mem_cons] at hp
          rcases hp with hp | rfl | hp
          · exact aboveK_trans ha (pl p hp).2
          · exact ha
          · exact aboveK_trans ha (pr p hp).2
        have es := Tr.split_pairs key (Tr.nd l k v r)
        have hgt : ∀ p ∈ ((Tr.nd l k v r).split key).2.pairs, cmpB key p.1 < 0 := by
          intro p hp
          have h1 := s4 p hp
          have h2 : ¬ cmpB p.1 key = 0 := fun e0 => by
            have h3 := hnew p (by rw [← es]; simp [hp])
            rw [cmpB_zero e0] at h3
            exact aboveK_self _ h3
          have := cmpB_neg p.1 key
          omega
        refine ⟨⟨s1, s2, fun p hp => ⟨s3 p hp, hnew p (by rw [← es]; simp [hp])⟩, fun p hp => ⟨hgt p hp, hnew p (by rw [← es]; simp [hp])⟩⟩, ?_⟩
        rw [← es, ins_lt s3, ins_gt0 hgt]
        rfl
      · next ha =>
        have hk : aboveK seed k key = true := (aboveK_total e).resolve_left ha
        split
        · next c =>
          refine ⟨⟨gl, hr, fun p hp => ?_, pr⟩, ?_⟩
          · rw [el] at hp
            rcases mem_ins hp with rfl | hp
            · exact ⟨c, hk⟩
            · exact pl p hp
          · rw [Tr.pairs, Tr.pairs, el, ins_gt]
            intro p hp
            rcases List.mem_cons.1 hp with rfl | hp
            · exact c
            · exact cmpB_trans c (pr p hp).1
        · next c =>
          have c' : cmpB k key < 0 := by have := cmpB_neg key k; omega
          refine ⟨⟨hl, gr, pl, fun p hp => ?_⟩, ?_⟩
          · rw [er] at hp
            rcases mem_ins hp with rfl | hp
            · exact ⟨c', hk⟩
            · exact pr p hp
          · rw [Tr.pairs, Tr.pairs, er, ins_lt (fun p hp => cmpB_trans (pl p hp).1 c'), ins, if_pos c']
theorem Tr.mergeN_good : ∀ (n : Nat) (a b : Tr), a.size + b.size < n → a.good seed → b.good seed → (∀ p ∈ a.pairs, ∀ q ∈ b.pairs, cmpB p.1 q.1 < 0) → (Tr.mergeN seed n a b).good seed
  | 0, _, _, h, _, _, _ => by omega
  | n + 1, nil, b, _, _, hb, _ => by rw [Tr.mergeN]; exact hb
  | n + 1, nd l k v r, nil, _, ha, _, _ => by rw [Tr.mergeN]; exact ha
  | n + 1, nd l1 k1 v1 r1, nd l2 k2 v2 r2, h, ha, hb, hab => by
    simp only [Tr.size] at h
    have hk : cmpB k1 k2 < 0 := hab (k1, v1) (by simp [Tr.pairs]) (k2, v2) (by simp [Tr.pairs])
    obtain ⟨a1, a2, a3, a4⟩ := id ha
    obtain ⟨b1, b2, b3, b4⟩ := id hb
    have s1 : r1.size + (Tr.nd l2 k2 v2 r2).size < n := by simp only [Tr.size]; omega
    have s2 : (Tr.nd l1 k1 v1 r1).size + l2.size < n := by simp only [Tr.size]; omega
    have h1 := mergeN_good n r1 (nd l2 k2 v2 r2) s1 a2 hb (fun p hp q hq => hab p (by simp [Tr.pairs, hp]) q hq)
    have h2 := mergeN_good n (nd l1 k1 v1 r1) l2 s2 ha b1 (fun p hp q hq => hab p hp q (by simp [Tr.pairs, hq]))
    rw [Tr.mergeN]
    split
    · next c =>
      refine ⟨a1, h1, a3, fun p hp => ?_⟩
      rw [Tr.mergeN_pairs seed n _ _ s1, List.mem_append] at hp
      rcases hp with hp | hp
      · exact a4 p hp
      · refine ⟨hab (k1, v1) (by simp [Tr.pairs]) p hp, ?_⟩
        simp only [Tr.pairs, List.mem_append, List.mem_cons] at hp
        rcases hp with hp | rfl | hp
        · exact aboveK_trans c (b3 p hp).2
        · exact c
        · exact aboveK_trans c (b4 p hp).2
    · next c =>
      have c' : aboveK seed k2 k1 = true := (aboveK_total (by omega : ¬ cmpB k1 k2 = 0)).resolve_left c
      refine ⟨h2, b2, fun p hp => ?_, b4⟩
      rw [Tr.mergeN_pairs seed n _ _ s2, List.mem_append] at hp
      rcases hp with hp | hp
      · refine ⟨hab p hp (k2, v2) (by simp [Tr.pairs]), ?_⟩
        simp only [Tr.pairs, List.mem_append, List.mem_cons] at hp
        rcases hp with hp | rfl | hp
        · exact aboveK_trans c' (a3 p hp).2
        · exact c'
        · exact aboveK_trans c' (a4 p hp).2
      · exact b3 p hp
theorem Tr.drop_good {key : Bts} : ∀ {t : Tr}, t.good seed → (t.drop seed key).good seed ∧ (t.drop seed key).pairs = del t.pairs key
  | nil, _ => by simp [Tr.drop, Tr.good, Tr.pairs, del]
  | nd l k v r, h => by
    obtain ⟨hl, hr, pl, pr⟩ := id h
    obtain ⟨gl, el⟩ := drop_good (key := key) hl
    obtain ⟨gr, er⟩ := drop_good (key := key) hr
    rw [Tr.drop]
    split
    · next e =>
      have e := cmpB_zero e
      subst e
      refine ⟨Tr.mergeN_good _ _ _ (by omega) hl hr (fun p hp q hq => cmpB_trans (pl p hp).1 (pr q hq).1), ?_⟩
      rw [Tr.mergeN_pairs seed _ _ _ (by omega), Tr.pairs, del_lt (fun p hp => (pl p hp).1), del, if_neg (by rw [cmpB_self]; omega), if_pos (cmpB_self _)]
    · next e =>
      split
      · next c =>
        refine ⟨⟨gl, hr, fun p hp => pl p ?_, pr⟩, ?_⟩
        · rw [el] at hp; exact (del_sub _ _).subset hp
        · rw [Tr.pairs, Tr.pairs, el, del_gt]
          intro p hp
          rcases List.mem_cons.1 hp with rfl | hp
          · exact c
          · exact cmpB_trans c (pr p hp).1
      · next c =>
        have c' : cmpB k key < 0 := by have := cmpB_neg key k; omega
        refine ⟨⟨hl, gr, pl, fun p hp => pr p ?_⟩, ?_⟩
        · rw [er] at hp; exact (del_sub _ _).subset hp
        · rw [Tr.pairs, Tr.pairs, er, del_lt (fun p hp => cmpB_trans (pl p hp).1 c'), del, if_pos c']
theorem Tr.get_pairs {key : Bts} : ∀ {t : Tr}, t.good seed → t.get key = getK t.pairs key
  | nil, _ => rfl
  | nd l k v r, ⟨hl, hr, pl, pr⟩ => by
    rw [Tr.get, Tr.pairs]
    split
    · next e =>
      have e := cmpB_zero e
      subst e
      rw [getK_lt (fun p hp => (pl p hp).1), getK, if_neg (by rw [cmpB_self]; omega), if_pos (cmpB_self _)]
    · next e =>
      split
      · next c =>
        rw [get_pairs hl, getK_gt]
        intro p hp
        rcases List.mem_cons.1 hp with rfl | hp
        · exact c
        · exact cmpB_trans c (pr p hp).1
      · next c =>
        have c' : cmpB k key < 0 := by have := cmpB_neg key k; omega
        rw [get_pairs hr, getK_lt (fun p hp => cmpB_trans (pl p hp).1 c'), getK, if_pos c']

theorem cons_once {α : Type} {x : α} : ∀ {a b c d : List α}, a ++ x :: b = c ++ x :: d → x ∉ a → x ∉ c → a = c ∧ b = d
  | [], b, [], d, h, _, _ => ⟨rfl, by simpa using h⟩
  | [], b, y :: c, d, h, _, h2 => by
    simp only [List.nil_append, List.cons_append, List.cons.injEq] at h
    exact absurd h.1 fun e => h2 (by simp [e])
  | y :: a, b, [], d, h, h1, _ => by
    simp only [List.nil_append, List.cons_append, List.cons.injEq] at h
    exact absurd h.1 fun e => h1 (by simp [e])
  | y :: a, b, z :: c, d, h, h1, h2 => by
    simp only [List.cons_append, List.cons.injEq] at h
    obtain ⟨rfl, h⟩ := h
    obtain ⟨rfl, rfl⟩ := cons_once h (fun e => h1 (by simp [e])) fun e => h2 (by simp [e])
    exact ⟨rfl, rfl⟩
/-- One tree for each list of pairs. -/
theorem Tr.canon : ∀ {t u : Tr}, t.good seed → u.good seed → t.pairs = u.pairs → t = u
  | nil, nil, _, _, _ => rfl
  | nil, nd _ _ _ _, _, _, h => by simp [Tr.pairs] at h
  | nd _ _ _ _, nil, _, _, h => by simp [Tr.pairs] at h
  | nd l k v r, nd l' k' v' r', hg, hg', h => by
    obtain ⟨hl, hr, pl, pr⟩ := id hg
    obtain ⟨hl', hr', pl', pr'⟩ := id hg'
    have hx : (k, v) = (k', v') := by
      have h1 : (k, v) ∈ (Tr.nd l' k' v' r').pairs := by rw [← h]; simp [Tr.pairs]
      have h2 : (k', v') ∈ (Tr.nd l k v r).pairs := by rw [h]; simp [Tr.pairs]
      simp only [Tr.pairs, List.mem_append, List.mem_cons] at h1 h2
      rcases h1 with h1 | h1 | h1
      · have a1 := (pl' _ h1).2
        rcases h2 with h2 | h2 | h2
        · exact absurd (pl _ h2).2 (aboveK_asymm a1)
        · exact h2.symm
        · exact absurd (pr _ h2).2 (aboveK_asymm a1)
      · exact h1
      · have a1 := (pr' _ h1).2
        rcases h2 with h2 | h2 | h2
        · exact absurd (pl _ h2).2 (aboveK_asymm a1)
        · exact h2.symm
        · exact absurd (pr _ h2).2 (aboveK_asymm a1)
    obtain ⟨rfl, rfl⟩ := Prod.mk.inj hx
    rw [Tr.pairs, Tr.pairs] at h
    obtain ⟨e1, e2⟩ := cons_once h (fun hm => by have := (pl _ hm).1; rw [cmpB_self] at this; omega) fun hm => by have := (pl' _ hm).1; rw [cmpB_self] at this; omega
    rw [canon hl hl' e1, canon hr hr' e2]
theorem Tr.of_srt : ∀ {l : List (Bts × Bts)}, Srt l → ∃ t : Tr, t.good seed ∧ t.pairs = l
  | [], _ => ⟨.nil, trivial, rfl⟩
  | p :: l, h => by
    have h' := List.pairwise_cons.1 h
    obtain ⟨t, hg, ht⟩ := of_srt h'.2
    have := Tr.put_good (key := p.1) (val := p.2) hg
    exact ⟨_, this.1, by rw [this.2, ht, ins_gt0 h'.1]⟩

/-- Whether a pair's key lies in a span. -/
def inS (low : Bts) (fr : Bool) (high : Bts) (tt : Bool) (p : Bts × Bts) : Bool := (!fr || !decide (cmpB p.1 low < 0)) && (!tt || decide (cmpB p.1 high < 0))
theorem Tr.cut_good : ∀ {t : Tr} (low : Bts) (fr : Bool) (high : Bts) (tt : Bool), t.good seed → (t.cut low fr high tt).good seed ∧ (t.cut low fr high tt).pairs = t.pairs.filter (inS low fr high tt)
  | nil, _, _, _, _, _ => ⟨trivial, rfl⟩
  | nd l k v r, low, fr, high, tt, h => by
    obtain ⟨hl, hr, pl, pr⟩ := id h
    obtain ⟨l1, l2⟩ := cut_good low fr high tt hl
    obtain ⟨r1, r2⟩ := cut_good low fr high tt hr
    obtain ⟨l3, l4⟩ := cut_good low fr [] false hl
    obtain ⟨r3, r4⟩ := cut_good [] false high tt hr
    rw [Tr.cut]
    split
    · next c =>
      obtain ⟨rfl, rfl⟩ := c
      refine ⟨h, (List.filter_eq_self.2 fun p _ => by simp [inS]).symm⟩
    · next c0 =>
      split
      · next c =>
        obtain ⟨rfl, c⟩ := c
        refine ⟨r1, ?_⟩
        have n1 : l.pairs.filter (inS low true high tt) = [] := List.filter_eq_nil_iff.2 fun p hp => by simp [inS, cmpB_trans (pl p hp).1 c]
        rw [r2, Tr.pairs, List.filter_append, List.filter_cons, if_neg (by simp [inS, c]), n1]
        rfl
      · next c1 =>
        split
        · next c =>
          obtain ⟨rfl, c⟩ := c
          refine ⟨l1, ?_⟩
          have n1 : r.pairs.filter (inS low fr high true) = [] := List.filter_eq_nil_iff.2 fun p hp => by
            have : ¬ cmpB p.1 high < 0 := fun e => c (cmpB_trans (pr p hp).1 e)
            simp [inS, this]
          rw [l2, Tr.pairs, List.filter_append, List.filter_cons, if_neg (by simp [inS, c]), n1, List.append_nil]
        · next c2 =>
          have i1 : ∀ p ∈ l.pairs, inS low fr high tt p = inS low fr [] false p := fun p hp => by
            cases tt with
            | false => rfl
            | true =>
              have : cmpB k high < 0 := by simpa using c2
              simp [inS, cmpB_trans (pl p hp).1 this]
          have i2 : ∀ p ∈ r.pairs, inS low fr high tt p = inS [] false high tt p := fun p hp => by
            cases fr with
            | false => rfl
            | true =>
              have : ¬ cmpB k low < 0 := by simpa using c1
              have : ¬ cmpB p.1 low < 0 := fun e => this (cmpB_trans (pr p hp).1 e)
              simp [inS, this]
          have i3 : inS low fr high tt (k, v) = true := by
            simp only [inS, Bool.and_eq_true, Bool.or_eq_true, Bool.not_eq_true', decide_eq_true_eq, decide_eq_false_iff_not]
            constructor
            · cases fr with
              | false => exact .inl rfl
              | true => exact .inr (by simpa using c1)
            · cases tt with
              | false => exact .inl rfl
              | true => exact .inr (by simpa using c2)
          refine ⟨⟨l3, r3, fun p hp => pl p ?_, fun p hp => pr p ?_⟩, ?_⟩
          · rw [l4] at hp; exact (List.mem_filter.1 hp).1
          · rw [r4] at hp; exact (List.mem_filter.1 hp).1
          · rw [Tr.pairs, Tr.pairs, l4, r4, List.filter_append, List.filter_cons, if_pos i3, List.filter_congr i1, List.filter_congr i2]
end
end Go.Proofs.Ytaopjdjbpamhhaa
/- Proved: plain facts: where the root of a treap stands among its pairs; the messages of a mirror are few. No program. No condition. -/
namespace Go.Proofs.Ytaopjdjbpamhhaa
open Go Go.RowKit
set_option linter.unusedVariables false
set_option linter.unusedSimpArgs false

section
variable {seed : Int}
theorem topTo_lo {l : List (Bts × Bts)} {c : Int} : ∀ n, (∀ i, i < n → ∀ h : i < l.length, coin seed 3 l[i].1 < c) → (topTo seed l n).1 < 0 ∨ (topTo seed l n).2 < c
  | 0, _ => by simp [topTo]
  | n + 1, h => by
    have ih := topTo_lo n fun i hi hl => h i (by omega) hl
    by_cases hn : n < l.length
    · rw [topTo_succ hn, topStep]
      split
      · exact .inr (h n (by omega) hn)
      · exact ih
    · rw [topTo, List.getElem?_eq_none (by omega)]; exact ih
theorem topTo_hi {l : List (Bts × Bts)} {m : Nat} (hm : m < l.length) (hlo : ∀ i, i < m → ∀ h : i < l.length, coin seed 3 l[i].1 < coin seed 3 l[m].1) (hhi : ∀ i, m < i → ∀ h : i < l.length, coin seed 3 l[i].1 ≤ coin seed 3 l[m].1) : ∀ n, n ≤ l.length → m < n → topTo seed l n = ((m : Int), coin seed 3 l[m].1)
  | 0, _, h => by omega
  | n + 1, hn, h => by
    rw [topTo_succ (by omega), topStep]
    by_cases e : m = n
    · subst e
      rw [if_pos (topTo_lo m hlo)]
    · rw [topTo_hi hm hlo hhi n (by omega) (by omega), if_neg]
      have := hhi n (by omega) (by omega)
      simp only
      omega
theorem Tr.top_pairs {l r : Tr} {k v : Bts} (h : (Tr.nd l k v r).good seed) : topI seed (Tr.nd l k v r).pairs = l.size := by
  obtain ⟨hl, hr, pl, pr⟩ := h
  have hlen := Tr.pairs_len l
  have hm : l.size < (Tr.nd l k v r).pairs.length := by simp [Tr.pairs]; omega
  have hat : (Tr.nd l k v r).pairs[l.size].1 = k := by simp [Tr.pairs, ← hlen]
  have := topTo_hi (seed := seed) hm (fun i hi h => by
    rw [hat]
    have hp : (Tr.nd l k v r).pairs[i] ∈ l.pairs := by
      simp only [Tr.pairs]
      rw [List.getElem_append_left (by omega)]
      exact List.getElem_mem _
    have a := aboveK_iff.1 (pl _ hp).2
    have := not_lt_of (pl _ hp).1
    omega) (fun i hi h => by
    rw [hat]
    have hp : (Tr.nd l k v r).pairs[i] ∈ r.pairs := by
      simp only [Tr.pairs]
      rw [List.getElem_append_right (by omega), List.getElem_cons, dif_neg (by omega)]
      exact List.getElem_mem _
    have a := aboveK_iff.1 (pr _ hp).2
    omega) _ (Nat.le_refl _) hm
  unfold topI
  rw [this]
end

theorem getK_mem : ∀ {l : List (Bts × Bts)} {k v : Bts}, getK l k = some v → (k, v) ∈ l
  | [], _, _, h => by simp [getK] at h
  | p :: l, k, v, h => by
    rw [getK] at h
    split at h
    · exact List.mem_cons_of_mem _ (getK_mem h)
    · split at h
      · next e =>
        have e := cmpB_zero e
        subst e
        rw [← Option.some.inj h]
        simp
      · cases h
theorem mem_getK : ∀ {l : List (Bts × Bts)} {p : Bts × Bts}, Srt l → p ∈ l → getK l p.1 = some p.2
  | q :: l, p, hs, h => by
    have hs' := List.pairwise_cons.1 hs
    rw [getK]
    rcases List.mem_cons.1 h with rfl | h
    · rw [if_neg (by rw [cmpB_self]; omega), if_pos (cmpB_self _)]
    · rw [if_pos (hs'.1 p h)]; exact mem_getK hs'.2 h
theorem srt_ext : ∀ {a b : List (Bts × Bts)}, Srt a → Srt b → (∀ p, p ∈ a ↔ p ∈ b) → a = b
  | [], [], _, _, _ => rfl
  | [], q :: b, _, _, h => absurd ((h q).2 (by simp)) (by simp)
  | p :: a, [], _, _, h => absurd ((h p).1 (by simp)) (by simp)
  | p :: a, q :: b, ha, hb, h => by
    have ha' := List.pairwise_cons.1 ha
    have hb' := List.pairwise_cons.1 hb
    have e : p = q := by
      rcases List.mem_cons.1 ((h p).1 (by simp)) with e | h1
      · exact e
      · rcases List.mem_cons.1 ((h q).2 (by simp)) with e | h2
        · exact e.symm
        · exact absurd (ha'.1 q h2) (not_lt_of (hb'.1 p h1)).1
    subst e
    rw [srt_ext ha'.2 hb'.2 fun x => ?_]
    constructor
    · intro hx
      rcases List.mem_cons.1 ((h x).1 (by simp [hx])) with e | h1
      · have := ha'.1 x hx; rw [e, cmpB_self] at this; omega
      · exact h1
    · intro hx
      rcases List.mem_cons.1 ((h x).2 (by simp [hx])) with e | h1
      · have := hb'.1 x hx; rw [e, cmpB_self] at this; omega
      · exact h1
theorem cmpB_next : ∀ (p k : Bts), cmpB p (k ++ [0]) < 0 ↔ ¬ cmpB k p < 0
  | [], [] => by simp [cmpB]
  | [], y :: u => by simp only [cmpB, List.length_cons, List.cons_append]; omega
  | x :: t, [] => by
    rw [List.nil_append, cmpB]
    have h2 : cmpB [] (x :: t) < 0 := by simp only [cmpB, List.length_cons]; omega
    have : ¬ (if x = 0 then cmpB t [] else (x.toNat : Int) - (0 : UInt8).toNat) < 0 := by
      split
      · cases t <;> simp [cmpB] <;> omega
      · have : (0 : UInt8).toNat = 0 := rfl
        omega
    exact ⟨fun h => absurd h this, fun h => absurd h2 h⟩
  | x :: t, y :: u => by
    have ih := cmpB_next t u
    rw [List.cons_append, cmpB, cmpB]
    by_cases e : x = y
    · rw [if_pos e, if_pos e.symm, ih]
    · rw [if_neg e, if_neg (fun h => e h.symm)]
      have : x.toNat ≠ y.toNat := fun h => e (UInt8.toNat_inj.1 h)
      omega
theorem cmpB_nil (p : Bts) : ¬ cmpB p [] < 0 := by cases p <;> simp only [cmpB, List.length_nil] <;> omega
theorem inS_all (p : Bts × Bts) : inS [] true [] false p = true := by simp [inS, cmpB_nil]

section
variable {seed : Int}
/-- Whether a span of the receiver is told to be the same. -/
def sameAt (seed : Int) (u t : Tr) (low high : Bts) (bd : Bool) : Bool := ((u.cut low true high bd).size == t.size) && ((u.cut low true high bd).dg seed == t.dg seed)
structure Msg where
  low : Bts
  high : Bts
  bd : Bool
  size : Nat
  dg : Int
  same : Bool
  prs : List (Bts × Bts)
/-- The messages about a span. -/
def talk (seed : Int) (u : Tr) : Tr → Bts → Bts → Bool → List Msg
  | .nil, low, high, bd => [⟨low, high, bd, 0, 0, sameAt seed u .nil low high bd, []⟩]
  | .nd l k v r, low, high, bd => if sameAt seed u (.nd l k v r) low high bd = true then [⟨low, high, bd, (Tr.nd l k v r).size, (Tr.nd l k v r).dg seed, true, []⟩] else ⟨low, high, bd, (Tr.nd l k v r).size, (Tr.nd l k v r).dg seed, false, [(k, v)]⟩ :: (talk seed u l low k true ++ talk seed u r (k ++ [0]) high bd)
def Tr.tall : Tr → Nat
  | nil => 0
  | nd l _ _ r => 1 + max l.tall r.tall
/-- How many keys of a span are different. -/
def diffS (F U : List (Bts × Bts)) (low high : Bts) (bd : Bool) : Nat :=
  F.countP (fun p => inS low true high bd p && getK U p.1 != some p.2) + U.countP (fun p => inS low true high bd p && !hasK F p.1)
theorem countP_two {α : Type} {p q s : α → Bool} (h1 : ∀ x, p x = true → q x = true → False) (h2 : ∀ x, p x = true → s x = true) (h3 : ∀ x, q x = true → s x = true) : ∀ l : List α, l.countP p + l.countP q ≤ l.countP s
  | [] => by simp
  | x :: l => by
    have ih := countP_two h1 h2 h3 l
    have a1 := h1 x
    have a2 := h2 x
    have a3 := h3 x
    rw [List.countP_cons, List.countP_cons, List.countP_cons]
    cases hp : p x <;> cases hq : q x <;> cases hs : s x <;> simp_all <;> omega
theorem span_parts {low high k : Bts} {bd : Bool} (hk : inS low true high bd (k, []) = true) (p : Bts × Bts) :
    inS low true k true p = (inS low true high bd p && decide (cmpB p.1 k < 0)) ∧ inS (k ++ [0]) true high bd p = (inS low true high bd p && decide (cmpB k p.1 < 0)) := by
  simp only [inS, Bool.not_true, Bool.false_or, Bool.and_eq_true, Bool.not_eq_true', decide_eq_false_iff_not, Bool.or_eq_true, decide_eq_true_eq] at hk
  obtain ⟨h1, h2⟩ := hk
  constructor
  · rw [Bool.eq_iff_iff]
    simp only [inS, Bool.not_true, Bool.false_or, Bool.and_eq_true, Bool.not_eq_true', decide_eq_false_iff_not, Bool.or_eq_true, decide_eq_true_eq]
    constructor
    · rintro ⟨a, b⟩
      refine ⟨⟨a, ?_⟩, b⟩
      rcases h2 with h2 | h2
      · exact .inl h2
      · exact .inr (cmpB_trans b h2)
    · rintro ⟨⟨a, _⟩, b⟩
      exact ⟨a, b⟩
  · rw [Bool.eq_iff_iff]
    simp only [inS, Bool.not_true, Bool.false_or, Bool.and_eq_true, Bool.not_eq_true', decide_eq_false_iff_not, Bool.or_eq_true, decide_eq_true_eq, cmpB_next]
    constructor
    · rintro ⟨a, b⟩
      have a := Decidable.not_not.1 a
      exact ⟨⟨fun e => h1 (cmpB_trans a e), b⟩, a⟩
    · rintro ⟨⟨_, b⟩, a⟩
      exact ⟨fun e => e a, b⟩
theorem diffS_parts {F U : List (Bts × Bts)} {low high k : Bts} {bd : Bool} (hk : inS low true high bd (k, []) = true) : diffS F U low k true + diffS F U (k ++ [0]) high bd ≤ diffS F U low high bd := by
  have h1 : ∀ f : (Bts × Bts) → Bool, ∀ l : List (Bts × Bts), l.countP (fun p => inS low true k true p && f p) + l.countP (fun p => inS (k ++ [0]) true high bd p && f p) ≤ l.countP (fun p => inS low true high bd p && f p) := by
    intro f l
    refine countP_two (fun x a b => ?_) (fun x a => ?_) (fun x a => ?_) l
    · rw [(span_parts hk x).1] at a
      rw [(span_parts hk x).2] at b
      simp only [Bool.and_eq_true, decide_eq_true_eq] at a b
      exact (not_lt_of a.1.2).1 b.1.2
    · rw [(span_parts hk x).1] at a
      simp only [Bool.and_eq_true, decide_eq_true_eq] at a ⊢
      exact ⟨a.1.1, a.2⟩
    · rw [(span_parts hk x).2] at a
      simp only [Bool.and_eq_true, decide_eq_true_eq] at a ⊢
      exact ⟨a.1.1, a.2⟩
  have a := h1 (fun p => getK U p.1 != some p.2) F
  have b := h1 (fun p => !hasK F p.1) U
  unfold diffS
  omega
theorem diffS_same {F : List (Bts × Bts)} {u t : Tr} {low high : Bts} {bd : Bool} (hF : Srt F) (hu : u.good seed) (ht : t.good seed) (h : t.pairs = F.filter (inS low true high bd)) (hd : diffS F u.pairs low high bd = 0) : sameAt seed u t low high bd = true := by
  obtain ⟨c1, c2⟩ := Tr.cut_good low true high bd hu
  have hU := Tr.good_srt hu
  unfold diffS at hd
  obtain ⟨d1, d2⟩ := Nat.add_eq_zero_iff.1 hd
  have d1 := List.countP_eq_zero.1 d1
  have d2 := List.countP_eq_zero.1 d2
  have e : u.cut low true high bd = t := by
    refine Tr.canon c1 ht ?_
    rw [c2, h]
    refine srt_ext (List.Pairwise.sublist List.filter_sublist hU) (List.Pairwise.sublist List.filter_sublist hF) fun p => ?_
    simp only [List.mem_filter]
    constructor
    · rintro ⟨hp, hi⟩
      have a : (getK F p.1).isSome = true := by
        have a := d2 p hp
        rw [hi, hasK_getK] at a
        cases h : (getK F p.1).isSome
        · rw [h] at a; simp at a
        · rfl
      obtain ⟨v, hv⟩ := Option.isSome_iff_exists.1 a
      have hm := getK_mem hv
      have b : getK u.pairs p.1 = some v := by
        have b := d1 _ hm
        have hi' : inS low true high bd (p.1, v) = true := hi
        rw [hi'] at b
        simpa using b
      rw [mem_getK hU hp] at b
      rw [← Option.some.inj b] at hm
      exact ⟨hm, hi⟩
    · rintro ⟨hp, hi⟩
      have b : getK u.pairs p.1 = some p.2 := by
        have b := d1 _ hp
        rw [hi] at b
        simpa using b
      exact ⟨getK_mem b, hi⟩
  simp [sameAt, e]
theorem Tr.parts_of {F : List (Bts × Bts)} {l r : Tr} {k v low high : Bts} {bd : Bool} (hg : (Tr.nd l k v r).good seed) (h : (Tr.nd l k v r).pairs = F.filter (inS low true high bd)) :
    inS low true high bd (k, []) = true ∧ l.pairs = F.filter (inS low true k true) ∧ r.pairs = F.filter (inS (k ++ [0]) true high bd) := by
  obtain ⟨hl, hr, pl, pr⟩ := hg
  have hk : inS low true high bd (k, v) = true := by
    have : (k, v) ∈ (Tr.nd l k v r).pairs := by simp [Tr.pairs]
    rw [h, List.mem_filter] at this
    exact this.2
  have hk' : inS low true high bd (k, []) = true := hk
  refine ⟨hk', ?_, ?_⟩
  · rw [List.filter_congr (fun x _ => (span_parts hk' x).1)]
    have : (F.filter (fun p => inS low true high bd p && decide (cmpB p.1 k < 0))) = (F.filter (inS low true high bd)).filter (fun p => decide (cmpB p.1 k < 0)) := by
      rw [List.filter_filter]; exact List.filter_congr fun x _ => Bool.and_comm _ _
    rw [this, ← h, Tr.pairs, List.filter_append, List.filter_cons, if_neg (by simp [cmpB_self]), List.filter_eq_self.2 (fun p hp => by simpa using (pl p hp).1), List.filter_eq_nil_iff.2 (fun p hp => by simpa using (not_lt_of (pr p hp).1).1), List.append_nil]
  · rw [List.filter_congr (fun x _ => (span_parts hk' x).2)]
    have : (F.filter (fun p => inS low true high bd p && decide (cmpB k p.1 < 0))) = (F.filter (inS low true high bd)).filter (fun p => decide (cmpB k p.1 < 0)) := by
      rw [List.filter_filter]; exact List.filter_congr fun x _ => Bool.and_comm _ _
    have n1 : l.pairs.filter (fun p => decide (cmpB k p.1 < 0)) = [] := List.filter_eq_nil_iff.2 fun p hp => by simpa using (not_lt_of (pl p hp).1).1
    have n2 : r.pairs.filter (fun p => decide (cmpB k p.1 < 0)) = r.pairs := List.filter_eq_self.2 fun p hp => by simpa using (pr p hp).1
    rw [this, ← h, Tr.pairs, List.filter_append, List.filter_cons, if_neg (by simp [cmpB_self]), n1, n2, List.nil_append]
theorem few_math {a b c d e m x y : Nat} (h1 : a ≤ 1 + 2 * (c * x)) (h2 : b ≤ 1 + 2 * (d * y)) (hx : x ≤ m) (hy : y ≤ m) (hd : c + d ≤ e) (he : 0 < e) : 1 + (a + b) ≤ 1 + 2 * (e * (1 + m)) := by
  have a1 : c * x ≤ c * m := Nat.mul_le_mul_left _ hx
  have a2 : d * y ≤ d * m := Nat.mul_le_mul_left _ hy
  have a3 : (c + d) * m ≤ e * m := Nat.mul_le_mul_right _ hd
  rw [Nat.add_mul] at a3
  rw [Nat.mul_add]
  omega
theorem talk_few {F : List (Bts × Bts)} {u : Tr} (hF : Srt F) (hu : u.good seed) : ∀ (t : Tr) (low high : Bts) (bd : Bool), t.good seed → t.pairs = F.filter (inS low true high bd) → (talk seed u t low high bd).length ≤ 1 + 2 * (diffS F u.pairs low high bd * t.tall)
  | .nil, low, high, bd, _, _ => by simp [talk]
  | .nd l k v r, low, high, bd, hg, h => by
    rw [talk]
    split
    · simp
    · next hs =>
      obtain ⟨hk, el, er⟩ := Tr.parts_of hg h
      have h1 := talk_few hF hu l low k true hg.1 el
      have h2 := talk_few hF hu r (k ++ [0]) high bd hg.2.1 er
      have h3 := diffS_parts (F := F) (U := u.pairs) hk
      have h4 : 0 < diffS F u.pairs low high bd := Nat.pos_of_ne_zero fun e => hs (diffS_same hF hu hg h e)
      rw [List.length_cons, List.length_append, Tr.tall, Nat.add_comm]
      exact few_math h1 h2 (Nat.le_max_left _ _) (Nat.le_max_right _ _) h3 h4
theorem talk_pos {u : Tr} (t : Tr) (low high : Bts) (bd : Bool) : 1 ≤ (talk seed u t low high bd).length := by
  cases t with
  | nil => simp [talk]
  | nd l k v r => rw [talk]; split <;> simp
end
end Go.Proofs.Ytaopjdjbpamhhaa
