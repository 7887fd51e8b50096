/- Proved: contracts of the map's functions New, real, Len, Digest, Kin, find, part, SpanDigest. Conditions: maps in memory, of at most four hundred million pairs of lengths that are allowed. -/
import Derived.Test.YtaopjdjbpamhhaaOrd5
namespace Go.Proofs.Ytaopjdjbpamhhaa
open Go Go.RowKit
set_option linter.unusedVariables false
set_option linter.unusedSimpArgs false

/-- The block of a map. -/
def mapObj (seed : Int) (p : Option Nat) : Obj := .cells #[.bool true, .int .u64 seed, ptr p] 123
/-- A map in memory, in blocks F. -/
structure MapIn (seed : Int) (w : World) (m : Nat) (t : Tr) (p : Option Nat) (S : List Nat) (D F : Nat → Prop) : Prop where
  ho : w.heap[m]? = some (mapObj seed p)
  ht : TreeAt seed D w t p S
  nd : S.Nodup
  ds : ∀ b ∈ S, ¬ D b ∧ b ≠ m
  dm : ¬ D m
  fm : F m
  fs : ∀ b ∈ S, F b
  fd : ∀ b, D b → b < w.heap.size → F b
  ok : t.ok
  sz : t.size ≤ 200000000
def MapAt (seed : Int) (w : World) (m : Nat) (t : Tr) (F : Nat → Prop) : Prop := ∃ p S D, MapIn seed w m t p S D F
theorem MapIn.c0 {seed : Int} {w : World} {m : Nat} {t : Tr} {p : Option Nat} {S : List Nat} {D F : Nat → Prop} (h : MapIn seed w m t p S D F) : w.cell? ⟨m, 0, none⟩ = some (.bool true) := by
  have := h.ho
  unfold mapObj at this
  simp [World.cell?, this]
theorem MapIn.c1 {seed : Int} {w : World} {m : Nat} {t : Tr} {p : Option Nat} {S : List Nat} {D F : Nat → Prop} (h : MapIn seed w m t p S D F) : w.cell? ⟨m, 1, none⟩ = some (.int .u64 seed) := by
  have := h.ho
  unfold mapObj at this
  simp [World.cell?, this]
theorem MapIn.c2 {seed : Int} {w : World} {m : Nat} {t : Tr} {p : Option Nat} {S : List Nat} {D F : Nat → Prop} (h : MapIn seed w m t p S D F) : w.cell? ⟨m, 2, none⟩ = some (ptr p) := by
  have := h.ho
  unfold mapObj at this
  simp [World.cell?, this]
theorem MapIn.f2 {seed : Int} {w : World} {m : Nat} {t : Tr} {p : Option Nat} {S : List Nat} {D F : Nat → Prop} (h : MapIn seed w m t p S D F) : w.frozen? ⟨m, 2, none⟩ = false := by
  have := h.ho
  unfold mapObj at this
  simp [World.frozen?, this]
theorem MapIn.at {seed : Int} {w w' : World} {m : Nat} {t : Tr} {p : Option Nat} {S : List Nat} {D F : Nat → Prop} (h : MapIn seed w m t p S D F) (e : w'.heap = w.heap) : MapIn seed w' m t p S D F :=
  ⟨by rw [e]; exact h.ho, h.ht.at e, h.nd, h.ds, h.dm, h.fm, h.fs, by rw [e]; exact h.fd, h.ok, h.sz⟩
theorem MapIn.bd {seed : Int} {w : World} {m : Nat} {t : Tr} {p : Option Nat} {S : List Nat} {D F : Nat → Prop} (h : MapIn seed w m t p S D F) : MapIn seed w m t p S (fun b => D b ∧ b < w.heap.size) F :=
  ⟨h.ho, h.ht.wide fun b hb hl => ⟨hb, hl⟩, h.nd, fun b hb => ⟨fun k => (h.ds b hb).1 k.1, (h.ds b hb).2⟩, fun k => h.dm k.1, h.fm, h.fs, fun b hb _ => h.fd b hb.1 hb.2, h.ok, h.sz⟩
theorem MapIn.kept {seed : Int} {w w' : World} {m : Nat} {t : Tr} {p : Option Nat} {S : List Nat} {D F X : Nat → Prop} (h : MapIn seed w m t p S D F) (k : Kept X w w') (hX : ∀ b, F b → ¬ X b) : MapIn seed w' m t p S (fun b => D b ∧ b < w.heap.size) F := by
  have h := h.bd
  exact ⟨k.obj (hX m h.fm) h.ho, h.ht.kept k (fun b hb hl => hX b (h.fd b hb hl)) fun b hb => hX b (h.fs b hb), h.nd, h.ds, h.dm, h.fm, h.fs, fun b hb _ => h.fd b hb hb.2, h.ok, h.sz⟩
theorem MapIn.kept0 {seed : Int} {w w' : World} {m : Nat} {t : Tr} {p : Option Nat} {S : List Nat} {D F : Nat → Prop} (h : MapIn seed w m t p S D F) (k : Kept Noneof w w') : MapIn seed w' m t p S (fun b => D b ∧ b < w.heap.size) F := h.kept k fun _ _ h => h
theorem MapAt.at {seed : Int} {w w' : World} {m : Nat} {t : Tr} {F : Nat → Prop} (h : MapAt seed w m t F) (e : w'.heap = w.heap) : MapAt seed w' m t F := by
  obtain ⟨p, S, D, h⟩ := h
  exact ⟨p, S, D, h.at e⟩
theorem MapAt.kept {seed : Int} {w w' : World} {m : Nat} {t : Tr} {F X : Nat → Prop} (h : MapAt seed w m t F) (k : Kept X w w') (hX : ∀ b, F b → ¬ X b) : MapAt seed w' m t F := by
  obtain ⟨p, S, D, h⟩ := h
  have h := h.bd
  exact ⟨p, S, _, ⟨k.obj (hX m h.fm) h.ho, h.ht.kept k (fun b hb hl => hX b (h.fd b hb hl)) fun b hb => hX b (h.fs b hb), h.nd, h.ds, h.dm, h.fm, h.fs, fun b hb _ => h.fd b hb hb.2, h.ok, h.sz⟩⟩
theorem MapAt.wide {seed : Int} {w : World} {m : Nat} {t : Tr} {F F' : Nat → Prop} (h : MapAt seed w m t F) (hF : ∀ b, F b → b < w.heap.size → F' b) : MapAt seed w m t F' := by
  obtain ⟨p, S, D, h⟩ := h
  exact ⟨p, S, D, h.ho, h.ht, h.nd, h.ds, h.dm, hF m h.fm (block_lt h.ho), fun b hb => hF b (h.fs b hb) (h.ht.lt b hb), fun b hb hl => hF b (h.fd b hb hl) hl, h.ok, h.sz⟩

theorem orreal_calls {seed : Int} {w : World} {m : Nat} {t : Tr} {F : Nat → Prop} (h : MapAt seed w m t F) :
    Calls Try.prog 121 #[.pointer (some ⟨m, 0, none⟩)] w fun e w' => e = .returned (.bool true) ∧ w' = w := by
  obtain ⟨p, S, D, h⟩ := h
  have c0 := h.c0
  clear h
  go_enter Try.func121, Try.ntmps121
  go_wp2
  go_ret
  exact ⟨rfl, rfl⟩
theorem orreal_nil {w : World} : Calls Try.prog 121 #[.pointer none] w fun e w' => e = .returned (.bool false) ∧ w' = w := by
  go_enter Try.func121, Try.ntmps121
  go_wp2
  go_ret
  exact ⟨rfl, rfl⟩
/-- A map that no function has returned. -/
theorem orreal_zero {w : World} {m : Nat} (h : w.cell? ⟨m, 0, none⟩ = some (.bool false)) : Calls Try.prog 121 #[.pointer (some ⟨m, 0, none⟩)] w fun e w' => e = .returned (.bool false) ∧ w' = w := by
  go_enter Try.func121, Try.ntmps121
  go_wp2
  go_ret
  exact ⟨rfl, rfl⟩

theorem orNew_calls {seed : Int} {w : World} :
    Calls Try.prog 72 #[.int .u64 seed] w fun e w' => e = .returned (.pointer (some ⟨w.heap.size, 0, none⟩)) ∧ MapAt seed w' w.heap.size .nil (fun b => b = w.heap.size) ∧ Kept Noneof w w' ∧ w.heap.size < w'.heap.size := by
  go_enter Try.func72, Try.ntmps72
  go_wp2
  go_ret
  refine ⟨rfl, ⟨none, [], Noneof, heap_alloc_new _ _, ⟨rfl, rfl⟩, by simp, by simp, fun h => h, rfl, by simp, fun _ h => h.elim, trivial, by simp [Tr.size]⟩, (Kept.refl _ _).alloc _, by simp⟩

theorem orLen_calls {seed : Int} {w : World} {m : Nat} {t : Tr} {F : Nat → Prop} (h : MapAt seed w m t F) :
    Calls Try.prog 57 #[.pointer (some ⟨m, 0, none⟩)] w fun e w' => e = .returned (.int .i64 t.size) ∧ w' = w := by
  have H := Lib.hid h
  obtain ⟨p, S, D, h⟩ := h
  have c2 := h.c2
  have HT := Lib.hid h.ht
  clear h
  go_enter Try.func57, Try.ntmps57
  go_wp2_with fail
  refine (orreal_calls H.out).mono ?_
  rintro e w' ⟨rfl, rfl⟩
  go_wp2_with fail
  refine (orcount_calls HT.out.child).mono ?_
  rintro e w' ⟨rfl, rfl⟩
  go_wp2
  go_ret
  exact ⟨rfl, rfl⟩
theorem orDigest_calls {seed : Int} {w : World} {m : Nat} {t : Tr} {F : Nat → Prop} (h : MapAt seed w m t F) :
    Calls Try.prog 63 #[.pointer (some ⟨m, 0, none⟩)] w fun e w' => e = .returned (.int .u64 (t.dg seed)) ∧ w' = w := by
  have H := Lib.hid h
  obtain ⟨p, S, D, h⟩ := h
  have c2 := h.c2
  have HT := Lib.hid h.ht
  clear h
  go_enter Try.func63, Try.ntmps63
  go_wp2_with fail
  refine (orreal_calls H.out).mono ?_
  rintro e w' ⟨rfl, rfl⟩
  go_wp2_with fail
  refine (orsum_calls HT.out.child).mono ?_
  rintro e w' ⟨rfl, rfl⟩
  go_wp2
  go_ret
  exact ⟨rfl, rfl⟩

/-- The value of a key. -/
def Tr.get (key : Bts) : Tr → Option Bts
  | nil => none
  | nd l k v r => if cmpB key k = 0 then some v else if cmpB key k < 0 then l.get key else r.get key
theorem Tr.get_has (key : Bts) : ∀ t : Tr, (t.get key).isSome = t.has key
  | nil => rfl
  | nd l k v r => by
    have h1 := get_has key l
    have h2 := get_has key r
    rw [Tr.get, Tr.has]
    split
    · rfl
    · split <;> assumption
theorem orside_calls {w : World} {b : Nat} {pl pr : Option Nat} {c : Int} (h3 : w.cell? ⟨b, 3, none⟩ = some (ptr pl)) (h4 : w.cell? ⟨b, 4, none⟩ = some (ptr pr)) :
    Calls Try.prog 168 #[.pointer (some ⟨b, 0, none⟩), .int .i64 c] w fun e w' => e = .returned (ptr (if c < 0 then pl else pr)) ∧ w' = w := by
  by_cases hc : c < 0
  · have HE := Lib.hid (show (if c < 0 then pl else pr) = pl from if_pos hc)
    go_enter Try.func168, Try.ntmps168
    go_wp2
    go_ret
    exact ⟨rfl, rfl⟩
  · have HE := Lib.hid (show (if c < 0 then pl else pr) = pr from if_neg hc)
    go_enter Try.func168, Try.ntmps168
    go_wp2
    go_ret
    exact ⟨rfl, rfl⟩

/-- What find tells: no node, or that of the key. -/
def Found (D : Nat → Prop) (w : World) (o : Option Bts) (q : Option Nat) : Prop := match q with
  | none => o = none
  | some b => ∃ v vv, o = some v ∧ w.cell? ⟨b, 1, none⟩ = some vv ∧ BV D w vv v
set_option maxHeartbeats 1000000 in
theorem orfind_calls {seed : Int} {w : World} {m : Nat} {t : Tr} {p : Option Nat} {S : List Nat} {D F D2 : Nat → Prop} {kx : Value} {key : Bts} (h : MapIn seed w m t p S D F) (hk : BV D2 w kx key) :
    Calls Try.prog 138 #[.pointer (some ⟨m, 0, none⟩), kx] w fun e w' => ∃ q, e = .returned (ptr q) ∧ Found D w (t.get key) q ∧ w' = w := by
  have H := Lib.hid (show MapAt seed w m t F from ⟨p, S, D, h⟩)
  have c2 := h.c2
  have HT := Lib.hid h.ht
  have HK := Lib.hid hk
  clear h hk
  go_enter Try.func138, Try.ntmps138
  go_wp2_with fail
  refine (orreal_calls H.out).mono ?_
  rintro e w' ⟨rfl, rfl⟩
  go_wp2
  go_loopg [5, 6] t.size (fun g x _ wr => ∃ (t' : Tr) (q : Option Addr) (p' : Option Nat) (S' : List Nat), x = .pointer q ∧ Hid (q = adr p') ∧ Hid (TreeAt seed D w' t' p' S') ∧ Hid (t.get key = t'.get key) ∧ t'.size ≤ g ∧ wr = w')
  case atStart => exact ⟨t, adr p, p, S, rfl, rfl, HT.out, rfl, Nat.le_refl _, rfl⟩
  case round =>
    obtain ⟨t', q, p', S', rfl, Q, T, G, hg, rfl⟩ := hrel
    rcases t' with _ | ⟨l, k, v, r⟩
    · obtain ⟨rfl, _⟩ := T.out
      have hq : q = none := Q.out
      subst hq
      go_wp2
      go_ret
      exact ⟨none, rfl, G.out, rfl⟩
    · obtain ⟨b, pl, pr, Sl, Sr, kv, vv, rfl, _, ho, hkv, hvv, hl, hr⟩ := T.out
      have hq : q = some ⟨b, 0, none⟩ := Q.out
      subst hq
      obtain ⟨c0, c1, _, c3, c4, _, _, _⟩ := NodeAt.of ho
      have KV := Lib.hid hkv
      have VV := Lib.hid hvv
      have L := Lib.hid hl
      have R := Lib.hid hr
      have C1 := Lib.hid c1
      clear ho hkv hvv hl hr c1
      simp only [Tr.size] at hg
      obtain ⟨g, rfl⟩ : ∃ g', gk = g' + 1 := ⟨gk - 1, by omega⟩
      by_cases e0 : cmpB key k = 0
      · have t0 := cmpS_eq0 e0
        have E0 := Lib.hid e0
        clear e0
        go_wp2_with fail
        refine (byCompare_calls HK.out KV.out).mono ?_
        rintro e w1 ⟨rfl, rfl⟩
        go_wp2
        go_ret
        exact ⟨some b, rfl, ⟨v, vv, by rw [G.out, Tr.get, if_pos E0.out], C1.out, VV.out⟩, rfl⟩
      · have t0 := cmpS_ne0 e0
        have E0 := Lib.hid e0
        clear e0
        by_cases hb : cmpB key k < 0
        · have GS := Lib.hid (show (Tr.nd l k v r).get key = l.get key by rw [Tr.get, if_neg E0.out, if_pos hb])
          have HC := Lib.hid hb
          clear hb
          have hc := cmpS_lt HC.out
          go_wp2_with fail
          refine (byCompare_calls HK.out KV.out).mono ?_
          rintro e w1 ⟨rfl, rfl⟩
          go_wp2_with fail
          refine (orside_calls c3 c4).mono ?_
          rintro e w1 ⟨rfl, rfl⟩
          go_wp2
          go_roundg g
          case measure => omega
          case rel => exact ⟨l, _, pl, Sl, rfl, rfl, L.out, by show _ = _; rw [G.out, GS.out], by omega, rfl⟩
        · have GS := Lib.hid (show (Tr.nd l k v r).get key = r.get key by rw [Tr.get, if_neg E0.out, if_neg hb])
          have HC := Lib.hid hb
          clear hb
          have hc := cmpS_ge HC.out
          go_wp2_with fail
          refine (byCompare_calls HK.out KV.out).mono ?_
          rintro e w1 ⟨rfl, rfl⟩
          go_wp2_with fail
          refine (orside_calls c3 c4).mono ?_
          rintro e w1 ⟨rfl, rfl⟩
          go_wp2
          go_roundg g
          case measure => omega
          case rel => exact ⟨r, _, pr, Sr, rfl, rfl, R.out, by show _ = _; rw [G.out, GS.out], by omega, rfl⟩
end Go.Proofs.Ytaopjdjbpamhhaa
