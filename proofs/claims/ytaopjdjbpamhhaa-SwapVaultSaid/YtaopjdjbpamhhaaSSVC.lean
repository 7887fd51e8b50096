/- Proved: texts of the families over slots, order and swap, joined, as far as the claim needs them. Conditions: as each theorem says. -/
import Derived.Test.YtaopjdjbpamhhaaSSVB
import Derived.Test.YtaopjdjbpamhhaaSSVA
/- Proved: contracts of the map's functions New, real, Len, Digest, Kin, find, part, SpanDigest. Conditions: maps in memory, of at most four hundred million pairs of lengths that are allowed. -/
namespace Go.Proofs.Ytaopjdjbpamhhaa
open Go Go.RowKit
set_option linter.unusedVariables false
set_option linter.unusedSimpArgs false
/-- The block of a map. -/
def mapObj (seed : Int) (p : Option Nat) : Obj := .cells #[.bool true, .int .u64 seed, ptr p] 123
/-- A map in memory, in blocks F. -/
structure MapIn (seed : Int) (w : World) (m : Nat) (t : Tr) (p : Option Nat) (S : List Nat) (D F : Nat → Prop) : Prop where
  ho : w.heap[m]? = some (mapObj seed p)
  ht : TreeAt seed D w t p S
  nd : S.Nodup
  ds : ∀ b ∈ S, ¬ D b ∧ b ≠ m
  dm : ¬ D m
  fm : F m
  fs : ∀ b ∈ S, F b
  fd : ∀ b, D b → b < w.heap.size → F b
  ok : t.ok
  sz : t.size ≤ 200000000
def MapAt (seed : Int) (w : World) (m : Nat) (t : Tr) (F : Nat → Prop) : Prop := ∃ p S D, MapIn seed w m t p S D F
theorem MapIn.c0 {seed : Int} {w : World} {m : Nat} {t : Tr} {p : Option Nat} {S : List Nat} {D F : Nat → Prop} (h : MapIn seed w m t p S D F) : w.cell? ⟨m, 0, none⟩ = some (.bool true) := by
  have := h.ho
  unfold mapObj at this
  simp [World.cell?, this]
theorem MapIn.c1 {seed : Int} {w : World} {m : Nat} {t : Tr} {p : Option Nat} {S : List Nat} {D F : Nat → Prop} (h : MapIn seed w m t p S D F) : w.cell? ⟨m, 1, none⟩ = some (.int .u64 seed) := by
  have := h.ho
  unfold mapObj at this
  simp [World.cell?, this]
theorem MapIn.c2 {seed : Int} {w : World} {m : Nat} {t : Tr} {p : Option Nat} {S : List Nat} {D F : Nat → Prop} (h : MapIn seed w m t p S D F) : w.cell? ⟨m, 2, none⟩ = some (ptr p) := by
  have := h.ho
  unfold mapObj at this
  simp [World.cell?, this]
theorem MapIn.f2 {seed : Int} {w : World} {m : Nat} {t : Tr} {p : Option Nat} {S : List Nat} {D F : Nat → Prop} (h : MapIn seed w m t p S D F) : w.frozen? ⟨m, 2, none⟩ = false := by
  have := h.ho
  unfold mapObj at this
  simp [World.frozen?, this]
theorem MapIn.at {seed : Int} {w w' : World} {m : Nat} {t : Tr} {p : Option Nat} {S : List Nat} {D F : Nat → Prop} (h : MapIn seed w m t p S D F) (e : w'.heap = w.heap) : MapIn seed w' m t p S D F :=
  ⟨by rw [e]; exact h.ho, h.ht.at e, h.nd, h.ds, h.dm, h.fm, h.fs, by rw [e]; exact h.fd, h.ok, h.sz⟩
theorem MapIn.bd {seed : Int} {w : World} {m : Nat} {t : Tr} {p : Option Nat} {S : List Nat} {D F : Nat → Prop} (h : MapIn seed w m t p S D F) : MapIn seed w m t p S (fun b => D b ∧ b < w.heap.size) F :=
  ⟨h.ho, h.ht.wide fun b hb hl => ⟨hb, hl⟩, h.nd, fun b hb => ⟨fun k => (h.ds b hb).1 k.1, (h.ds b hb).2⟩, fun k => h.dm k.1, h.fm, h.fs, fun b hb _ => h.fd b hb.1 hb.2, h.ok, h.sz⟩
theorem MapIn.kept {seed : Int} {w w' : World} {m : Nat} {t : Tr} {p : Option Nat} {S : List Nat} {D F X : Nat → Prop} (h : MapIn seed w m t p S D F) (k : Kept X w w') (hX : ∀ b, F b → ¬ X b) : MapIn seed w' m t p S (fun b => D b ∧ b < w.heap.size) F := by
  have h := h.bd
  exact ⟨k.obj (hX m h.fm) h.ho, h.ht.kept k (fun b hb hl => hX b (h.fd b hb hl)) fun b hb => hX b (h.fs b hb), h.nd, h.ds, h.dm, h.fm, h.fs, fun b hb _ => h.fd b hb hb.2, h.ok, h.sz⟩
theorem MapAt.at {seed : Int} {w w' : World} {m : Nat} {t : Tr} {F : Nat → Prop} (h : MapAt seed w m t F) (e : w'.heap = w.heap) : MapAt seed w' m t F := by
  obtain ⟨p, S, D, h⟩ := h
  exact ⟨p, S, D, h.at e⟩
theorem MapAt.kept {seed : Int} {w w' : World} {m : Nat} {t : Tr} {F X : Nat → Prop} (h : MapAt seed w m t F) (k : Kept X w w') (hX : ∀ b, F b → ¬ X b) : MapAt seed w' m t F := by
  obtain ⟨p, S, D, h⟩ := h
  have h := h.bd
  exact ⟨p, S, _, ⟨k.obj (hX m h.fm) h.ho, h.ht.kept k (fun b hb hl => hX b (h.fd b hb hl)) fun b hb => hX b (h.fs b hb), h.nd, h.ds, h.dm, h.fm, h.fs, fun b hb _ => h.fd b hb hb.2, h.ok, h.sz⟩⟩
theorem MapAt.wide {seed : Int} {w : World} {m : Nat} {t : Tr} {F F' : Nat → Prop} (h : MapAt seed w m t F) (hF : ∀ b, F b → b < w.heap.size → F' b) : MapAt seed w m t F' := by
  obtain ⟨p, S, D, h⟩ := h
  exact ⟨p, S, D, h.ho, h.ht, h.nd, h.ds, h.dm, hF m h.fm (block_lt h.ho), fun b hb => hF b (h.fs b hb) (h.ht.lt b hb), fun b hb hl => hF b (h.fd b hb hl) hl, h.ok, h.sz⟩

end Go.Proofs.Ytaopjdjbpamhhaa
/- Proved: plain facts on trees: what pairs are in them, in order; lengths that are allowed. No program. No condition. -/
namespace Go.Proofs.Ytaopjdjbpamhhaa
open Go Go.RowKit
set_option linter.unusedVariables false
set_option linter.unusedSimpArgs false
def Tr.pairs : Tr → List (Bts × Bts)
  | nil => []
  | nd l k v r => l.pairs ++ (k, v) :: r.pairs
def okP (p : Bts × Bts) : Prop := 1 ≤ p.1.length ∧ p.1.length ≤ 64 ∧ p.2.length ≤ 1000
end Go.Proofs.Ytaopjdjbpamhhaa
/- Proved: contracts of bytes.Clone and of the map's functions Put, Drop, Get, Kin. Conditions: maps in memory, of at most two hundred million pairs of lengths that are allowed. -/
namespace Go.Proofs.Ytaopjdjbpamhhaa
open Go Go.RowKit
set_option linter.unusedVariables false
set_option linter.unusedSimpArgs false
set_option maxHeartbeats 400000 in
theorem byClone_calls {D : Nat → Prop} {v : Value} {l : Bts} {w : World} (h : BV D w v l) :
    Calls Try.prog 95 #[v] w fun e w' => ∃ v', e = .returned v' ∧ Own 5 byteEl Noneof w.heap.size w' v' l ∧ Kept Noneof w w' := by
  have HS := Lib.hid h
  obtain ⟨a, c, rfl, ⟨hc, hn⟩, m, hr⟩ := h
  have heq := fun (wx : World) => Lib.run_eql_slice_nil (P := Try.prog) wx 31 5 a l.length c 0 0 tBytes.ht
  cases a with
  | none =>
    have hl : l = [] := by
      cases l with
      | nil => rfl
      | cons x t => obtain ⟨b, o, cs, h1, _⟩ := hr 0 (by simp); cases h1
    subst hl
    obtain rfl := hn rfl
    rw [List.length_nil] at heq ⊢
    clear hr hn HS hc m
    go_enter Try.func95, Try.ntmps95
    go_wp2
    go_ret
    exact ⟨_, rfl, Own.nil _ _ _ _ _, Kept.refl _ _⟩
  | some p =>
    clear hr hn
    go_enter Try.func95, Try.ntmps95
    go_wp2_with (at_builtin; refine wl_app_bytes rfl (.tmp 5) (.tmp 6) _ rfl tBytes _ [] rfl (Own.lit0 5 byteEl Noneof w) _ _ rfl (HS.out.kept byteEl_k ((Kept.refl Noneof w).alloc _) fun _ _ _ h => h) ?c4 ?c6 ?_; (case c4 => simp; omega); (case c6 => simp))
    intro x3 w3 o3 e3 _
    go_wp2
    go_ret
    exact ⟨_, rfl, by simpa using o3, ((Kept.refl Noneof w).alloc _).trans e3 fun b hb => .inr (by simp [Value.ownBlock] at hb; omega)⟩

end Go.Proofs.Ytaopjdjbpamhhaa
/- Proved: contracts of the map's functions Drop, Get, Kin. Conditions: maps in memory, of pairs of lengths that are allowed. -/
namespace Go.Proofs.Ytaopjdjbpamhhaa
open Go Go.RowKit
set_option linter.unusedVariables false
set_option linter.unusedSimpArgs false
theorem MapAt.open {seed : Int} {w : World} {m : Nat} {t : Tr} {F : Nat → Prop} (h : MapAt seed w m t F) : ∃ p S D, MapIn seed w m t p S D F ∧ ∀ b, D b → b < w.heap.size := by
  obtain ⟨p, S, D, h⟩ := h
  exact ⟨p, S, _, h.bd, fun b h => h.2⟩
end Go.Proofs.Ytaopjdjbpamhhaa
/- Proved: contracts of the map's functions part and SpanDigest. Conditions: maps in memory, of pairs of lengths that are allowed. -/
namespace Go.Proofs.Ytaopjdjbpamhhaa
open Go Go.RowKit
set_option linter.unusedVariables false
set_option linter.unusedSimpArgs false
/-- The tree of the pairs from low on (if fr is set) and below high (if tt is set). -/
def Tr.cut : Tr → Bts → Bool → Bts → Bool → Tr
  | nil, _, _, _, _ => nil
  | nd l k v r, low, fr, high, tt => if fr = false ∧ tt = false then nd l k v r else if fr = true ∧ cmpB k low < 0 then r.cut low fr high tt else if tt = true ∧ ¬ cmpB k high < 0 then l.cut low fr high tt else nd (l.cut low fr [] false) k v (r.cut [] false high tt)
theorem BV.nil (D : Nat → Prop) (w : World) : BV D w (.slice none 0 0) [] := ⟨none, 0, rfl, ⟨by simp, fun _ => rfl⟩, by simp, Rd.nil _ _ _ _⟩

end Go.Proofs.Ytaopjdjbpamhhaa
/- Proved: contracts of the map's function Image. Conditions: maps in memory. -/
namespace Go.Proofs.Ytaopjdjbpamhhaa
open Go Go.RowKit
set_option linter.unusedVariables false
set_option linter.unusedSimpArgs false
theorem SeqY.alloc {P : Program} {ops : Array Oper} {S : World → Prop} {acts : List Nat} {Fin : Act → World → Prop} {k : Nat} {l : List Oper} {a : Act} {w : World} {o : Obj} (h : ∀ w', w'.heap[w.heap.size]? = some o → Kept Noneof w w' → w.heap.size < w'.heap.size → SeqY P ops S acts Fin k l a w') : SeqY P ops S acts Fin k l a (w.alloc o) :=
  h _ (heap_alloc_new w o) ((Kept.refl Noneof w).alloc o) (block_lt (heap_alloc_new w o))
theorem two_bytes {D : Nat → Prop} {w : World} {x y : UInt8} {i j : Int} (hi : i = ((x.toNat : Nat) : Int)) (hj : j = ((y.toNat : Nat) : Int)) : Cells byteEl D w [.int .u8 i, .int .u8 j] [x, y] := by
  subst hi
  subst hj
  exact ⟨[_], [_], rfl, rfl, [_], [], rfl, rfl, rfl⟩
theorem wp_app_bytes {P : Program} {ops : Array Oper} {K : Act → World → Prop} {w : World} {o : Oper} {a : Act} {Q : Exit → Act → World → Prop} (hgd : o.guard = none) (s x : Operand) (t : TypeId) (ho : o.op = .call { callee := .builtin .append, args := #[s, x], argTypes := #[t, t] })
    {e : TypeId} {z : Value} (T : SlT P t e 1 1 z) {D' : Nat → Prop} {B : Nat} (v : Value) (l : Bts) (hs : a.eval s = v) (hown : Own e byteEl Noneof B w v l)
    (vx : Value) (m : Bts) (hx : a.eval x = vx) (hm : SV byteEl D' w vx m) (hbytes : l.length + m.length ≤ 140737488355328) (hbase : B ≤ w.heap.size)
    (h : ∀ v' w', Own e byteEl Noneof B w' v' (l ++ m) → Kept (fun k => v.ownBlock = some k) w w' → (∀ b, v'.ownBlock = some b → v.ownBlock = some b ∨ w.heap.size ≤ b) → K (a.put o.dst v') w') : o.wp P a w K Q := by
  obtain ⟨ao, c, rfl, ⟨hc, hn⟩, _, hr⟩ := hm
  obtain ⟨news, h1, h2⟩ := hr.cells
  exact wp_app (E := byteEl) s x t ho T v l hs hown ao c m hx hc hn news (h1.bytes (D' := Noneof)) h2 (fun _ h => h.elim) (by omega) (by decide) hbase fun v' w' k1 k2 k3 _ => h v' w' k1 k2 k3
theorem TreeAt.empty {seed : Int} {D : Nat → Prop} {w : World} {t : Tr} {p : Option Nat} {S : List Nat} (h : TreeAt seed D w t p S) : t.size = 0 ↔ p = none := by
  cases t with
  | nil => obtain ⟨rfl, _⟩ := h; simp [Tr.size]
  | nd l k v r =>
    obtain ⟨b, _, _, _, _, _, _, rfl, _⟩ := h
    simp [Tr.size]

end Go.Proofs.Ytaopjdjbpamhhaa
/- Proved: contracts of gather over nodes, and of the map's function Nodes. Conditions: maps in memory. -/
namespace Go.Proofs.Ytaopjdjbpamhhaa
open Go Go.RowKit
set_option linter.unusedVariables false
set_option linter.unusedSimpArgs false
structure ND where
  k : Bts
  v : Bts
  dg : Int
  size : Nat
  left : Int
  right : Int
def nodeEl : El ND where
  k := 6
  R := fun D w cs x => ∃ u v, cs = [u, v, .int .u64 x.dg, .int .i64 x.size, .int .i64 x.left, .int .i64 x.right] ∧ BV D w u x.k ∧ BV D w v x.v
  mono := fun hw ⟨u, v, h1, h2, h3⟩ => ⟨u, v, h1, h2.mono byteEl_k hw, h3.mono byteEl_k hw⟩
  len := fun ⟨u, v, h1, _⟩ => by rw [h1]; rfl
  one := fun ⟨u, v, h1, h2, h3⟩ x hx => by
    rw [h1] at hx
    rcases List.mem_cons.1 hx with rfl | hx
    · exact h2.cell1
    · rcases List.mem_cons.1 hx with rfl | hx
      · exact h3.cell1
      · simp only [List.mem_cons, List.not_mem_nil, or_false] at hx
        rcases hx with rfl | rfl | rfl | rfl <;> rfl
theorem nodeEl_k : 0 < nodeEl.k := by decide
def ndOf (seed : Int) (l : Tr) (k v : Bts) (r : Tr) (i : Int) : ND := ⟨k, v, (Tr.nd l k v r).dg seed, (Tr.nd l k v r).size, if l.size = 0 then -1 else i + 1, if r.size = 0 then -1 else i + 1 + l.size⟩
def Tr.nodes (seed : Int) : Tr → Int → List ND
  | nil, _ => []
  | nd l k v r, i => ndOf seed l k v r i :: (l.nodes seed (i + 1) ++ r.nodes seed (i + 1 + l.size))
end Go.Proofs.Ytaopjdjbpamhhaa
/- Proved: plain facts on treaps: the order of keys, search trees that are heaps, what putting, dropping and cutting do to their pairs, and that there is one tree for each list of pairs. No program. No condition. -/
namespace Go.Proofs.Ytaopjdjbpamhhaa
open Go Go.RowKit
set_option linter.unusedVariables false
set_option linter.unusedSimpArgs false
theorem cmpB_neg : ∀ a b : Bts, cmpB b a = - cmpB a b
  | [], [] => by simp [cmpB]
  | [], y :: u => by simp [cmpB]
  | x :: t, [] => by simp [cmpB]
  | x :: t, y :: u => by
    have ih := cmpB_neg t u
    unfold cmpB
    by_cases h : x = y
    · rw [if_pos h, if_pos h.symm, ih]
    · rw [if_neg h, if_neg (fun e => h e.symm)]; omega
theorem cmpB_zero : ∀ {a b : Bts}, cmpB a b = 0 → a = b
  | [], [], _ => rfl
  | [], y :: u, h => by simp [cmpB] at h; omega
  | x :: t, [], h => by simp [cmpB] at h; omega
  | x :: t, y :: u, h => by
    unfold cmpB at h
    by_cases e : x = y
    · rw [if_pos e] at h; rw [e, cmpB_zero h]
    · rw [if_neg e] at h; exact absurd (UInt8.toNat_inj.1 (by omega)) e
theorem cmpB_self (a : Bts) : cmpB a a = 0 := by have := cmpB_neg a a; omega
theorem cmpB_trans : ∀ {a b c : Bts}, cmpB a b < 0 → cmpB b c < 0 → cmpB a c < 0
  | [], [], c, h, _ => by simp [cmpB] at h
  | x :: t, [], c, h, _ => by simp [cmpB] at h; omega
  | [], y :: u, [], _, k => by simp [cmpB] at k; omega
  | [], y :: u, z :: s, _, _ => by simp only [cmpB, List.length_cons]; omega
  | x :: t, y :: u, [], _, k => by simp [cmpB] at k; omega
  | x :: t, y :: u, z :: s, h, k => by
    unfold cmpB at h k ⊢
    by_cases e : x = y
    · subst e
      rw [if_pos rfl] at h
      by_cases f : x = z
      · rw [if_pos f] at k ⊢; exact cmpB_trans h k
      · rw [if_neg f] at k ⊢; exact k
    · rw [if_neg e] at h
      by_cases f : y = z
      · subst f; rw [if_neg e]; exact h
      · rw [if_neg f] at k; rw [if_neg (fun g => by subst g; omega)]; omega

section
variable {seed : Int}
theorem aboveK_iff {a b : Bts} : aboveK seed a b = true ↔ coin seed 3 b < coin seed 3 a ∨ coin seed 3 a = coin seed 3 b ∧ cmpB a b < 0 := by
  unfold aboveK
  by_cases h : coin seed 3 a = coin seed 3 b
  · rw [if_pos h, decide_eq_true_iff, h]; simp
  · rw [if_neg h, decide_eq_true_iff]; simp [h]
theorem aboveK_asymm {a b : Bts} (h : aboveK seed a b = true) : ¬ aboveK seed b a = true := by
  rw [aboveK_iff] at *
  have := cmpB_neg a b
  omega
end
/-- Pairs in the order of keys. -/
def Srt (l : List (Bts × Bts)) : Prop := l.Pairwise fun p q => cmpB p.1 q.1 < 0
def ins : List (Bts × Bts) → Bts → Bts → List (Bts × Bts)
  | [], k, v => [(k, v)]
  | p :: l, k, v => if cmpB p.1 k < 0 then p :: ins l k v else if cmpB p.1 k = 0 then (k, v) :: l else (k, v) :: p :: l
def del : List (Bts × Bts) → Bts → List (Bts × Bts)
  | [], _ => []
  | p :: l, k => if cmpB p.1 k < 0 then p :: del l k else if cmpB p.1 k = 0 then l else p :: l
def getK : List (Bts × Bts) → Bts → Option Bts
  | [], _ => none
  | p :: l, k => if cmpB p.1 k < 0 then getK l k else if cmpB p.1 k = 0 then some p.2 else none
theorem rank_cons (p : Bts × Bts) (l : List (Bts × Bts)) (k : Bts) : rank (p :: l) k = if cmpB p.1 k < 0 then rank l k + 1 else 0 := by
  unfold rank
  rw [List.takeWhile_cons]
  by_cases h : cmpB p.1 k < 0
  · simp [h]
  · simp [h]
theorem hasK_cons (p : Bts × Bts) (l : List (Bts × Bts)) (k : Bts) : hasK (p :: l) k = if cmpB p.1 k < 0 then hasK l k else cmpB p.1 k == 0 := by
  unfold hasK
  rw [rank_cons]
  by_cases h : cmpB p.1 k < 0
  · simp [h]
  · simp [h]
theorem putK_ins : ∀ (l : List (Bts × Bts)) (k v : Bts), putK l k v = ins l k v
  | [], k, v => by simp [putK, ins, rank]
  | p :: l, k, v => by
    have ih := putK_ins l k v
    unfold putK at ih ⊢
    rw [rank_cons, hasK_cons, ins]
    by_cases h : cmpB p.1 k < 0
    · rw [if_pos h, if_pos h, if_pos h, ← ih]
      split <;> simp
    · by_cases e : cmpB p.1 k = 0 <;> simp [h, e]
theorem dropK_del : ∀ (l : List (Bts × Bts)) (k : Bts), dropK l k = del l k
  | [], k => by simp [dropK, del, hasK, rank]
  | p :: l, k => by
    have ih := dropK_del l k
    unfold dropK at ih ⊢
    rw [rank_cons, hasK_cons, del]
    by_cases h : cmpB p.1 k < 0
    · rw [if_pos h, if_pos h, if_pos h, ← ih]
      split <;> simp
    · by_cases e : cmpB p.1 k = 0 <;> simp [h, e]
theorem hasK_getK : ∀ (l : List (Bts × Bts)) (k : Bts), hasK l k = (getK l k).isSome
  | [], k => by simp [hasK, getK]
  | p :: l, k => by
    rw [hasK_cons, getK, hasK_getK l k]
    by_cases h : cmpB p.1 k < 0
    · simp [h]
    · by_cases e : cmpB p.1 k = 0 <;> simp [h, e]
theorem rank_getK : ∀ {l : List (Bts × Bts)} {k v : Bts}, getK l k = some v → ∃ x, l[rank l k]? = some (x, v)
  | [], k, v, h => by simp [getK] at h
  | p :: l, k, v, h => by
    rw [getK] at h
    rw [rank_cons]
    by_cases c : cmpB p.1 k < 0
    · rw [if_pos c] at h
      obtain ⟨x, hx⟩ := rank_getK h
      exact ⟨x, by rw [if_pos c]; simpa using hx⟩
    · rw [if_neg c] at h
      rw [if_neg c]
      split at h
      · exact ⟨p.1, by simp [← Option.some.inj h]⟩
      · cases h

theorem mem_ins : ∀ {l : List (Bts × Bts)} {k v : Bts} {p : Bts × Bts}, p ∈ ins l k v → p = (k, v) ∨ p ∈ l
  | [], k, v, p, h => by simp [ins] at h; exact .inl h
  | q :: l, k, v, p, h => by
    rw [ins] at h
    split at h
    · rcases List.mem_cons.1 h with rfl | h
      · exact .inr (by simp)
      · exact (mem_ins h).imp id fun h => by simp [h]
    · split at h
      · rcases List.mem_cons.1 h with rfl | h
        · exact .inl rfl
        · exact .inr (by simp [h])
      · rcases List.mem_cons.1 h with rfl | h
        · exact .inl rfl
        · exact .inr h
theorem not_lt_of {a b : Bts} (h : cmpB a b < 0) : ¬ cmpB b a < 0 ∧ ¬ cmpB b a = 0 := by have := cmpB_neg a b; omega
theorem getK_gt0 {b : List (Bts × Bts)} {k : Bts} (h : ∀ p ∈ b, cmpB k p.1 < 0) : getK b k = none := by
  cases b with
  | nil => rfl
  | cons p b =>
    have := not_lt_of (h p (by simp))
    rw [getK, if_neg this.1, if_neg this.2]
theorem srt_ins : ∀ {l : List (Bts × Bts)} {k v : Bts}, Srt l → Srt (ins l k v)
  | [], k, v, _ => by simp [ins, Srt]
  | p :: l, k, v, h => by
    have h' := List.pairwise_cons.1 h
    rw [ins]
    split
    · next c =>
      refine List.pairwise_cons.2 ⟨fun q hq => ?_, srt_ins h'.2⟩
      rcases mem_ins hq with rfl | hq
      · exact c
      · exact h'.1 q hq
    · next c =>
      split
      · next e =>
        have e := cmpB_zero e
        subst e
        exact List.pairwise_cons.2 ⟨h'.1, h'.2⟩
      · next e =>
        have c' : cmpB k p.1 < 0 := by have := cmpB_neg p.1 k; omega
        refine List.pairwise_cons.2 ⟨fun q hq => ?_, h⟩
        rcases List.mem_cons.1 hq with rfl | hq
        · exact c'
        · exact cmpB_trans c' (h'.1 q hq)
theorem del_sub : ∀ (l : List (Bts × Bts)) (k : Bts), (del l k).Sublist l
  | [], _ => List.Sublist.refl _
  | p :: l, k => by
    rw [del]
    split
    · exact (del_sub l k).cons_cons p
    · split
      · exact List.sublist_cons_self p l
      · exact List.Sublist.refl _
theorem srt_del {l : List (Bts × Bts)} {k : Bts} (h : Srt l) : Srt (del l k) := List.Pairwise.sublist (del_sub l k) h

/-- A search tree that is a heap. -/
def Tr.good (seed : Int) : Tr → Prop
  | nil => True
  | nd l k _ r => l.good seed ∧ r.good seed ∧ (∀ p ∈ l.pairs, cmpB p.1 k < 0 ∧ aboveK seed k p.1 = true) ∧ ∀ p ∈ r.pairs, cmpB k p.1 < 0 ∧ aboveK seed k p.1 = true
section
variable {seed : Int}
theorem Tr.good_srt : ∀ {t : Tr}, t.good seed → Srt t.pairs
  | nil, _ => List.Pairwise.nil
  | nd l k v r, ⟨hl, hr, pl, pr⟩ => by
    refine List.pairwise_append.2 ⟨good_srt hl, List.pairwise_cons.2 ⟨fun p hp => (pr p hp).1, good_srt hr⟩, fun a ha b hb => ?_⟩
    rcases List.mem_cons.1 hb with rfl | hb
    · exact (pl a ha).1
    · exact cmpB_trans (pl a ha).1 (pr b hb).1
theorem cons_once {α : Type} {x : α} : ∀ {a b c d : List α}, a ++ x :: b = c ++ x :: d → x ∉ a → x ∉ c → a = c ∧ b = d
  | [], b, [], d, h, _, _ => ⟨rfl, by simpa using h⟩
  | [], b, y :: c, d, h, _, h2 => by
    simp only [List.nil_append, List.cons_append, List.cons.injEq] at h
    exact absurd h.1 fun e => h2 (by simp [e])
  | y :: a, b, [], d, h, h1, _ => by
    simp only [List.nil_append, List.cons_append, List.cons.injEq] at h
    exact absurd h.1 fun e => h1 (by simp [e])
  | y :: a, b, z :: c, d, h, h1, h2 => by
    simp only [List.cons_append, List.cons.injEq] at h
    obtain ⟨rfl, h⟩ := h
    obtain ⟨rfl, rfl⟩ := cons_once h (fun e => h1 (by simp [e])) fun e => h2 (by simp [e])
    exact ⟨rfl, rfl⟩
/-- One tree for each list of pairs. -/
theorem Tr.canon : ∀ {t u : Tr}, t.good seed → u.good seed → t.pairs = u.pairs → t = u
  | nil, nil, _, _, _ => rfl
  | nil, nd _ _ _ _, _, _, h => by simp [Tr.pairs] at h
  | nd _ _ _ _, nil, _, _, h => by simp [Tr.pairs] at h
  | nd l k v r, nd l' k' v' r', hg, hg', h => by
    obtain ⟨hl, hr, pl, pr⟩ := id hg
    obtain ⟨hl', hr', pl', pr'⟩ := id hg'
    have hx : (k, v) = (k', v') := by
      have h1 : (k, v) ∈ (Tr.nd l' k' v' r').pairs := by rw [← h]; simp [Tr.pairs]
      have h2 : (k', v') ∈ (Tr.nd l k v r).pairs := by rw [h]; simp [Tr.pairs]
      simp only [Tr.pairs, List.mem_append, List.mem_cons] at h1 h2
      rcases h1 with h1 | h1 | h1
      · have a1 := (pl' _ h1).2
        rcases h2 with h2 | h2 | h2
        · exact absurd (pl _ h2).2 (aboveK_asymm a1)
        · exact h2.symm
        · exact absurd (pr _ h2).2 (aboveK_asymm a1)
      · exact h1
      · have a1 := (pr' _ h1).2
        rcases h2 with h2 | h2 | h2
        · exact absurd (pl _ h2).2 (aboveK_asymm a1)
        · exact h2.symm
        · exact absurd (pr _ h2).2 (aboveK_asymm a1)
    obtain ⟨rfl, rfl⟩ := Prod.mk.inj hx
    rw [Tr.pairs, Tr.pairs] at h
    obtain ⟨e1, e2⟩ := cons_once h (fun hm => by have := (pl _ hm).1; rw [cmpB_self] at this; omega) fun hm => by have := (pl' _ hm).1; rw [cmpB_self] at this; omega
    rw [canon hl hl' e1, canon hr hr' e2]
/-- Whether a pair's key lies in a span. -/
def inS (low : Bts) (fr : Bool) (high : Bts) (tt : Bool) (p : Bts × Bts) : Bool := (!fr || !decide (cmpB p.1 low < 0)) && (!tt || decide (cmpB p.1 high < 0))
theorem Tr.cut_good : ∀ {t : Tr} (low : Bts) (fr : Bool) (high : Bts) (tt : Bool), t.good seed → (t.cut low fr high tt).good seed ∧ (t.cut low fr high tt).pairs = t.pairs.filter (inS low fr high tt)
  | nil, _, _, _, _, _ => ⟨trivial, rfl⟩
  | nd l k v r, low, fr, high, tt, h => by
    obtain ⟨hl, hr, pl, pr⟩ := id h
    obtain ⟨l1, l2⟩ := cut_good low fr high tt hl
    obtain ⟨r1, r2⟩ := cut_good low fr high tt hr
    obtain ⟨l3, l4⟩ := cut_good low fr [] false hl
    obtain ⟨r3, r4⟩ := cut_good [] false high tt hr
    rw [Tr.cut]
    split
    · next c =>
      obtain ⟨rfl, rfl⟩ := c
      refine ⟨h, (List.filter_eq_self.2 fun p _ => by simp [inS]).symm⟩
    · next c0 =>
      split
      · next c =>
        obtain ⟨rfl, c⟩ := c
        refine ⟨r1, ?_⟩
        have n1 : l.pairs.filter (inS low true high tt) = [] := List.filter_eq_nil_iff.2 fun p hp => by simp [inS, cmpB_trans (pl p hp).1 c]
        rw [r2, Tr.pairs, List.filter_append, List.filter_cons, if_neg (by simp [inS, c]), n1]
        rfl
      · next c1 =>
        split
        · next c =>
          obtain ⟨rfl, c⟩ := c
          refine ⟨l1, ?_⟩
          have n1 : r.pairs.filter (inS low fr high true) = [] := List.filter_eq_nil_iff.2 fun p hp => by
            have : ¬ cmpB p.1 high < 0 := fun e => c (cmpB_trans (pr p hp).1 e)
            simp [inS, this]
          rw [l2, Tr.pairs, List.filter_append, List.filter_cons, if_neg (by simp [inS, c]), n1, List.append_nil]
        · next c2 =>
          have i1 : ∀ p ∈ l.pairs, inS low fr high tt p = inS low fr [] false p := fun p hp => by
            cases tt with
            | false => rfl
            | true =>
              have : cmpB k high < 0 := by simpa using c2
              simp [inS, cmpB_trans (pl p hp).1 this]
          have i2 : ∀ p ∈ r.pairs, inS low fr high tt p = inS [] false high tt p := fun p hp => by
            cases fr with
            | false => rfl
            | true =>
              have : ¬ cmpB k low < 0 := by simpa using c1
              have : ¬ cmpB p.1 low < 0 := fun e => this (cmpB_trans (pr p hp).1 e)
              simp [inS, this]
          have i3 : inS low fr high tt (k, v) = true := by
            simp only [inS, Bool.and_eq_true, Bool.or_eq_true, Bool.not_eq_true', decide_eq_true_eq, decide_eq_false_iff_not]
            constructor
            · cases fr with
              | false => exact .inl rfl
              | true => exact .inr (by simpa using c1)
            · cases tt with
              | false => exact .inl rfl
              | true => exact .inr (by simpa using c2)
          refine ⟨⟨l3, r3, fun p hp => pl p ?_, fun p hp => pr p ?_⟩, ?_⟩
          · rw [l4] at hp; exact (List.mem_filter.1 hp).1
          · rw [r4] at hp; exact (List.mem_filter.1 hp).1
          · rw [Tr.pairs, Tr.pairs, l4, r4, List.filter_append, List.filter_cons, if_pos i3, List.filter_congr i1, List.filter_congr i2]
end
end Go.Proofs.Ytaopjdjbpamhhaa
/- Proved: plain facts: where the root of a treap stands among its pairs; the messages of a mirror are few. No program. No condition. -/
namespace Go.Proofs.Ytaopjdjbpamhhaa
open Go Go.RowKit
set_option linter.unusedVariables false
set_option linter.unusedSimpArgs false
section
variable {seed : Int}
end
theorem getK_mem : ∀ {l : List (Bts × Bts)} {k v : Bts}, getK l k = some v → (k, v) ∈ l
  | [], _, _, h => by simp [getK] at h
  | p :: l, k, v, h => by
    rw [getK] at h
    split at h
    · exact List.mem_cons_of_mem _ (getK_mem h)
    · split at h
      · next e =>
        have e := cmpB_zero e
        subst e
        rw [← Option.some.inj h]
        simp
      · cases h
theorem mem_getK : ∀ {l : List (Bts × Bts)} {p : Bts × Bts}, Srt l → p ∈ l → getK l p.1 = some p.2
  | q :: l, p, hs, h => by
    have hs' := List.pairwise_cons.1 hs
    rw [getK]
    rcases List.mem_cons.1 h with rfl | h
    · rw [if_neg (by rw [cmpB_self]; omega), if_pos (cmpB_self _)]
    · rw [if_pos (hs'.1 p h)]; exact mem_getK hs'.2 h
theorem srt_ext : ∀ {a b : List (Bts × Bts)}, Srt a → Srt b → (∀ p, p ∈ a ↔ p ∈ b) → a = b
  | [], [], _, _, _ => rfl
  | [], q :: b, _, _, h => absurd ((h q).2 (by simp)) (by simp)
  | p :: a, [], _, _, h => absurd ((h p).1 (by simp)) (by simp)
  | p :: a, q :: b, ha, hb, h => by
    have ha' := List.pairwise_cons.1 ha
    have hb' := List.pairwise_cons.1 hb
    have e : p = q := by
      rcases List.mem_cons.1 ((h p).1 (by simp)) with e | h1
      · exact e
      · rcases List.mem_cons.1 ((h q).2 (by simp)) with e | h2
        · exact e.symm
        · exact absurd (ha'.1 q h2) (not_lt_of (hb'.1 p h1)).1
    subst e
    rw [srt_ext ha'.2 hb'.2 fun x => ?_]
    constructor
    · intro hx
      rcases List.mem_cons.1 ((h x).1 (by simp [hx])) with e | h1
      · have := ha'.1 x hx; rw [e, cmpB_self] at this; omega
      · exact h1
    · intro hx
      rcases List.mem_cons.1 ((h x).2 (by simp [hx])) with e | h1
      · have := hb'.1 x hx; rw [e, cmpB_self] at this; omega
      · exact h1
section
variable {seed : Int}
/-- Whether a span of the receiver is told to be the same. -/
def sameAt (seed : Int) (u t : Tr) (low high : Bts) (bd : Bool) : Bool := ((u.cut low true high bd).size == t.size) && ((u.cut low true high bd).dg seed == t.dg seed)
structure Msg where
  low : Bts
  high : Bts
  bd : Bool
  size : Nat
  dg : Int
  same : Bool
  prs : List (Bts × Bts)
/-- The messages about a span. -/
def talk (seed : Int) (u : Tr) : Tr → Bts → Bts → Bool → List Msg
  | .nil, low, high, bd => [⟨low, high, bd, 0, 0, sameAt seed u .nil low high bd, []⟩]
  | .nd l k v r, low, high, bd => if sameAt seed u (.nd l k v r) low high bd = true then [⟨low, high, bd, (Tr.nd l k v r).size, (Tr.nd l k v r).dg seed, true, []⟩] else ⟨low, high, bd, (Tr.nd l k v r).size, (Tr.nd l k v r).dg seed, false, [(k, v)]⟩ :: (talk seed u l low k true ++ talk seed u r (k ++ [0]) high bd)
end
end Go.Proofs.Ytaopjdjbpamhhaa
