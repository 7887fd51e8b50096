/- Proved: the law SwapPads returns true for all its arguments, and each argument reads afterwards as it read before. No condition beyond the statement's own. -/
import Derived.Test.YtaopjdjbpamhhaaPkC
import Derived.MapKept
import Derived.ChangeMaps4
import Derived.Laws.IdiomStrings
import Derived.Laws.BytesString
import Derived.Laws.BytesArg
import Derived.Lib.ConvBytes
import Derived.Test.YtaopjdjbpamhhaaPkD
import Derived.Test.YtaopjdjbpamhhaaPkA
import Derived.Test.YtaopjdjbpamhhaaPkE
import Derived.Test.YtaopjdjbpamhhaaRows
import Derived.Test.YtaopjdjbpamhhaaFacts
import Derived.ProofKit
import Derived.OpenShut
import Derived.ShutString
import Derived.ChangeOld
import Derived.ChangeMaps5
import Derived.SizedLaws
import Derived.Carry
/- Proved: general facts on the model's maps keyed by strings whose elements are pairs of byte slices with two numbers: what is read, stored and taken out. Conditions: maps in memory. -/
namespace Go.Proofs.Ytaopjdjbpamhhaa
open Go Go.RowKit
open Go.MapKept (Stamped IsKey findNow_spec stamped_push stamped_modify stamped_erase stamped_empty)
open Go.ChangeMaps (setBlock)
set_option linter.unusedVariables false
set_option linter.unusedSimpArgs false

/-! ### Plain: pairs in the order in which their keys came -/
def tget : List (Bts × Bts) → Bts → Option Bts
  | [], _ => none
  | p :: l, k => if p.1 = k then some p.2 else tget l k
def tput : List (Bts × Bts) → Bts → Bts → List (Bts × Bts)
  | [], k, v => [(k, v)]
  | p :: l, k, v => if p.1 = k then (k, v) :: l else p :: tput l k v
def tdel : List (Bts × Bts) → Bts → List (Bts × Bts)
  | [], _ => []
  | p :: l, k => if p.1 = k then l else p :: tdel l k

/-! ### Entries that read as pairs -/
def strV (k : Bts) : Value := .string ⟨k.toArray⟩
theorem strV_inj {a b : Bts} (h : strV a = strV b) : a = b := by
  unfold strV at h
  injection h with h
  injection h with h
  exact congrArg Array.toList h
def entV (seed : Int) (kv vv : Value) (k : Bts) : Value := .agg #[kv, vv, .int .u64 (coin seed 1 k), .int .u64 (coin seed 2 k)]
def EntIn (seed : Int) (D : Nat → Prop) (w : World) (e : MapEntry) (p : Bts × Bts) : Prop := ∃ kv vv, e.key = strV p.1 ∧ e.val = entV seed kv vv p.1 ∧ BV D w kv p.1 ∧ BV D w vv p.2
def EntsIn (seed : Int) (D : Nat → Prop) (w : World) : List MapEntry → List (Bts × Bts) → Prop
  | [], [] => True
  | e :: es, p :: l => EntIn seed D w e p ∧ EntsIn seed D w es l
  | [], _ :: _ => False
  | _ :: _, [] => False
section
variable {seed : Int} {D D' : Nat → Prop} {w w' : World}
theorem EntIn.mono {e : MapEntry} {p : Bts × Bts} (h : EntIn seed D w e p) (hw : ∀ b, D b → b < w.heap.size → D' b ∧ w'.heap[b]? = w.heap[b]?) : EntIn seed D' w' e p := by
  obtain ⟨kv, vv, h1, h2, h3, h4⟩ := h
  exact ⟨kv, vv, h1, h2, h3.mono byteEl_k hw, h4.mono byteEl_k hw⟩
theorem EntsIn.mono (hw : ∀ b, D b → b < w.heap.size → D' b ∧ w'.heap[b]? = w.heap[b]?) : ∀ {es : List MapEntry} {l : List (Bts × Bts)}, EntsIn seed D w es l → EntsIn seed D' w' es l
  | [], [], _ => trivial
  | e :: es, p :: l, h => ⟨h.1.mono hw, h.2.mono hw⟩
  | [], _ :: _, h => h.elim
  | _ :: _, [], h => h.elim
theorem EntsIn.length : ∀ {es : List MapEntry} {l : List (Bts × Bts)}, EntsIn seed D w es l → es.length = l.length
  | [], [], _ => rfl
  | e :: es, p :: l, h => by rw [List.length_cons, List.length_cons, h.2.length]
  | [], _ :: _, h => h.elim
  | _ :: _, [], h => h.elim
theorem EntsIn.key : ∀ {es : List MapEntry} {l : List (Bts × Bts)}, EntsIn seed D w es l → ∀ x ∈ es, IsKey .string x.key
  | [], [], _ => by simp
  | e :: es, p :: l, h => fun x hx => by
    rcases List.mem_cons.1 hx with rfl | hx
    · obtain ⟨_, _, h1, _⟩ := h.1
      rw [h1]
      exact trivial
    · exact h.2.key x hx
  | [], _ :: _, h => h.elim
  | _ :: _, [], h => h.elim
theorem EntsIn.at_ : ∀ {es : List MapEntry} {l : List (Bts × Bts)}, EntsIn seed D w es l → ∀ (i : Nat) (e : MapEntry), es[i]? = some e → ∃ p, l[i]? = some p ∧ EntIn seed D w e p
  | [], [], _, i, e, he => by simp at he
  | e :: es, p :: l, h, 0, x, he => by
    simp only [List.getElem?_cons_zero, Option.some.injEq] at he
    subst he
    exact ⟨p, rfl, h.1⟩
  | e :: es, p :: l, h, i + 1, x, he => by
    obtain ⟨q, h1, h2⟩ := h.2.at_ i x (by simpa using he)
    exact ⟨q, by simpa using h1, h2⟩
  | [], _ :: _, h, _, _, _ => h.elim
  | _ :: _, [], h, _, _, _ => h.elim
theorem EntsIn.push {e : MapEntry} {p : Bts × Bts} (he : EntIn seed D w e p) : ∀ {es : List MapEntry} {l : List (Bts × Bts)}, EntsIn seed D w es l → EntsIn seed D w (es ++ [e]) (l ++ [p])
  | [], [], _ => ⟨he, trivial⟩
  | _ :: _, _ :: _, h => ⟨h.1, h.2.push he⟩
  | [], _ :: _, h => h.elim
  | _ :: _, [], h => h.elim
theorem EntsIn.modify {p : Bts × Bts} {f : MapEntry → MapEntry} : ∀ {es : List MapEntry} {l : List (Bts × Bts)} {i : Nat}, (∀ e, es[i]? = some e → EntIn seed D w (f e) p) → EntsIn seed D w es l → EntsIn seed D w (es.modify i f) (l.set i p)
  | [], [], i, _, _ => by simp; trivial
  | e :: es, q :: l, 0, hf, h => ⟨hf e rfl, h.2⟩
  | e :: es, q :: l, i + 1, hf, h => ⟨h.1, h.2.modify (i := i) fun x hx => hf x (by simpa using hx)⟩
  | [], _ :: _, _, _, h => h.elim
  | _ :: _, [], _, _, h => h.elim
theorem EntsIn.erase : ∀ {es : List MapEntry} {l : List (Bts × Bts)} (i : Nat), EntsIn seed D w es l → EntsIn seed D w (es.eraseIdx i) (l.eraseIdx i)
  | [], [], i, _ => by simp; trivial
  | _ :: _, _ :: _, 0, h => h.2
  | _ :: _, _ :: _, i + 1, h => ⟨h.1, h.2.erase i⟩
  | [], _ :: _, _, h => h.elim
  | _ :: _, [], _, h => h.elim
/-- Where a key stands, and what that means for the pairs. -/
theorem EntsIn.find (k : Bts) : ∀ {es : List MapEntry} {l : List (Bts × Bts)} (i : Nat), EntsIn seed D w es l →
    (Instr.findNow .string (strV k) es i = some none ∧ (∀ x ∈ es, x.key ≠ strV k) ∧ tget l k = none ∧ (∀ v, tput l k v = l ++ [(k, v)]) ∧ tdel l k = l) ∨
    ∃ j e p, Instr.findNow .string (strV k) es i = some (some (i + j, e.val)) ∧ es[j]? = some e ∧ e.key = strV k ∧ l[j]? = some p ∧ p.1 = k ∧ EntIn seed D w e p ∧ tget l k = some p.2 ∧ (∀ v, tput l k v = l.set j (k, v)) ∧ tdel l k = l.eraseIdx j
  | [], [], i, _ => .inl ⟨rfl, by simp, rfl, fun _ => rfl, rfl⟩
  | e :: es, p :: l, i, h => by
    obtain ⟨kv, vv, h1, h2, h3, h4⟩ := h.1
    have hb : Instr.sameNow .string (strV k) e.key = some (decide (p.1 = k)) := by
      rw [h1]
      simp only [strV, Instr.sameNow]
      congr 1
      rw [Bool.eq_iff_iff, Go.MapKept.bytes_beq, decide_eq_true_eq]
      constructor
      · intro e; exact (strV_inj (by unfold strV; rw [e])).symm
      · rintro rfl; rfl
    by_cases hk : p.1 = k
    · refine .inr ⟨0, e, p, ?_, rfl, by rw [h1, hk], rfl, hk, h.1, by rw [tget, if_pos hk], fun v => by rw [tput, if_pos hk]; rfl, by rw [tdel, if_pos hk]; rfl⟩
      rw [Instr.findNow, hb, decide_eq_true hk]
      rfl
    · rcases h.2.find k (i + 1) with ⟨a1, a2, a3, a4, a5⟩ | ⟨j, e', p', a1, a2, a3, a4, a5, a6, a7, a8, a9⟩
      · refine .inl ⟨by rw [Instr.findNow, hb, decide_eq_false hk]; exact a1, fun x hx => ?_, by rw [tget, if_neg hk]; exact a3, fun v => by rw [tput, if_neg hk, a4]; rfl, by rw [tdel, if_neg hk, a5]⟩
        rcases List.mem_cons.1 hx with rfl | hx
        · rw [h1]; exact fun e => hk (strV_inj e)
        · exact a2 x hx
      · refine .inr ⟨j + 1, e', p', ?_, by simpa using a2, a3, by simpa using a4, a5, a6, by rw [tget, if_neg hk]; exact a7, fun v => by rw [tput, if_neg hk, a8]; rfl, by rw [tdel, if_neg hk, a9]; rfl⟩
        rw [Instr.findNow, hb, decide_eq_false hk]
        simp only [a1]
        congr 3
        omega
  | [], _ :: _, _, h => h.elim
  | _ :: _, [], _, h => h.elim
end

/-! ### A map's block -/
structure PadIn (seed : Int) (w : World) (r : Nat) (es : Array MapEntry) (clock : Nat) (l : List (Bts × Bts)) (D : Nat → Prop) : Prop where
  hm : w.heap[r]? = some (.map es clock)
  st : Stamped es clock
  el : EntsIn seed D w es.toList l
  dr : ¬ D r
section
variable {P : Program} {seed : Int} {w : World} {r clock : Nat} {es : Array MapEntry} {l : List (Bts × Bts)} {D : Nat → Prop} {T K E : TypeId}
theorem PadIn.size (h : PadIn seed w r es clock l D) : es.size = l.length := by rw [← Array.length_toList]; exact h.el.length
theorem PadIn.kept {w' : World} {X : Nat → Prop} (h : PadIn seed w r es clock l D) (k : Kept X w w') (hX : ∀ b, D b → b < w.heap.size → ¬ X b) (hr : ¬ X r) : PadIn seed w' r es clock l D :=
  ⟨k.obj hr h.hm, h.st, h.el.mono fun b hb hl => ⟨hb, k.block b hl (hX b hb hl)⟩, h.dr⟩
theorem PadIn.wide {D' : Nat → Prop} (h : PadIn seed w r es clock l D) (hD : ∀ b, D b → b < w.heap.size → D' b) (hr : ¬ D' r) : PadIn seed w r es clock l D' :=
  ⟨h.hm, h.st, h.el.mono fun b hb hl => ⟨hD b hb hl, rfl⟩, hr⟩
theorem setBlock_kept (w : World) (r : Nat) (o : Obj) : Kept (fun b => b = r) w (setBlock w r o) := by
  refine ⟨rfl, rfl, rfl, ?_, fun k hk hn => ?_⟩
  · unfold setBlock; simp
  · unfold setBlock; simp only; rw [Array.getElem?_setIfInBounds_ne fun e => hn e.symm]
theorem PadIn.look (h : PadIn seed w r es clock l D) (hT : P.underlying T = some (.map K E)) (hK : P.underlying K = some .string) {z : Value} (hz : ∀ w, (zeroValue E).run P w = .ok z w) (k : Bts) :
    ∃ v, (Instr.lookup T (.map (some r)) (strV k) true).run P w = .ok (.tuple #[v, .bool (tget l k).isSome]) w ∧ ((tget l k = none ∧ v = z) ∨ ∃ x kv vv, tget l k = some x ∧ v = entV seed kv vv k ∧ BV D w kv k ∧ BV D w vv x) := by
  have hck : (Instr.checkKey es.isEmpty 10000 K (strV k)).run P w = .ok () w := Go.MapKept.run_checkKey hK (by exact trivial) _ 9999
  rcases h.el.find k 0 with ⟨a1, a2, a3, a4, a5⟩ | ⟨j, e, p, a1, a2, a3, a4, a5, a6, a7, a8, a9⟩
  · refine ⟨z, ?_, .inl ⟨a3, rfl⟩⟩
    rw [a3]
    simp [Instr.lookup, run_underlying hT, Go.MapKept.run_getObj_map h.hm, hck, Go.MapKept.run_findKey hK a1, hz, Result.andThen]
  · obtain ⟨kv, vv, b1, b2, b3, b4⟩ := a6
    rw [a5] at b2 b3
    refine ⟨e.val, ?_, .inr ⟨p.2, kv, vv, a7, b2, b3, b4⟩⟩
    rw [a7]
    simp [Instr.lookup, run_underlying hT, Go.MapKept.run_getObj_map h.hm, hck, Go.MapKept.run_findKey hK a1, Result.andThen]
/-- What a look-up gives, in whatever world holds these entries. -/
theorem PadIn.look' (h : PadIn seed w r es clock l D) (hT : P.underlying T = some (.map K E)) (hK : P.underlying K = some .string) {z : Value} (hz : ∀ w, (zeroValue E).run P w = .ok z w) (k : Bts) :
    ∃ v, (∀ w', w'.heap[r]? = some (.map es clock) → (Instr.lookup T (.map (some r)) (strV k) true).run P w' = .ok (.tuple #[v, .bool (tget l k).isSome]) w') ∧ ((tget l k = none ∧ v = z) ∨ ∃ x kv vv, tget l k = some x ∧ v = entV seed kv vv k ∧ BV D w kv k ∧ BV D w vv x) := by
  have hck : ∀ w', (Instr.checkKey es.isEmpty 10000 K (strV k)).run P w' = .ok () w' := fun w' => Go.MapKept.run_checkKey hK (by exact trivial) _ 9999
  rcases h.el.find k 0 with ⟨a1, a2, a3, a4, a5⟩ | ⟨j, e, p, a1, a2, a3, a4, a5, a6, a7, a8, a9⟩
  · refine ⟨z, fun w' hm => ?_, .inl ⟨a3, rfl⟩⟩
    rw [a3]
    simp [Instr.lookup, run_underlying hT, Go.MapKept.run_getObj_map hm, hck, Go.MapKept.run_findKey hK a1, hz, Result.andThen]
  · obtain ⟨kv, vv, b1, b2, b3, b4⟩ := a6
    rw [a5] at b2 b3
    refine ⟨e.val, fun w' hm => ?_, .inr ⟨p.2, kv, vv, a7, b2, b3, b4⟩⟩
    rw [a7]
    simp [Instr.lookup, run_underlying hT, Go.MapKept.run_getObj_map hm, hck, Go.MapKept.run_findKey hK a1, Result.andThen]
theorem PadIn.store (h : PadIn seed w r es clock l D) (hT : P.underlying T = some (.map K E)) (hK : P.underlying K = some .string) {k v : Bts} {kv vv : Value} (h1 : BV D w kv k) (h2 : BV D w vv v) :
    ∃ es' clock', (Instr.mapUpdate T (.map (some r)) (strV k) (entV seed kv vv k)).run P w = .ok () (setBlock w r (.map es' clock')) ∧ PadIn seed (setBlock w r (.map es' clock')) r es' clock' (tput l k v) D := by
  have hck : (Instr.checkKey false 10000 K (strV k)).run P w = .ok () w := Go.MapKept.run_checkKey hK (by exact trivial) _ 9999
  have hmo : ∀ o (es : List MapEntry) (l : List (Bts × Bts)), EntsIn seed D w es l → EntsIn seed D (setBlock w r o) es l := fun o es l he => he.mono fun b hb hl => ⟨hb, (setBlock_kept w r o).block b hl fun e => h.dr (e ▸ hb)⟩
  have hnew : ∀ b, EntIn seed D w { key := strV k, val := entV seed kv vv k, born := b } (k, v) := fun b => ⟨kv, vv, rfl, rfl, h1, h2⟩
  have hlt : r < w.heap.size := block_lt h.hm
  have hset : ∀ o, (setBlock w r o).heap[r]? = some o := fun o => by unfold setBlock; simp [hlt]
  rcases h.el.find k 0 with ⟨a1, a2, a3, a4, a5⟩ | ⟨j, e, p, a1, a2, a3, a4, a5, a6, a7, a8, a9⟩
  · refine ⟨es.push { key := strV k, val := entV seed kv vv k, born := clock }, clock + 1, ?_, hset _, stamped_push h.st a2, ?_, h.dr⟩
    · simp [Instr.mapUpdate, run_underlying hT, Go.MapKept.run_getObj_map h.hm, hck, Go.MapKept.run_findKey hK a1, Go.MapKept.run_setObj_map _ h.hm, Result.andThen, setBlock]
    · rw [a4, Array.toList_push]
      exact hmo _ _ _ (h.el.push (hnew clock))
  · have hj : es[j]? = some e := by simpa using a2
    have hes : (Instr.keyThatStays (strV k) (strV k)).run P w = .ok (strV k) w := Go.MapKept.run_keyThatStays (d := .string) (by exact trivial)
    refine ⟨es.modify j fun e => { e with key := strV k, val := entV seed kv vv k }, clock, ?_, hset _, ?_, ?_, h.dr⟩
    · simp [Instr.mapUpdate, run_underlying hT, Go.MapKept.run_getObj_map h.hm, hck, Go.MapKept.run_findKey hK a1, hj, a3, hes, Go.MapKept.run_setObj_map _ h.hm, Result.andThen, setBlock]
    · exact stamped_modify h.st _ _ (fun _ _ => rfl) fun e' _ he' => by rw [hj] at he'; cases he'; exact a3.symm
    · rw [a8, Array.toList_modify]
      refine hmo _ _ _ (h.el.modify fun x hx => ?_)
      exact hnew x.born
theorem PadIn.take (h : PadIn seed w r es clock l D) (hT : P.underlying T = some (.map K E)) (hK : P.underlying K = some .string) (k : Bts) (ty : TypeId) :
    ∃ es', (Builtin.delete_ #[T, K] ty #[.map (some r), strV k]).run P w = .ok (.tuple #[]) (setBlock w r (.map es' clock)) ∧ PadIn seed (setBlock w r (.map es' clock)) r es' clock (tdel l k) D := by
  have hck : (Instr.checkKey es.isEmpty 10000 K (strV k)).run P w = .ok () w := Go.MapKept.run_checkKey hK (by exact trivial) _ 9999
  have hmo : ∀ o (es : List MapEntry) (l : List (Bts × Bts)), EntsIn seed D w es l → EntsIn seed D (setBlock w r o) es l := fun o es l he => he.mono fun b hb hl => ⟨hb, (setBlock_kept w r o).block b hl fun e => h.dr (e ▸ hb)⟩
  have hlt : r < w.heap.size := block_lt h.hm
  have hset : ∀ o, (setBlock w r o).heap[r]? = some o := fun o => by unfold setBlock; simp [hlt]
  rcases h.el.find k 0 with ⟨a1, a2, a3, a4, a5⟩ | ⟨j, e, p, a1, a2, a3, a4, a5, a6, a7, a8, a9⟩
  · refine ⟨es, ?_, hset _, h.st, by rw [a5]; exact hmo _ _ _ h.el, h.dr⟩
    simp [Builtin.delete_, run_underlying hT, Go.MapKept.run_getObj_map h.hm, hck, Go.MapKept.run_findKey hK a1, Go.MapKept.run_setObj_map _ h.hm, Result.andThen, setBlock]
  · refine ⟨es.eraseIdxIfInBounds j, ?_, hset _, stamped_erase h.st _, ?_, h.dr⟩
    · simp [Builtin.delete_, run_underlying hT, Go.MapKept.run_getObj_map h.hm, hck, Go.MapKept.run_findKey hK a1, Go.MapKept.run_setObj_map _ h.hm, Result.andThen, setBlock]
    · rw [a9]
      have hjl : j < es.size := by have := (List.getElem?_eq_some_iff.1 a2).1; simpa using this
      have : (es.eraseIdxIfInBounds j).toList = es.toList.eraseIdx j := by
        unfold Array.eraseIdxIfInBounds
        rw [dif_pos hjl, Array.toList_eraseIdx]
      rw [this]
      exact hmo _ _ _ (h.el.erase j)
theorem PadIn.made (seed : Int) {w : World} : PadIn seed (w.alloc (.map #[] 0)) w.heap.size #[] 0 [] (fun _ => False) := ⟨heap_alloc_new _ _, stamped_empty 0, trivial, fun h => h⟩
end

/-! ### Bytes and strings -/
theorem conv_str {P : Program} {w : World} {src dst e : TypeId} {D : Nat → Prop} {v : Value} {k : Bts} (hs : P.underlying src = some (.slice e)) (he : P.underlying e = some (.int .u8)) (hd : P.underlying dst = some .string) (h : BV D w v k) :
    (convert src dst v).run P w = .ok (strV k) w := by
  obtain ⟨a, c, rfl, ⟨hc, hn⟩, _, rd⟩ := h
  cases a with
  | none =>
    have h0 : k = [] := List.eq_nil_of_length_eq_zero (by have := hn rfl; omega)
    subst h0
    exact run_convert_bytes_nil w src e hs he 0 c dst hd
  | some a =>
    refine run_convert_bytes_back w src dst e a c k hs he hd fun j hj => ?_
    obtain ⟨b, o, hb, _, h1⟩ := Rd.byte rd hj
    obtain rfl := Option.some.inj hb
    rw [Addr.add_lit]
    exact h1
end Go.Proofs.Ytaopjdjbpamhhaa
/- Proved: contracts of the table's functions New, none, allowed, entry, Put, Get, Drop, Len. Conditions: tables in memory. -/
namespace Go.Proofs.Ytaopjdjbpamhhaa
open Go Go.RowKit
open Go.MapKept (Stamped)
open Go.ChangeMaps (setBlock)
set_option linter.unusedVariables false
set_option linter.unusedSimpArgs false

def tabObj (seed : Int) (r : Nat) : Obj := .cells #[.bool true, .int .u64 seed, .map (some r)] 136
/-- A table in memory, in blocks F: its pairs in the order in which their keys came. -/
structure TabIn (seed : Int) (w : World) (t r : Nat) (es : Array MapEntry) (clock : Nat) (l : List (Bts × Bts)) (D F : Nat → Prop) : Prop where
  ho : w.heap[t]? = some (tabObj seed r)
  pd : PadIn seed w r es clock l D
  ne : t ≠ r
  dt : ¬ D t
  ft : F t
  fr : F r
  fd : ∀ b, D b → b < w.heap.size → F b
  ok : ∀ p ∈ l, okP p
  len : l.length ≤ 100000
def TabAt (seed : Int) (w : World) (t : Nat) (l : List (Bts × Bts)) (F : Nat → Prop) : Prop := ∃ r es clock D, TabIn seed w t r es clock l D F
theorem tabObj_cells {seed : Int} {w : World} {t r : Nat} (h : w.heap[t]? = some (tabObj seed r)) : w.cell? ⟨t, 0, none⟩ = some (.bool true) ∧ w.cell? ⟨t, 1, none⟩ = some (.int .u64 seed) ∧ w.cell? ⟨t, 2, none⟩ = some (.map (some r)) := by
  unfold tabObj at h
  simp [World.cell?, h]
section
variable {seed : Int} {w w' : World} {t : Nat} {l : List (Bts × Bts)} {F : Nat → Prop}
theorem TabAt.kept {X : Nat → Prop} (h : TabAt seed w t l F) (k : Kept X w w') (hX : ∀ b, F b → ¬ X b) : TabAt seed w' t l F := by
  obtain ⟨r, es, clock, D, h⟩ := h
  have p := h.pd
  refine ⟨r, es, clock, fun b => D b ∧ b < w.heap.size, k.obj (hX t h.ft) h.ho, (p.wide (D' := fun b => D b ∧ b < w.heap.size) (fun b hb hl => ⟨hb, hl⟩) fun h => p.dr h.1).kept k (fun b hb hl => hX b (h.fd b hb.1 hl)) (hX r h.fr), h.ne, fun hh => h.dt hh.1, h.ft, h.fr, fun b hb _ => h.fd b hb.1 hb.2, h.ok, h.len⟩
theorem TabAt.still (h : TabAt seed w t l F) (k : Kept Noneof w w') : TabAt seed w' t l F := h.kept k fun _ _ h => h
theorem TabAt.wide {F' : Nat → Prop} (h : TabAt seed w t l F) (hF : ∀ b, F b → b < w.heap.size → F' b) : TabAt seed w t l F' := by
  obtain ⟨r, es, clock, D, h⟩ := h
  exact ⟨r, es, clock, D, h.ho, h.pd, h.ne, h.dt, hF t h.ft (block_lt h.ho), hF r h.fr (block_lt h.pd.hm), fun b hb hl => hF b (h.fd b hb hl) hl, h.ok, h.len⟩
theorem TabAt.at (h : TabAt seed w t l F) (e : w'.heap = w.heap) : TabAt seed w' t l F := by
  obtain ⟨r, es, clock, D, h⟩ := h
  refine ⟨r, es, clock, D, by rw [e]; exact h.ho, ⟨by rw [e]; exact h.pd.hm, h.pd.st, h.pd.el.mono fun b hb _ => ⟨hb, by rw [e]⟩, h.pd.dr⟩, h.ne, h.dt, h.ft, h.fr, by rw [e]; exact h.fd, h.ok, h.len⟩
theorem TabAt.lt (h : TabAt seed w t l F) : t < w.heap.size := by
  obtain ⟨r, es, clock, D, h⟩ := h
  exact block_lt h.ho
theorem TabAt.cells (h : TabAt seed w t l F) : ∃ r, w.cell? ⟨t, 0, none⟩ = some (.bool true) ∧ w.cell? ⟨t, 1, none⟩ = some (.int .u64 seed) ∧ w.cell? ⟨t, 2, none⟩ = some (.map (some r)) := by
  obtain ⟨r, es, clock, D, h⟩ := h
  exact ⟨r, tabObj_cells h.ho⟩
end
theorem slnone_calls {seed : Int} {w : World} {t : Nat} {l : List (Bts × Bts)} {F : Nat → Prop} (h : TabAt seed w t l F) :
    Calls Try.prog 86 #[bp t] w fun e w' => e = .returned (.bool false) ∧ w' = w := by
  obtain ⟨r, c0, _⟩ := h.cells
  clear h
  go_enter Try.func86, Try.ntmps86
  go_wp2
  go_ret
  exact ⟨rfl, rfl⟩
theorem slnone_nil {w : World} : Calls Try.prog 86 #[.pointer none] w fun e w' => e = .returned (.bool true) ∧ w' = w := by
  go_enter Try.func86, Try.ntmps86
  go_wp2
  go_ret
  exact ⟨rfl, rfl⟩
theorem slnone_zero {w : World} {t : Nat} (h : w.cell? ⟨t, 0, none⟩ = some (.bool false)) : Calls Try.prog 86 #[bp t] w fun e w' => e = .returned (.bool true) ∧ w' = w := by
  go_enter Try.func86, Try.ntmps86
  go_wp2
  go_ret
  exact ⟨rfl, rfl⟩
theorem slallowed_calls {D1 D2 : Nat → Prop} {v1 v2 : Value} {key value : Bts} {w : World} (h1 : BV D1 w v1 key) (h2 : BV D2 w v2 value) :
    Calls Try.prog 87 #[v1, v2] w fun e w' => e = .returned (.bool (allowedK key value)) ∧ w' = w := by
  obtain ⟨a1, c1, rfl, _, _, _⟩ := h1
  obtain ⟨a2, c2, rfl, _, _, _⟩ := h2
  go_enter Try.func87, Try.ntmps87
  go_wp2
  all_goals
    go_ret
    refine ⟨ret_bool ?_, rfl⟩
    unfold allowedK
    rw [Bool.eq_iff_iff]
    simp
    try omega
theorem slNew_calls {seed : Int} {w : World} :
    Calls Try.prog 24 #[.int .u64 seed] w fun e w' => e = .returned (bp (w.heap.size + 1)) ∧ TabAt seed w' (w.heap.size + 1) [] (fun b => w.heap.size ≤ b ∧ b < w'.heap.size) ∧ Kept Noneof w w' ∧ w'.heap.size = w.heap.size + 2 := by
  have hmm := @run_makeMap Try.prog
  go_enter Try.func24, Try.ntmps24
  go_wp2
  go_ret
  have k1 := (Kept.refl Noneof w).alloc (.map #[] 0)
  have g1 := PadIn.made seed (w := w)
  generalize hw1 : w.alloc (.map #[] 0) = w1 at *
  have s1 : w1.heap.size = w.heap.size + 1 := by rw [← hw1]; simp
  have k2 := (Kept.refl Noneof w1).alloc (tabObj seed w.heap.size)
  have g2 := heap_alloc_new w1 (tabObj seed w.heap.size)
  rw [s1] at g2
  refine ⟨rfl, ⟨w.heap.size, #[], 0, fun _ => False, g2, g1.kept k2 (fun _ h => h.elim) (fun h => h), by omega, fun h => h, ?_, ?_, fun _ h => h.elim, by simp, by simp⟩, k1.tr k2, by simp [s1]⟩
  · simp [s1]
  · refine ⟨Nat.le_refl _, ?_⟩
    simp [s1]
    omega

/-! ### A new entry -/
theorem entObj_cells {w : World} {b : Nat} {x0 x1 x2 x3 : Value} (h : w.heap[b]? = some (.cells #[x0, x1, x2, x3] 138)) : w.cell? ⟨b, 0, none⟩ = some x0 ∧ w.cell? ⟨b, 1, none⟩ = some x1 ∧ w.cell? ⟨b, 2, none⟩ = some x2 ∧ w.cell? ⟨b, 3, none⟩ = some x3 ∧ ∀ j, w.frozen? ⟨b, j, none⟩ = false := by
  simp [World.cell?, World.frozen?, h]
theorem SV.still' {α : Type} {E : El α} {D : Nat → Prop} {w w' : World} {v : Value} {l : List α} (h : SV E D w v l) (k : Kept Noneof w w') (hk : 0 < E.k := by decide) : SV E D w' v l := h.kept hk k fun _ _ _ h => h
set_option maxRecDepth 100000 in
set_option maxHeartbeats 1000000 in
theorem slentry_calls {seed : Int} {w : World} {t : Nat} {D1 D2 : Nat → Prop} {kv vv : Value} {k v : Bts} (c1 : w.cell? ⟨t, 1, none⟩ = some (.int .u64 seed)) (h1 : BV D1 w kv k) (h2 : BV D2 w vv v) :
    Calls Try.prog 88 #[bp t, kv, vv] w fun e w' => ∃ kx vx, e = .returned (entV seed kx vx k) ∧ Own 5 byteEl Noneof w.heap.size w' kx k ∧ Own 5 byteEl Noneof w.heap.size w' vx v ∧ Kept Noneof w w' := by
  have HK := Lib.hid h1
  have HV := Lib.hid h2
  have B := Lib.hid (show t < w.heap.size from cell_lt c1)
  obtain ⟨a1, n1, rfl, _, _, _⟩ := h1
  obtain ⟨a2, n2, rfl, _, _, _⟩ := h2
  go_enter Try.func88, Try.ntmps88
  go_wp2_with fail
  have G := heap_alloc_new w (.cells #[.slice none 0 0, .slice none 0 0, .int .u64 0, .int .u64 0] 138)
  have k0 := (Kept.refl Noneof w).alloc (.cells #[.slice none 0 0, .slice none 0 0, .int .u64 0, .int .u64 0] 138)
  have s0 : (w.alloc (.cells #[.slice none 0 0, .slice none 0 0, .int .u64 0, .int .u64 0] 138)).heap.size = w.heap.size + 1 := by simp
  generalize w.alloc (.cells #[.slice none 0 0, .slice none 0 0, .int .u64 0, .int .u64 0] 138) = w0 at *
  replace c1 : w0.cell? ⟨t, 1, none⟩ = some (.int .u64 seed) := k0.cell (fun h => h) c1
  refine wp_region_chain 18 [1, 3, 9, 15, 17] (fun w' => w'.cell? ⟨t, 1, none⟩ = some (.int .u64 seed)) (by kernel_rfl) (by kernel_rfl) ?_ ?_
  · exact c1
  simp only [List.take_succ_cons, List.take_zero, List.drop_succ_cons, List.drop_zero]
  replace G := Lib.hid (show w0.drew.heap[w.heap.size]? = _ from G)
  have K := Lib.hid (k0.drew)
  have s0' : w0.drew.heap.size = w.heap.size + 1 := s0
  replace c1 : w0.drew.cell? ⟨t, 1, none⟩ = some (.int .u64 seed) := c1
  generalize w0.drew = wz at *
  clear k0 s0
  (refine SeqY.val (v := ?_) (by rfl) (by rfl) (fun wx hSw => ?_) ?_; rotate_left; (focus ((try dsimp only at hSw); go_simp; (try with_reducible rfl))); (try simp only [Act.put, List.setIfInBounds_toArray, List.set_cons_zero, List.set_cons_succ]))
  refine SeqY.act (by rfl) rfl (by rfl) (by rfl) (fun KK hK => ?_)
  go_simp
  refine (byClone_calls (HK.out.still' K.out)).mono ?_
  rintro e wa ⟨va, rfl, oa, ka⟩
  refine hK.out _ _ (ka.cell (fun h => h) c1) ?_
  replace c1 := ka.cell (fun h => h) c1
  have OA := Lib.hid oa
  obtain ⟨x1, x2, x3, rfl⟩ := oa.slice'
  replace G := Lib.hid (ka.obj (fun h => h) G.out)
  replace K := Lib.hid (K.out.tr ka)
  have sa := ka.size
  clear KK hK oa ka
  (try simp only [Act.put, List.setIfInBounds_toArray, List.set_cons_zero, List.set_cons_succ])
  (refine SeqY.val (v := ?_) (by rfl) (by rfl) (fun wx hSw => ?_) ?_; rotate_left; (focus ((try dsimp only at hSw); go_simp; (try with_reducible rfl))); (try simp only [Act.put, List.setIfInBounds_toArray, List.set_cons_zero, List.set_cons_succ]))
  refine SeqY.act (by rfl) rfl (by rfl) (by rfl) (fun KK hK => ?_)
  go_simp
  refine (byClone_calls (HV.out.still' K.out)).mono ?_
  rintro e wb ⟨vb, rfl, ob, kb⟩
  refine hK.out _ _ (kb.cell (fun h => h) c1) ?_
  replace c1 := kb.cell (fun h => h) c1
  have OB := Lib.hid ob
  obtain ⟨y1, y2, y3, rfl⟩ := ob.slice'
  replace OA := Lib.hid (OA.out.kept kb fun _ h => h.elim)
  replace G := Lib.hid (kb.obj (fun h => h) G.out)
  replace K := Lib.hid (K.out.tr kb)
  have sb := kb.size
  clear KK hK ob kb
  (try simp only [Act.put, List.setIfInBounds_toArray, List.set_cons_zero, List.set_cons_succ])
  iterate 5 (refine SeqY.val (v := ?_) (by rfl) (by rfl) (fun wx hSw => ?_) ?_; rotate_left; (focus ((try dsimp only at hSw); go_simp; (try with_reducible rfl))); (try simp only [Act.put, List.setIfInBounds_toArray, List.set_cons_zero, List.set_cons_succ]))
  refine SeqY.act (by rfl) rfl (by rfl) (by rfl) (fun KK hK => ?_)
  go_simp
  refine (slCoin_calls (HK.out.still' K.out)).mono ?_
  rintro e wc ⟨rfl, dc⟩
  have kc := (Kept.refl Noneof wb).drewn dc
  refine hK.out _ _ (kc.cell (fun h => h) c1) ?_
  replace c1 := kc.cell (fun h => h) c1
  replace OA := Lib.hid (OA.out.kept kc fun _ h => h.elim)
  replace OB := Lib.hid (OB.out.kept kc fun _ h => h.elim)
  replace G := Lib.hid (kc.obj (fun h => h) G.out)
  replace K := Lib.hid (K.out.tr kc)
  clear KK hK dc kc
  (try simp only [Act.put, List.setIfInBounds_toArray, List.set_cons_zero, List.set_cons_succ])
  iterate 5 (refine SeqY.val (v := ?_) (by rfl) (by rfl) (fun wx hSw => ?_) ?_; rotate_left; (focus ((try dsimp only at hSw); go_simp; (try with_reducible rfl))); (try simp only [Act.put, List.setIfInBounds_toArray, List.set_cons_zero, List.set_cons_succ]))
  refine SeqY.act (by rfl) rfl (by rfl) (by rfl) (fun KK hK => ?_)
  go_simp
  refine (slCoin_calls (HK.out.still' K.out)).mono ?_
  rintro e wd ⟨rfl, dd⟩
  have kd := (Kept.refl Noneof wc).drewn dd
  refine hK.out _ _ (kd.cell (fun h => h) c1) ?_
  replace c1 := kd.cell (fun h => h) c1
  replace OA := Lib.hid (OA.out.kept kd fun _ h => h.elim)
  replace OB := Lib.hid (OB.out.kept kd fun _ h => h.elim)
  replace G := Lib.hid (kd.obj (fun h => h) G.out)
  replace K := Lib.hid (K.out.tr kd)
  clear KK hK dd kd
  (try simp only [Act.put, List.setIfInBounds_toArray, List.set_cons_zero, List.set_cons_succ])
  (refine SeqY.val (v := ?_) (by rfl) (by rfl) (fun wx hSw => ?_) ?_; rotate_left; (focus ((try dsimp only at hSw); go_simp; (try with_reducible rfl))); (try simp only [Act.put, List.setIfInBounds_toArray, List.set_cons_zero, List.set_cons_succ]))
  obtain ⟨g0, g1, g2, g3, gf⟩ := entObj_cells G.out
  refine SeqY.act0 (by rfl) rfl (by rfl) (fun KK hK => ?_)
  go_simp
  have KT := ((((Kept.refl (fun b => b = w.heap.size) wd).setCell (p := ⟨w.heap.size, 0, none⟩) (.inl rfl) (.slice x1 x2 x3)).setCell (p := ⟨w.heap.size, 1, none⟩) (.inl rfl) (.slice y1 y2 y3)).setCell (p := ⟨w.heap.size, 2, none⟩) (.inl rfl) (.int .u64 (coin seed 1 k))).setCell (p := ⟨w.heap.size, 3, none⟩) (.inl rfl) (.int .u64 (coin seed 2 k))
  have hB := B.out
  refine hK.out _ (KT.cell (p := ⟨t, 1, none⟩) (by simp only; omega) c1) ?_
  clear KK hK g0 g1 g2 g3 gf
  (try simp only [Act.put, List.setIfInBounds_toArray, List.set_cons_zero, List.set_cons_succ])
  refine SeqY.nil ?_
  go_wp2_with fail
  have GF := setCell_obj (setCell_obj (setCell_obj (setCell_obj G.out (.slice x1 x2 x3) (j := 0)) (.slice y1 y2 y3) (j := 1)) (.int .u64 (coin seed 1 k)) (j := 2)) (.int .u64 (coin seed 2 k)) (j := 3)
  refine bodyPost_ret (results_cell_row rfl _ _ w.heap.size _ #[_, _, _, _] (0, 0) _ rfl GF Try.underlying138 rfl (by kernel_rfl)) rfl ?_
  refine ⟨_, _, rfl, (OA.out.kept KT ?_).base (by omega), (OB.out.kept KT ?_).base (by omega), K.out.trans KT fun b e => .inr (by omega)⟩
  · rintro b rfl hl
    refine ⟨fun h => h, fun h => ?_⟩
    have := (OA.out.lt _ h).1
    omega
  · rintro b rfl hl
    refine ⟨fun h => h, fun h => ?_⟩
    have := (OB.out.lt _ h).1
    omega
end Go.Proofs.Ytaopjdjbpamhhaa
/- Proved: the check of the chain law's region by bit masks: each operation's ancestors are given as a number, checked at one step each. No program is named. No condition. -/
namespace Go.Proofs.Ytaopjdjbpamhhaa
open Go Go.RowKit
set_option linter.unusedVariables false
set_option linter.unusedSimpArgs false

def allIx (p : Nat → Oper → Bool) : Nat → List Oper → Bool
  | _, [] => true
  | i, o :: r => p i o && allIx p (i + 1) r
theorem allIx_get {p : Nat → Oper → Bool} : ∀ {l : List Oper} {k : Nat}, allIx p k l = true → ∀ {j : Nat} {o : Oper}, l[j]? = some o → p (k + j) o = true
  | [], k, _, j, o, h => by simp at h
  | x :: l, k, h, 0, o, ho => by
    simp only [List.getElem?_cons_zero, Option.some.injEq] at ho
    subst ho
    simp only [allIx, Bool.and_eq_true] at h
    exact h.1
  | x :: l, k, h, j + 1, o, ho => by
    simp only [allIx, Bool.and_eq_true] at h
    have := allIx_get h.2 (j := j) (o := o) (by simpa using ho)
    rwa [show k + 1 + j = k + (j + 1) by omega] at this
def maskOf (ms : List Nat) : List Edge → Nat
  | [] => 0
  | e :: r => if Region.binds .any e then (2 ^ e.on ||| ms.getD e.on 0) ||| maskOf ms r else maskOf ms r
theorem maskOf_bit (ms : List Nat) (k : Nat) : ∀ es : List Edge, (maskOf ms es).testBit k = es.any fun e => Region.binds .any e && (e.on == k || (ms.getD e.on 0).testBit k)
  | [] => by simp [maskOf]
  | e :: r => by
    rw [maskOf, List.any_cons, ← maskOf_bit ms k r]
    cases h : Region.binds .any e with
    | true =>
      simp only [if_true, Nat.testBit_or, Nat.testBit_two_pow, Bool.true_and]
      congr 2
    | false => simp
def maskB (ms : List Nat) (l : List Oper) : Bool :=
  allIx (fun i o => o.after.toList.all (fun e => !Region.binds .any e || decide (e.on < i)) && (ms.getD i 0 == maskOf ms o.after.toList)) 0 l
theorem waitsN_mask {ms : List Nat} {l : List Oper} (h : maskB ms l = true) (k : Nat) : ∀ f i, i < f → i < l.length → waitsN l.toArray f i k = (ms.getD i 0).testBit k
  | 0, i, hi, _ => by omega
  | f + 1, i, hi, hl => by
    have := allIx_get h (List.getElem?_eq_getElem hl)
    simp only [Nat.zero_add, Bool.and_eq_true, beq_iff_eq, List.all_eq_true] at this
    obtain ⟨h1, h2⟩ := this
    rw [h2, maskOf_bit, waitsN]
    simp only [List.getElem?_toArray, List.getElem?_eq_getElem hl, ← Array.any_toList]
    rw [Bool.eq_iff_iff]
    simp only [List.any_eq_true, Bool.and_eq_true]
    refine exists_congr fun e => and_congr_right fun he => and_congr_right fun hb => ?_
    have := h1 e he
    simp only [hb, Bool.not_true, Bool.false_or, decide_eq_true_eq] at this
    rw [waitsN_mask h k f e.on (by omega) (by omega)]
theorem waits_mask {ms : List Nat} {l : List Oper} (h : maskB ms l = true) (i k : Nat) (hi : i < l.length) : waits l.toArray i k = (ms.getD i 0).testBit k :=
  waitsN_mask h k _ i (by simpa using hi) hi
def headM (ms : List Nat) (l : List Oper) (acts : List Nat) (n : Nat) : Bool :=
  Region.noSelect l.toArray && decide (n ≤ l.length) && allIx (fun i oi =>
    Nat.ble n i || (allIx (fun k ok => Nat.ble n k || ((!(ms.getD i 0).testBit k || decide (k < i)) &&
      (match ok.dst with
        | none => true
        | some d => (!(oi.looksAt l.toArray).contains d || (ms.getD i 0).testBit k) && (i == k || oi.dst != some d)))) 0 l)) 0 l &&
  acts.all fun j => acts.all fun i => !decide (i < j) || (ms.getD j 0).testBit i
theorem chainOk_mask {ms : List Nat} {l : List Oper} {acts : List Nat} {n : Nat} (hm : maskB ms l = true) (hh : headM ms l acts n = true) : chainOkB l.toArray (fun i => acts.contains i) n = true := by
  simp only [headM, Bool.and_eq_true, decide_eq_true_eq] at hh
  obtain ⟨⟨⟨h1, h2⟩, h3⟩, h4⟩ := hh
  simp only [chainOkB, headB, Bool.and_eq_true, List.all_eq_true, List.mem_range, decide_eq_true_eq, List.size_toArray]
  refine ⟨⟨⟨h1, h2⟩, fun i hi => ?_⟩, fun j hj i hi => ?_⟩
  · have hil : i < l.length := by omega
    have a := allIx_get hm (List.getElem?_eq_getElem hil)
    have b := allIx_get h3 (List.getElem?_eq_getElem hil)
    simp only [Nat.zero_add, Bool.and_eq_true] at a b
    have hb : Nat.ble n i = false := by rw [Bool.eq_false_iff]; intro h; have := Nat.le_of_ble_eq_true h; omega
    rw [hb, Bool.false_or] at b
    simp only [List.getElem?_toArray, List.getElem?_eq_getElem hil, Bool.and_eq_true, Bool.true_and, ← Array.all_toList, List.all_eq_true, List.mem_range]
    refine ⟨fun e he => List.all_eq_true.1 a.1 e he, fun k hk => ?_⟩
    have hkl : k < l.length := by omega
    have c := allIx_get b (List.getElem?_eq_getElem hkl)
    have hb : Nat.ble n k = false := by rw [Bool.eq_false_iff]; intro h; have := Nat.le_of_ble_eq_true h; omega
    simp only [Nat.zero_add, hb, Bool.false_or] at c
    simp only [List.getElem?_eq_getElem hkl, waits_mask hm i k hil]
    revert c
    generalize l[k].dst = x
    cases x <;> exact fun c => by simpa using c
  · have hjl : j < l.length := by omega
    rw [waits_mask hm j i hjl]
    cases hi2 : acts.contains i with
    | false => simp
    | true =>
      cases hj2 : acts.contains j with
      | false => simp
      | true =>
        have := List.all_eq_true.1 (List.all_eq_true.1 h4 j (by simpa using hj2)) i (by simpa using hi2)
        simpa [hi] using this
def chainM (ms : List Nat) (l : List Oper) (acts : List Nat) (n : Nat) : Bool :=
  maskB ms l && headM ms l acts n && Region.seqB .any l.toArray (l.length - n) n (canon n (l.length - n)) && (decide (n = l.length) || (decide (n < l.length) && Region.sinkB .any l.toArray n && Region.chainB .any l.toArray n))
theorem chain_mask {l : List Oper} {acts : List Nat} {n : Nat} (ms : List Nat) (h : chainM ms l acts n = true) : chainB l.toArray acts n = true := by
  simp only [chainM, Bool.and_eq_true] at h
  obtain ⟨⟨⟨h1, h2⟩, h3⟩, h4⟩ := h
  simp only [chainB, Bool.and_eq_true, List.size_toArray]
  exact ⟨⟨chainOk_mask h1 h2, h3⟩, h4⟩
/-- What follows, behind a letter: the walk then never looks into it. -/
theorem SeqY.hide {P : Program} {ops : Array Oper} {S : World → Prop} {acts : List Nat} {Fin : Act → World → Prop} {k : Nat} {l : List Oper} {a : Act} {w : World} (h : ∀ F : Act → World → Prop, Fin = F → SeqY P ops S acts F k l a w) : SeqY P ops S acts Fin k l a w := h Fin rfl

/-! ### The walk behind a door that no reduction opens -/
section
variable {P : Program} {ops : Array Oper} {S : World → Prop} {acts : List Nat} {Fin : Act → World → Prop} {k : Nat} {o : Oper} {rest : List Oper} {a : Act} {w : World}
structure SeqW (P : Program) (ops : Array Oper) (S : World → Prop) (acts : List Nat) (Fin : Act → World → Prop) (k : Nat) (l : List Oper) (a : Act) (w : World) : Prop where
  out : SeqY P ops S acts Fin k l a w
theorem SeqW.nil (h : Fin a w) : SeqW P ops S acts Fin k [] a w := ⟨SeqY.nil h⟩
theorem SeqW.val {v : Value} (hK : acts.contains k = false) (hw : Region.wanted o (yielded ops a.tmps) = true) (h : ∀ w, S w → (execOp a.eval o).run P w = .ok (.value v) w)
    (hn : SeqW P ops S acts Fin (k + 1) rest (a.put o.dst v) w) : SeqW P ops S acts Fin k (o :: rest) a w := ⟨SeqY.val hK hw h hn.out⟩
theorem SeqW.skip (hw : Region.wanted o (yielded ops a.tmps) = false) (hn : SeqW P ops S acts Fin (k + 1) rest (a.put o.dst undef) w) : SeqW P ops S acts Fin k (o :: rest) a w := ⟨SeqY.skip hw hn.out⟩
theorem SeqW.act {d : Tmp} (hK : acts.contains k = true) (hd : o.dst = some d) (hs : decide (d < a.tmps.size) = true) (hw : Region.wanted o (yielded ops a.tmps) = true)
    (h : ∀ K' : Act → World → Prop, Hid (∀ u w', S w' → SeqW P ops S acts Fin (k + 1) rest (a.put o.dst u) w' → K' (a.put o.dst u) w') → o.wp P a w K' (fun _ _ _ => False)) : SeqW P ops S acts Fin k (o :: rest) a w :=
  ⟨SeqY.act hK hd hs hw fun K' hK' => h K' (fun u w' h1 h2 => hK'.out u w' h1 h2.out)⟩
theorem SeqW.act0 (hK : acts.contains k = true) (hd : o.dst = none) (hw : Region.wanted o (yielded ops a.tmps) = true)
    (h : ∀ K' : Act → World → Prop, Hid (∀ w', S w' → SeqW P ops S acts Fin (k + 1) rest a w' → K' a w') → o.wp P a w K' (fun _ _ _ => False)) : SeqW P ops S acts Fin k (o :: rest) a w :=
  ⟨SeqY.act0 hK hd hw fun K' hK' => h K' (fun w' h1 h2 => hK'.out w' h1 h2.out)⟩
end
end Go.Proofs.Ytaopjdjbpamhhaa
/- Proved: contracts of the table's functions Get, Put, Drop, Len. Conditions: tables in memory; keys in other blocks than the table's. -/
namespace Go.Proofs.Ytaopjdjbpamhhaa
open Go Go.RowKit
open Go.MapKept (Stamped)
open Go.ChangeMaps (setBlock)
set_option linter.unusedVariables false
set_option linter.unusedSimpArgs false

theorem BV.sl {D : Nat → Prop} {w : World} {v : Value} {l : Bts} (h : BV D w v l) : ∃ a n c, v = .slice a n c := by
  obtain ⟨a, c, h, _⟩ := h
  exact ⟨a, _, c, h⟩
theorem tdel_none : ∀ {l : List (Bts × Bts)} {k : Bts}, tget l k = none → tdel l k = l
  | [], _, _ => rfl
  | p :: l, k, h => by
    rw [tget] at h
    split at h
    · cases h
    · rename_i hn
      rw [tdel, if_neg hn, tdel_none h]
theorem TabAt.open' {seed : Int} {w : World} {t : Nat} {l : List (Bts × Bts)} {F : Nat → Prop} (h : TabAt seed w t l F) : ∃ r es clock D, TabIn seed w t r es clock l D F ∧ ∀ b, D b → F b ∧ b < w.heap.size := by
  obtain ⟨r, es, clock, D, h⟩ := h
  exact ⟨r, es, clock, fun b => D b ∧ b < w.heap.size, ⟨h.ho, h.pd.wide (fun b hb hl => ⟨hb, hl⟩) fun hh => h.pd.dr hh.1, h.ne, fun hh => h.dt hh.1, h.ft, h.fr, fun b hb _ => h.fd b hb.1 hb.2, h.ok, h.len⟩, fun b hb => ⟨h.fd b hb.1 hb.2, hb.2⟩⟩
theorem tdel_len : ∀ (l : List (Bts × Bts)) (k : Bts), (tdel l k).length ≤ l.length
  | [], _ => Nat.le_refl _
  | p :: l, k => by
    rw [tdel]
    split
    · simp
    · have := tdel_len l k; simp only [List.length_cons]; omega
theorem tdel_mem : ∀ {l : List (Bts × Bts)} {k : Bts} {p : Bts × Bts}, p ∈ tdel l k → p ∈ l
  | q :: l, k, p, h => by
    rw [tdel] at h
    split at h
    · exact List.mem_cons_of_mem _ h
    · rcases List.mem_cons.1 h with rfl | h
      · exact List.mem_cons_self
      · exact List.mem_cons_of_mem _ (tdel_mem h)
theorem tput_len : ∀ (l : List (Bts × Bts)) (k v : Bts), (tput l k v).length = if (tget l k).isSome = true then l.length else l.length + 1
  | [], k, v => by simp [tput, tget]
  | p :: l, k, v => by
    rw [tput, tget]
    split
    · simp
    · rw [List.length_cons, tput_len l k v]
      split <;> simp
theorem tput_mem : ∀ {l : List (Bts × Bts)} {k v : Bts} {p : Bts × Bts}, p ∈ tput l k v → p = (k, v) ∨ p ∈ l
  | [], k, v, p, h => .inl (by simpa [tput] using h)
  | q :: l, k, v, p, h => by
    rw [tput] at h
    split at h
    · rcases List.mem_cons.1 h with rfl | h
      · exact .inl rfl
      · exact .inr (List.mem_cons_of_mem _ h)
    · rcases List.mem_cons.1 h with rfl | h
      · exact .inr List.mem_cons_self
      · exact (tput_mem h).imp id (List.mem_cons_of_mem _)
theorem allowedK_okP {k v : Bts} (h : allowedK k v = true) : okP (k, v) := by
  simp only [allowedK, Bool.and_eq_true, decide_eq_true_eq] at h
  exact ⟨h.1.1, h.1.2, h.2⟩
theorem len_map {w : World} {r clock : Nat} {es : Array MapEntry} (hb : w.heap[r]? = some (.map es clock)) (ty : TypeId) : (Builtin.len_ #[134] ty #[.map (some r)]).run Try.prog w = .ok (.int .i64 es.size) w := by
  have hu : Try.prog.underlying 134 = some (.map 9 138) := by kernel_rfl
  simp [Builtin.len_, run_underlying hu, Go.MapKept.run_getObj_map hb, goInt, Result.andThen]
def dropE (l : List (Bts × Bts)) (k : Bts) : Int := if (tget l k).isSome = true then 0 else 3
theorem zeroEnt (w : World) : (zeroValue 138).run Try.prog w = .ok (.agg #[.slice none 0 0, .slice none 0 0, .int .u64 0, .int .u64 0]) w := Try.zeroValue138 w
/-- The elements of what a look-up gives. -/
theorem look_parts {seed : Int} {D : Nat → Prop} {w : World} {l : List (Bts × Bts)} {k : Bts} {v : Value} (h : (tget l k = none ∧ v = .agg #[.slice none 0 0, .slice none 0 0, .int .u64 0, .int .u64 0]) ∨ ∃ x kv vv, tget l k = some x ∧ v = entV seed kv vv k ∧ BV D w kv k ∧ BV D w vv x) :
    ∃ y0 y1 y2 y3, v = .agg #[y0, y1, .int .u64 y2, .int .u64 y3] ∧ (∃ a n c, y0 = .slice a n c) ∧ (∃ a n c, y1 = .slice a n c) ∧ ∀ x, tget l k = some x → BV D w y1 x := by
  rcases h with ⟨h1, rfl⟩ | ⟨x, kv, vv, h1, rfl, h2, h3⟩
  · exact ⟨_, _, _, _, rfl, ⟨_, _, _, rfl⟩, ⟨_, _, _, rfl⟩, fun x h => by rw [h1] at h; cases h⟩
  · exact ⟨kv, vv, _, _, rfl, h2.sl, h3.sl, fun y h => by rw [h1] at h; cases h; exact h3⟩

set_option maxRecDepth 100000 in
set_option maxHeartbeats 2000000 in
theorem slGet_calls {seed : Int} {w : World} {t : Nat} {l : List (Bts × Bts)} {F D1 : Nat → Prop} {kv : Value} {k : Bts} (h : TabAt seed w t l F) (h1 : BV D1 w kv k) :
    Calls Try.prog 38 #[bp t, kv] w fun e w' => ((∃ x v', tget l k = some x ∧ e = .returned (.tuple #[v', .int .i64 0]) ∧ Own 5 byteEl Noneof w.heap.size w' v' x) ∨ (tget l k = none ∧ e = .returned (.tuple #[.slice none 0 0, .int .i64 3]))) ∧ Kept Noneof w w' := by
  (
  have H := Lib.hid h
  obtain ⟨r, es, clock, D, hi, hdw⟩ := h.open'
  have HDW := Lib.hid hdw
  clear h hdw
  have HT := Lib.hid (show t < w.heap.size from block_lt hi.ho)
  have HC := Lib.hid (tabObj_cells hi.ho).2.2
  have PD := Lib.hid hi.pd
  have HI := Lib.hid hi
  have HK := Lib.hid (SV.bd byteEl_k h1)
  obtain ⟨v, hlk, hv⟩ := hi.pd.look' (P := Try.prog) (T := 134) (K := 9) (E := 138) (by kernel_rfl) Try.underlying9 zeroEnt k
  obtain ⟨y0, y1, y2, y3, rfl, ⟨b1, b2, b3, rfl⟩, ⟨b4, b5, b6, rfl⟩, hy⟩ := look_parts hv
  have LK := Lib.hid hlk
  have HY := Lib.hid hy
  obtain ⟨a1, n1, rfl, _⟩ := h1
  clear hi hlk hv hy
  generalize hD1 : (fun b => D1 b ∧ b < w.heap.size) = D2 at HK
  have HD0 := Lib.hid (show ∀ b, D2 b → b < w.heap.size from fun b h => by rw [← hD1] at h; exact h.2)
  have HDF := Lib.hid (show ∀ b, D2 b → D1 b ∧ b < w.heap.size from fun b h => by rw [← hD1] at h; exact h)
  clear hD1)
  go_enter Try.func38, Try.ntmps38
  go_wp2_with fail
  refine (slnone_calls H.out).mono ?_
  rintro e w ⟨rfl, rfl⟩
  go_wp2
  (
  refine wp_region_chain 13 [10, 11] (fun w' => w'.cell? ⟨t, 2, none⟩ = some (.map (some r)) ∧ BV D2 w' (.slice a1 k.length n1) k ∧ w'.heap[r]? = some (.map es clock)) (by kernel_rfl) (by kernel_rfl) ?_ ?_
  · exact ⟨HC.out, HK.out.at rfl, PD.out.hm⟩
  refine SeqW.out ?_
  simp only [List.take_succ_cons, List.take_zero, List.drop_succ_cons, List.drop_zero]
  have kd := (Kept.refl Noneof w).drew
  have HK0 := Lib.hid (HK.out.still' kd)
  have PD0 := Lib.hid (PD.out.kept kd (fun _ _ _ h => h) fun h => h)
  have c2 : w.drew.cell? ⟨t, 2, none⟩ = some (.map (some r)) := HC.out
  have K0 := Lib.hid kd
  generalize w.drew = w0 at *
  clear kd
  iterate 3 (refine SeqW.val (v := ?_) (by rfl) (by rfl) (fun wx hSw => ?_) ?_; rotate_left; (focus ((try dsimp only at hSw); go_simp; (try with_reducible rfl))); (try simp only [Act.put, List.setIfInBounds_toArray, List.set_cons_zero, List.set_cons_succ]))
  (refine SeqW.val (v := ?_) (by rfl) (by rfl) (fun wx hSw => ?_) ?_; rotate_left; (focus ((try dsimp only at hSw); go_simp; (try with_reducible rfl))); (try simp only [Act.put, List.setIfInBounds_toArray, List.set_cons_zero, List.set_cons_succ]))
  (refine SeqW.val (v := ?_) (by rfl) (by rfl) (fun wx hSw => ?_) ?_; rotate_left; (focus ((try dsimp only at hSw); go_simp; (try with_reducible rfl))); (try simp only [Act.put, List.setIfInBounds_toArray, List.set_cons_zero, List.set_cons_succ]))
  (refine SeqW.val (v := ?_) (by rfl) (by rfl) (fun wx hSw => ?_) ?_; rotate_left; (focus ((try dsimp only at hSw); have hcv := conv_str (P := Try.prog) (src := 31) (dst := 9) Try.underlying31 Try.underlying5 Try.underlying9 hSw.2.1; go_simp; (try with_reducible rfl))); (try simp only [Act.put, List.setIfInBounds_toArray, List.set_cons_zero, List.set_cons_succ]))
  (refine SeqW.val (v := ?_) (by rfl) (by rfl) (fun wx hSw => ?_) ?_; rotate_left; (focus ((try dsimp only at hSw); have hlk := LK.out wx hSw.2.2; go_simp; (try with_reducible rfl))); (try simp only [Act.put, List.setIfInBounds_toArray, List.set_cons_zero, List.set_cons_succ]))
  iterate 3 (refine SeqW.val (v := ?_) (by rfl) (by rfl) (fun wx hSw => ?_) ?_; rotate_left; (focus ((try dsimp only at hSw); go_simp; (try with_reducible rfl))); (try simp only [Act.put, List.setIfInBounds_toArray, List.set_cons_zero, List.set_cons_succ]))
  refine SeqW.act (by rfl) rfl (by rfl) (by rfl) (fun K hK => ?_)
  go_simp
  have G := heap_alloc_new w0 (.cells #[.slice none 0 0, .slice none 0 0, .int .u64 0, .int .u64 0] 138)
  have ka := (Kept.refl Noneof w0).alloc (.cells #[.slice none 0 0, .slice none 0 0, .int .u64 0, .int .u64 0] 138)
  refine hK.out _ _ ⟨ka.cell (fun h => h) c2, HK0.out.still' ka, ka.obj (fun h => h) PD0.out.hm⟩ ?_
  clear K hK
  (try simp only [Act.put, List.setIfInBounds_toArray, List.set_cons_zero, List.set_cons_succ])
  have hb := block_lt PD0.out.hm
  generalize w0.alloc (.cells #[.slice none 0 0, .slice none 0 0, .int .u64 0, .int .u64 0] 138) = w1 at *
  replace c2 := ka.cell (fun h => h) c2
  have PD1 := Lib.hid (PD0.out.kept ka (fun _ _ _ h => h) fun h => h)
  have HK1 := Lib.hid (HK0.out.still' ka)
  have K1 := Lib.hid (K0.out.tr ka)
  obtain ⟨g0, g1, g2, g3, gf⟩ := entObj_cells G
  replace G := Lib.hid G
  have hz0 : w.heap.size ≤ w0.heap.size := K0.out.size
  have ht := HT.out
  refine SeqW.act0 (by rfl) rfl (by rfl) (fun K hK => ?_)
  go_simp
  have KT := Lib.hid (((((Kept.refl (fun b => b = w0.heap.size) w1).setCell (p := ⟨w0.heap.size, 0, none⟩) (.inl rfl) (.slice b1 b2 b3)).setCell (p := ⟨w0.heap.size, 1, none⟩) (.inl rfl) (.slice b4 b5 b6)).setCell (p := ⟨w0.heap.size, 2, none⟩) (.inl rfl) (.int .u64 y2)).setCell (p := ⟨w0.heap.size, 3, none⟩) (.inl rfl) (.int .u64 y3))
  have G2 := Lib.hid (setCell_obj (setCell_obj (setCell_obj (setCell_obj G.out (.slice b1 b2 b3) (j := 0)) (.slice b4 b5 b6) (j := 1)) (.int .u64 y2) (j := 2)) (.int .u64 y3) (j := 3))
  have hD0 := HD0.out
  refine hK.out _ ⟨KT.out.cell (p := ⟨t, 2, none⟩) (by simp only; omega) c2, HK1.out.kept byteEl_k KT.out (fun b h _ e => by have := hD0 b h; omega), KT.out.obj (by omega) PD1.out.hm⟩ ?_)
  (
  clear K hK
  (try simp only [Act.put, List.setIfInBounds_toArray, List.set_cons_zero, List.set_cons_succ])
  generalize ((((w1.setCell _ _).setCell _ _).setCell _ _).setCell _ _) = w2 at *
  have hb0 : ¬ w.heap.size = w0.heap.size ∨ w.heap.size = w0.heap.size := by omega
  have K2 := Lib.hid (show Kept Noneof w w2 from K1.out.trans KT.out fun b e => .inr (by omega))
  obtain ⟨e0, e1, e2, e3, ef⟩ := entObj_cells G2.out
  (refine SeqW.val (v := ?_) (by rfl) (by rfl) (fun wx hSw => ?_) ?_; rotate_left; (focus ((try dsimp only at hSw); go_simp; (try with_reducible rfl))); (try simp only [Act.put, List.setIfInBounds_toArray, List.set_cons_zero, List.set_cons_succ]))
  refine SeqW.nil ?_
  clear g0 g1 g2 g3 gf c2 PD0 HK0 K0 G)
  cases hg : tget l k with
  | none =>
    go_wp2
    go_ret2
    exact ⟨.inr ⟨hg, rfl⟩, K2.out⟩
  | some x =>
    have HX := Lib.hid ((HY.out x hg).still' K2.out)
    go_wp2_with fail
    refine (byClone_calls HX.out).mono ?_
    rintro e w3 ⟨v3, rfl, o3, k3⟩
    have O3 := Lib.hid o3
    have K3 := Lib.hid (K2.out.tr k3)
    have s2 := K2.out.size
    obtain ⟨q1, q2, q3, rfl⟩ := o3.slice'
    clear o3 k3
    go_wp2
    go_ret2
    exact ⟨.inl ⟨x, _, hg, rfl, O3.out.base s2⟩, K3.out⟩

set_option maxRecDepth 100000 in
set_option maxHeartbeats 2000000 in
theorem slDrop_calls {seed : Int} {w : World} {t : Nat} {l : List (Bts × Bts)} {F D1 : Nat → Prop} {kv : Value} {k : Bts} (h : TabAt seed w t l F) (h1 : BV D1 w kv k) (hDF : ∀ b, D1 b → ¬ F b) :
    Calls Try.prog 37 #[bp t, kv] w fun e w' => e = .returned (.int .i64 (dropE l k)) ∧ TabAt seed w' t (tdel l k) F ∧ Kept F w w' := by
  (
  have H := Lib.hid h
  obtain ⟨r, es, clock, D, hi, hdw⟩ := h.open'
  have HDW := Lib.hid hdw
  clear h hdw
  have HT := Lib.hid (show t < w.heap.size from block_lt hi.ho)
  have HC := Lib.hid (tabObj_cells hi.ho).2.2
  have PD := Lib.hid hi.pd
  have HI := Lib.hid hi
  have HK := Lib.hid (SV.bd byteEl_k h1)
  obtain ⟨v, hlk, hv⟩ := hi.pd.look' (P := Try.prog) (T := 134) (K := 9) (E := 138) (by kernel_rfl) Try.underlying9 zeroEnt k
  obtain ⟨y0, y1, y2, y3, rfl, ⟨b1, b2, b3, rfl⟩, ⟨b4, b5, b6, rfl⟩, hy⟩ := look_parts hv
  have LK := Lib.hid hlk
  have HY := Lib.hid hy
  obtain ⟨a1, n1, rfl, _⟩ := h1
  clear hi hlk hv hy
  generalize hD1 : (fun b => D1 b ∧ b < w.heap.size) = D2 at HK
  have HD0 := Lib.hid (show ∀ b, D2 b → b < w.heap.size from fun b h => by rw [← hD1] at h; exact h.2)
  have HDF := Lib.hid (show ∀ b, D2 b → D1 b ∧ b < w.heap.size from fun b h => by rw [← hD1] at h; exact h)
  clear hD1)
  go_enter Try.func37, Try.ntmps37
  go_wp2_with fail
  refine (slnone_calls H.out).mono ?_
  rintro e w ⟨rfl, rfl⟩
  go_wp2
  (
  refine wp_region_chain 13 [10, 11] (fun w' => w'.cell? ⟨t, 2, none⟩ = some (.map (some r)) ∧ BV D2 w' (.slice a1 k.length n1) k ∧ w'.heap[r]? = some (.map es clock)) (by kernel_rfl) (by kernel_rfl) ?_ ?_
  · exact ⟨HC.out, HK.out.at rfl, PD.out.hm⟩
  refine SeqW.out ?_
  simp only [List.take_succ_cons, List.take_zero, List.drop_succ_cons, List.drop_zero]
  have kd := (Kept.refl Noneof w).drew
  have HK0 := Lib.hid (HK.out.still' kd)
  have PD0 := Lib.hid (PD.out.kept kd (fun _ _ _ h => h) fun h => h)
  have c2 : w.drew.cell? ⟨t, 2, none⟩ = some (.map (some r)) := HC.out
  have K0 := Lib.hid kd
  generalize w.drew = w0 at *
  clear kd
  iterate 3 (refine SeqW.val (v := ?_) (by rfl) (by rfl) (fun wx hSw => ?_) ?_; rotate_left; (focus ((try dsimp only at hSw); go_simp; (try with_reducible rfl))); (try simp only [Act.put, List.setIfInBounds_toArray, List.set_cons_zero, List.set_cons_succ]))
  (refine SeqW.val (v := ?_) (by rfl) (by rfl) (fun wx hSw => ?_) ?_; rotate_left; (focus ((try dsimp only at hSw); go_simp; (try with_reducible rfl))); (try simp only [Act.put, List.setIfInBounds_toArray, List.set_cons_zero, List.set_cons_succ]))
  (refine SeqW.val (v := ?_) (by rfl) (by rfl) (fun wx hSw => ?_) ?_; rotate_left; (focus ((try dsimp only at hSw); go_simp; (try with_reducible rfl))); (try simp only [Act.put, List.setIfInBounds_toArray, List.set_cons_zero, List.set_cons_succ]))
  (refine SeqW.val (v := ?_) (by rfl) (by rfl) (fun wx hSw => ?_) ?_; rotate_left; (focus ((try dsimp only at hSw); have hcv := conv_str (P := Try.prog) (src := 31) (dst := 9) Try.underlying31 Try.underlying5 Try.underlying9 hSw.2.1; go_simp; (try with_reducible rfl))); (try simp only [Act.put, List.setIfInBounds_toArray, List.set_cons_zero, List.set_cons_succ]))
  (refine SeqW.val (v := ?_) (by rfl) (by rfl) (fun wx hSw => ?_) ?_; rotate_left; (focus ((try dsimp only at hSw); have hlk := LK.out wx hSw.2.2; go_simp; (try with_reducible rfl))); (try simp only [Act.put, List.setIfInBounds_toArray, List.set_cons_zero, List.set_cons_succ]))
  iterate 3 (refine SeqW.val (v := ?_) (by rfl) (by rfl) (fun wx hSw => ?_) ?_; rotate_left; (focus ((try dsimp only at hSw); go_simp; (try with_reducible rfl))); (try simp only [Act.put, List.setIfInBounds_toArray, List.set_cons_zero, List.set_cons_succ]))
  refine SeqW.act (by rfl) rfl (by rfl) (by rfl) (fun K hK => ?_)
  go_simp
  have G := heap_alloc_new w0 (.cells #[.slice none 0 0, .slice none 0 0, .int .u64 0, .int .u64 0] 138)
  have ka := (Kept.refl Noneof w0).alloc (.cells #[.slice none 0 0, .slice none 0 0, .int .u64 0, .int .u64 0] 138)
  refine hK.out _ _ ⟨ka.cell (fun h => h) c2, HK0.out.still' ka, ka.obj (fun h => h) PD0.out.hm⟩ ?_
  clear K hK
  (try simp only [Act.put, List.setIfInBounds_toArray, List.set_cons_zero, List.set_cons_succ])
  have hb := block_lt PD0.out.hm
  generalize w0.alloc (.cells #[.slice none 0 0, .slice none 0 0, .int .u64 0, .int .u64 0] 138) = w1 at *
  replace c2 := ka.cell (fun h => h) c2
  have PD1 := Lib.hid (PD0.out.kept ka (fun _ _ _ h => h) fun h => h)
  have HK1 := Lib.hid (HK0.out.still' ka)
  have K1 := Lib.hid (K0.out.tr ka)
  obtain ⟨g0, g1, g2, g3, gf⟩ := entObj_cells G
  replace G := Lib.hid G
  have hz0 : w.heap.size ≤ w0.heap.size := K0.out.size
  have ht := HT.out
  refine SeqW.act0 (by rfl) rfl (by rfl) (fun K hK => ?_)
  go_simp
  have KT := Lib.hid (((((Kept.refl (fun b => b = w0.heap.size) w1).setCell (p := ⟨w0.heap.size, 0, none⟩) (.inl rfl) (.slice b1 b2 b3)).setCell (p := ⟨w0.heap.size, 1, none⟩) (.inl rfl) (.slice b4 b5 b6)).setCell (p := ⟨w0.heap.size, 2, none⟩) (.inl rfl) (.int .u64 y2)).setCell (p := ⟨w0.heap.size, 3, none⟩) (.inl rfl) (.int .u64 y3))
  have G2 := Lib.hid (setCell_obj (setCell_obj (setCell_obj (setCell_obj G.out (.slice b1 b2 b3) (j := 0)) (.slice b4 b5 b6) (j := 1)) (.int .u64 y2) (j := 2)) (.int .u64 y3) (j := 3))
  have hD0 := HD0.out
  refine hK.out _ ⟨KT.out.cell (p := ⟨t, 2, none⟩) (by simp only; omega) c2, HK1.out.kept byteEl_k KT.out (fun b h _ e => by have := hD0 b h; omega), KT.out.obj (by omega) PD1.out.hm⟩ ?_)
  (
  clear K hK
  (try simp only [Act.put, List.setIfInBounds_toArray, List.set_cons_zero, List.set_cons_succ])
  generalize ((((w1.setCell _ _).setCell _ _).setCell _ _).setCell _ _) = w2 at *
  have hb0 : ¬ w.heap.size = w0.heap.size ∨ w.heap.size = w0.heap.size := by omega
  have K2 := Lib.hid (show Kept Noneof w w2 from K1.out.trans KT.out fun b e => .inr (by omega))
  obtain ⟨e0, e1, e2, e3, ef⟩ := entObj_cells G2.out
  (refine SeqW.val (v := ?_) (by rfl) (by rfl) (fun wx hSw => ?_) ?_; rotate_left; (focus ((try dsimp only at hSw); go_simp; (try with_reducible rfl))); (try simp only [Act.put, List.setIfInBounds_toArray, List.set_cons_zero, List.set_cons_succ]))
  refine SeqW.nil ?_
  clear g0 g1 g2 g3 gf c2 PD0 HK0 K0 G)
  have PD2 := Lib.hid (PD.out.kept K2.out (fun _ _ _ h => h) fun h => h)
  replace HK := Lib.hid (HK.out.still' K2.out)
  have cz : w2.cell? ⟨t, 2, none⟩ = some (.map (some r)) := K2.out.cell (fun h => h) HC.out
  cases hg : (tget l k).isSome
  · go_wp2
    go_ret
    refine ⟨ret_int (by simp [dropE, hg]), ?_, K2.out.mono fun _ h => h.elim⟩
    rw [tdel_none (by simpa using hg)]
    exact H.out.still K2.out
  · go_wp2
    refine wp_region_chain 7 [6] (fun w' => w'.cell? ⟨t, 2, none⟩ = some (.map (some r)) ∧ BV D2 w' (.slice a1 k.length n1) k) (by kernel_rfl) (by kernel_rfl) ?_ ?_
    · exact ⟨cz, HK.out.at rfl⟩
    refine SeqW.out ?_
    simp only [List.take_succ_cons, List.take_zero, List.drop_succ_cons, List.drop_zero]
    have kd := (Kept.refl Noneof w2).drew
    replace PD2 := Lib.hid (PD2.out.kept kd (fun _ _ _ h => h) fun h => h)
    replace HK := Lib.hid (HK.out.still' kd)
    replace cz := kd.cell (fun h => h) cz
    have K3 := Lib.hid (K2.out.tr kd)
    generalize w2.drew = w3 at *
    clear kd
    iterate 5 (refine SeqW.val (v := ?_) (by rfl) (by rfl) (fun wx hSw => ?_) ?_; rotate_left; (focus ((try dsimp only at hSw); go_simp; (try with_reducible rfl))); (try simp only [Act.put, List.setIfInBounds_toArray, List.set_cons_zero, List.set_cons_succ]))
    (refine SeqW.val (v := ?_) (by rfl) (by rfl) (fun wx hSw => ?_) ?_; rotate_left; (focus ((try dsimp only at hSw); have hcv := conv_str (P := Try.prog) (src := 31) (dst := 9) Try.underlying31 Try.underlying5 Try.underlying9 hSw.2; go_simp; (try with_reducible rfl))); (try simp only [Act.put, List.setIfInBounds_toArray, List.set_cons_zero, List.set_cons_succ]))
    obtain ⟨es', hrun, hp⟩ := PD2.out.take (P := Try.prog) (T := 134) (K := 9) (E := 138) (by kernel_rfl) Try.underlying9 k 0
    have HP := Lib.hid hp
    have KS := Lib.hid (setBlock_kept w3 r (.map es' clock))
    refine SeqW.act0 (by rfl) rfl (by rfl) (fun K hK => ?_)
    go_simp
    have hne := HI.out.ne
    refine hK.out _ ⟨KS.out.cell (p := ⟨t, 2, none⟩) hne cz, HK.out.kept byteEl_k KS.out fun b h _ e => hDF b (HDF.out b h).1 (e ▸ HI.out.fr)⟩ ?_
    clear K hK
    (try simp only [Act.put, List.setIfInBounds_toArray, List.set_cons_zero, List.set_cons_succ])
    refine SeqW.nil ?_
    generalize setBlock w3 r (.map es' clock) = w4 at *
    go_wp2
    go_ret
    refine ⟨ret_int (by simp [dropE, hg]), ⟨r, es', clock, D, KS.out.obj hne (K3.out.obj (fun h => h) HI.out.ho), HP.out, hne, HI.out.dt, HI.out.ft, HI.out.fr, fun b hb _ => (HDW.out b hb).1, fun p hp => HI.out.ok p (tdel_mem hp), Nat.le_trans (tdel_len l k) HI.out.len⟩, (K3.out.mono (T := F) fun _ h => h.elim).trans KS.out fun b e => .inl (e ▸ HI.out.fr)⟩
set_option maxRecDepth 100000 in
theorem slLen_calls {seed : Int} {w : World} {t : Nat} {l : List (Bts × Bts)} {F : Nat → Prop} (h : TabAt seed w t l F) :
    Calls Try.prog 28 #[bp t] w fun e w' => e = .returned (.int .i64 l.length) ∧ w' = w := by
  have H := Lib.hid h
  obtain ⟨r, es, clock, D, hi⟩ := h
  have c2 := (tabObj_cells hi.ho).2.2
  have hsz := hi.pd.size
  have hm := hi.pd.hm
  have hln := fun ty => len_map hm ty
  clear hi
  go_enter Try.func28, Try.ntmps28
  go_wp2_with fail
  refine (slnone_calls H.out).mono ?_
  rintro e w ⟨rfl, rfl⟩
  go_wp2
  go_ret
  exact ⟨rfl, rfl⟩

/-! ### Put -/
set_option maxRecDepth 100000 in
set_option maxHeartbeats 4000000 in
theorem slPut_calls {seed : Int} {w : World} {t : Nat} {l : List (Bts × Bts)} {F D1 D3 : Nat → Prop} {kv vv : Value} {k v : Bts} (h : TabAt seed w t l F) (h1 : BV D1 w kv k) (h2 : BV D3 w vv v) (hDF : ∀ b, D1 b → ¬ F b) (hal : allowedK k v = true) (hroom : (tget l k).isSome = true ∨ l.length < 100000) :
    Calls Try.prog 25 #[bp t, kv, vv] w fun e w' => e = .returned (.int .i64 0) ∧ ∃ F', TabAt seed w' t (tput l k v) F' ∧ (∀ b, F' b → F b ∨ w.heap.size ≤ b) ∧ Kept F w w' := by
  have HV := Lib.hid h2
  obtain ⟨a2, n2, rfl, _⟩ := h2
  (
  have H := Lib.hid h
  obtain ⟨r, es, clock, D, hi, hdw⟩ := h.open'
  have HDW := Lib.hid hdw
  clear h hdw
  have HT := Lib.hid (show t < w.heap.size from block_lt hi.ho)
  have HC := Lib.hid (tabObj_cells hi.ho).2.2
  have PD := Lib.hid hi.pd
  have HI := Lib.hid hi
  have HK := Lib.hid (SV.bd byteEl_k h1)
  obtain ⟨v, hlk, hv⟩ := hi.pd.look' (P := Try.prog) (T := 134) (K := 9) (E := 138) (by kernel_rfl) Try.underlying9 zeroEnt k
  obtain ⟨y0, y1, y2, y3, rfl, ⟨b1, b2, b3, rfl⟩, ⟨b4, b5, b6, rfl⟩, hy⟩ := look_parts hv
  have LK := Lib.hid hlk
  have HY := Lib.hid hy
  obtain ⟨a1, n1, rfl, _⟩ := h1
  clear hi hlk hv hy
  generalize hD1 : (fun b => D1 b ∧ b < w.heap.size) = D2 at HK
  have HD0 := Lib.hid (show ∀ b, D2 b → b < w.heap.size from fun b h => by rw [← hD1] at h; exact h.2)
  have HDF := Lib.hid (show ∀ b, D2 b → D1 b ∧ b < w.heap.size from fun b h => by rw [← hD1] at h; exact h)
  clear hD1)
  have AL := Lib.hid hal
  have RM := Lib.hid hroom
  clear hal hroom
  go_enter Try.func25, Try.ntmps25
  go_wp2_with fail
  refine (slnone_calls H.out).mono ?_
  rintro e w ⟨rfl, rfl⟩
  go_wp2_with fail
  refine (slallowed_calls HK.out HV.out).mono ?_
  rintro e w ⟨rfl, rfl⟩
  rw [AL.out]
  go_wp2
  (
  refine wp_region_chain 13 [10, 11] (fun w' => w'.cell? ⟨t, 2, none⟩ = some (.map (some r)) ∧ BV D2 w' (.slice a1 k.length n1) k ∧ w'.heap[r]? = some (.map es clock)) (by kernel_rfl) (by kernel_rfl) ?_ ?_
  · exact ⟨HC.out, HK.out.at rfl, PD.out.hm⟩
  refine SeqW.out ?_
  simp only [List.take_succ_cons, List.take_zero, List.drop_succ_cons, List.drop_zero]
  have kd := (Kept.refl Noneof w).drew
  have HK0 := Lib.hid (HK.out.still' kd)
  have PD0 := Lib.hid (PD.out.kept kd (fun _ _ _ h => h) fun h => h)
  have c2 : w.drew.cell? ⟨t, 2, none⟩ = some (.map (some r)) := HC.out
  have K0 := Lib.hid kd
  generalize w.drew = w0 at *
  clear kd
  iterate 3 (refine SeqW.val (v := ?_) (by rfl) (by rfl) (fun wx hSw => ?_) ?_; rotate_left; (focus ((try dsimp only at hSw); go_simp; (try with_reducible rfl))); (try simp only [Act.put, List.setIfInBounds_toArray, List.set_cons_zero, List.set_cons_succ]))
  (refine SeqW.val (v := ?_) (by rfl) (by rfl) (fun wx hSw => ?_) ?_; rotate_left; (focus ((try dsimp only at hSw); go_simp; (try with_reducible rfl))); (try simp only [Act.put, List.setIfInBounds_toArray, List.set_cons_zero, List.set_cons_succ]))
  (refine SeqW.val (v := ?_) (by rfl) (by rfl) (fun wx hSw => ?_) ?_; rotate_left; (focus ((try dsimp only at hSw); go_simp; (try with_reducible rfl))); (try simp only [Act.put, List.setIfInBounds_toArray, List.set_cons_zero, List.set_cons_succ]))
  (refine SeqW.val (v := ?_) (by rfl) (by rfl) (fun wx hSw => ?_) ?_; rotate_left; (focus ((try dsimp only at hSw); have hcv := conv_str (P := Try.prog) (src := 31) (dst := 9) Try.underlying31 Try.underlying5 Try.underlying9 hSw.2.1; go_simp; (try with_reducible rfl))); (try simp only [Act.put, List.setIfInBounds_toArray, List.set_cons_zero, List.set_cons_succ]))
  (refine SeqW.val (v := ?_) (by rfl) (by rfl) (fun wx hSw => ?_) ?_; rotate_left; (focus ((try dsimp only at hSw); have hlk := LK.out wx hSw.2.2; go_simp; (try with_reducible rfl))); (try simp only [Act.put, List.setIfInBounds_toArray, List.set_cons_zero, List.set_cons_succ]))
  iterate 3 (refine SeqW.val (v := ?_) (by rfl) (by rfl) (fun wx hSw => ?_) ?_; rotate_left; (focus ((try dsimp only at hSw); go_simp; (try with_reducible rfl))); (try simp only [Act.put, List.setIfInBounds_toArray, List.set_cons_zero, List.set_cons_succ]))
  refine SeqW.act (by rfl) rfl (by rfl) (by rfl) (fun K hK => ?_)
  go_simp
  have G := heap_alloc_new w0 (.cells #[.slice none 0 0, .slice none 0 0, .int .u64 0, .int .u64 0] 138)
  have ka := (Kept.refl Noneof w0).alloc (.cells #[.slice none 0 0, .slice none 0 0, .int .u64 0, .int .u64 0] 138)
  refine hK.out _ _ ⟨ka.cell (fun h => h) c2, HK0.out.still' ka, ka.obj (fun h => h) PD0.out.hm⟩ ?_
  clear K hK
  (try simp only [Act.put, List.setIfInBounds_toArray, List.set_cons_zero, List.set_cons_succ])
  have hb := block_lt PD0.out.hm
  generalize w0.alloc (.cells #[.slice none 0 0, .slice none 0 0, .int .u64 0, .int .u64 0] 138) = w1 at *
  replace c2 := ka.cell (fun h => h) c2
  have PD1 := Lib.hid (PD0.out.kept ka (fun _ _ _ h => h) fun h => h)
  have HK1 := Lib.hid (HK0.out.still' ka)
  have K1 := Lib.hid (K0.out.tr ka)
  obtain ⟨g0, g1, g2, g3, gf⟩ := entObj_cells G
  replace G := Lib.hid G
  have hz0 : w.heap.size ≤ w0.heap.size := K0.out.size
  have ht := HT.out
  refine SeqW.act0 (by rfl) rfl (by rfl) (fun K hK => ?_)
  go_simp
  have KT := Lib.hid (((((Kept.refl (fun b => b = w0.heap.size) w1).setCell (p := ⟨w0.heap.size, 0, none⟩) (.inl rfl) (.slice b1 b2 b3)).setCell (p := ⟨w0.heap.size, 1, none⟩) (.inl rfl) (.slice b4 b5 b6)).setCell (p := ⟨w0.heap.size, 2, none⟩) (.inl rfl) (.int .u64 y2)).setCell (p := ⟨w0.heap.size, 3, none⟩) (.inl rfl) (.int .u64 y3))
  have G2 := Lib.hid (setCell_obj (setCell_obj (setCell_obj (setCell_obj G.out (.slice b1 b2 b3) (j := 0)) (.slice b4 b5 b6) (j := 1)) (.int .u64 y2) (j := 2)) (.int .u64 y3) (j := 3))
  have hD0 := HD0.out
  refine hK.out _ ⟨KT.out.cell (p := ⟨t, 2, none⟩) (by simp only; omega) c2, HK1.out.kept byteEl_k KT.out (fun b h _ e => by have := hD0 b h; omega), KT.out.obj (by omega) PD1.out.hm⟩ ?_)
  (
  clear K hK
  (try simp only [Act.put, List.setIfInBounds_toArray, List.set_cons_zero, List.set_cons_succ])
  generalize ((((w1.setCell _ _).setCell _ _).setCell _ _).setCell _ _) = w2 at *
  have hb0 : ¬ w.heap.size = w0.heap.size ∨ w.heap.size = w0.heap.size := by omega
  have K2 := Lib.hid (show Kept Noneof w w2 from K1.out.trans KT.out fun b e => .inr (by omega))
  obtain ⟨e0, e1, e2, e3, ef⟩ := entObj_cells G2.out
  (refine SeqW.val (v := ?_) (by rfl) (by rfl) (fun wx hSw => ?_) ?_; rotate_left; (focus ((try dsimp only at hSw); go_simp; (try with_reducible rfl))); (try simp only [Act.put, List.setIfInBounds_toArray, List.set_cons_zero, List.set_cons_succ]))
  refine SeqW.nil ?_
  clear g0 g1 g2 g3 gf c2 PD0 HK0 K0 G)
  have PD2 := Lib.hid (PD.out.kept K2.out (fun _ _ _ h => h) fun h => h)
  replace HK := Lib.hid (HK.out.still' K2.out)
  replace HV := Lib.hid (HV.out.still' K2.out)
  have cz : w2.cell? ⟨t, 2, none⟩ = some (.map (some r)) := K2.out.cell (fun h => h) HC.out
  have cy : w2.cell? ⟨t, 1, none⟩ = some (.int .u64 seed) := K2.out.cell (fun h => h) (tabObj_cells HI.out.ho).2.1
  have hm2 := PD2.out.hm
  have hln := fun ty => len_map hm2 ty
  clear HC ht e0 e1 e2 e3 ef
  cases hg : (tget l k).isSome
  · have hlim : decide ((100000 : Int) ≤ (es.size : Int)) = false := decide_eq_false (by
      have hr := RM.out
      rw [hg] at hr
      have := PD2.out.size
      rcases hr with hr | hr
      · cases hr
      · omega)
    go_wp2_with fail
    clear hlim hm2 hln
    (
  refine wp_region_chain 11 [9, 10] (fun w' => w'.cell? ⟨t, 2, none⟩ = some (.map (some r)) ∧ BV D2 w' (.slice a1 k.length n1) k) (by kernel_rfl) (by kernel_rfl) ?_ ?_
  · exact ⟨cz, HK.out.at rfl⟩
  refine SeqW.out ?_
  simp only [List.take_succ_cons, List.take_zero, List.drop_succ_cons, List.drop_zero]
  have kd := (Kept.refl Noneof w2).drew
  replace PD2 := Lib.hid (PD2.out.kept kd (fun _ _ _ h => h) fun h => h)
  replace HK := Lib.hid (HK.out.still' kd)
  replace HV := Lib.hid (HV.out.still' kd)
  replace cz := kd.cell (fun h => h) cz
  replace cy := kd.cell (fun h => h) cy
  have K3 := Lib.hid (K2.out.tr kd)
  generalize w2.drew = w3 at *
  clear kd
  iterate 5 (refine SeqW.val (v := ?_) (by rfl) (by rfl) (fun wx hSw => ?_) ?_; rotate_left; (focus ((try dsimp only at hSw); go_simp; (try with_reducible rfl))); (try simp only [Act.put, List.setIfInBounds_toArray, List.set_cons_zero, List.set_cons_succ]))
  (refine SeqW.val (v := ?_) (by rfl) (by rfl) (fun wx hSw => ?_) ?_; rotate_left; (focus ((try dsimp only at hSw); have hcv := conv_str (P := Try.prog) (src := 31) (dst := 9) Try.underlying31 Try.underlying5 Try.underlying9 hSw.2; go_simp; (try with_reducible rfl))); (try simp only [Act.put, List.setIfInBounds_toArray, List.set_cons_zero, List.set_cons_succ]))
  iterate 3 (refine SeqW.val (v := ?_) (by rfl) (by rfl) (fun wx hSw => ?_) ?_; rotate_left; (focus ((try dsimp only at hSw); go_simp; (try with_reducible rfl))); (try simp only [Act.put, List.setIfInBounds_toArray, List.set_cons_zero, List.set_cons_succ]))
  refine SeqW.act (by rfl) rfl (by rfl) (by rfl) (fun K hK => ?_)
  go_simp
  refine (slentry_calls cy HK.out HV.out).mono ?_
  rintro e w4 ⟨kx, vx, rfl, ok, ov, k4⟩
  refine hK.out _ _ ⟨k4.cell (fun h => h) cz, HK.out.still' k4⟩ ?_
  replace cz := k4.cell (fun h => h) cz
  replace HK := Lib.hid (HK.out.still' k4)
  have K4 := Lib.hid (K3.out.tr k4)
  have hlt := block_lt PD2.out.hm
  have s3 := K3.out.size
  have PD4 := Lib.hid (show PadIn seed w4 r es clock l (fun b => D b ∨ w3.heap.size ≤ b) from (PD2.out.kept k4 (fun _ _ _ h => h) fun h => h).wide (fun b h _ => .inl h) fun h => h.elim PD2.out.dr fun h => by omega)
  have OK := Lib.hid (show BV (fun b => D b ∨ w3.heap.size ≤ b) w4 kx k from ok.sv.wide byteEl_k fun b h _ => h.elim (fun h => h.elim) .inr)
  have OV := Lib.hid (show BV (fun b => D b ∨ w3.heap.size ≤ b) w4 vx v from ov.sv.wide byteEl_k fun b h _ => h.elim (fun h => h.elim) .inr)
  obtain ⟨k1, k2, k3, rfl⟩ := ok.slice'
  obtain ⟨v1, v2, v3, rfl⟩ := ov.slice'
  obtain ⟨es', clock', hrun, hp⟩ := PD4.out.store (P := Try.prog) (T := 134) (K := 9) (E := 138) (by kernel_rfl) Try.underlying9 OK.out OV.out
  have HP := Lib.hid hp
  have KS := Lib.hid (setBlock_kept w4 r (.map es' clock'))
  clear K hK k4 ok ov hp
  (try simp only [Act.put, List.setIfInBounds_toArray, List.set_cons_zero, List.set_cons_succ])
  refine SeqW.act0 (by rfl) rfl (by rfl) (fun K hK => ?_)
  go_simp
  have hne := HI.out.ne
  refine hK.out _ ⟨KS.out.cell (p := ⟨t, 2, none⟩) hne cz, HK.out.kept byteEl_k KS.out fun b h _ e => hDF b (HDF.out b h).1 (e ▸ HI.out.fr)⟩ ?_
  clear K hK
  (try simp only [Act.put, List.setIfInBounds_toArray, List.set_cons_zero, List.set_cons_succ])
  refine SeqW.nil ?_
  generalize setBlock w4 r (.map es' clock') = w5 at *
  have K5 := Lib.hid (show Kept F w w5 from (K4.out.mono (T := F) fun _ h => h.elim).trans KS.out fun b e => .inl (e ▸ HI.out.fr))
  have s5 := KS.out.size
  go_wp2
  go_ret
  refine ⟨rfl, fun b => F b ∨ w.heap.size ≤ b, ⟨r, es', clock', fun b => D b ∨ w3.heap.size ≤ b, KS.out.obj hne (K4.out.obj (fun h => h) HI.out.ho), HP.out, hne, fun h => h.elim HI.out.dt fun h => by have := HT.out; omega, .inl HI.out.ft, .inl HI.out.fr, fun b hb _ => hb.elim (fun h => .inl (HDW.out b h).1) fun h => .inr (by omega), fun p hp => (tput_mem hp).elim (fun e => by rw [e]; exact allowedK_okP AL.out) (HI.out.ok p), ?_⟩, fun b h => h, K5.out⟩
  rw [tput_len]
  have := HI.out.len
  have hr := RM.out
  split
  · exact this
  · rename_i hn
    rcases hr with hr | hr
    · exact absurd hr hn
    · omega)
  · go_wp2_with fail
    clear hm2 hln
    (
  refine wp_region_chain 11 [9, 10] (fun w' => w'.cell? ⟨t, 2, none⟩ = some (.map (some r)) ∧ BV D2 w' (.slice a1 k.length n1) k) (by kernel_rfl) (by kernel_rfl) ?_ ?_
  · exact ⟨cz, HK.out.at rfl⟩
  refine SeqW.out ?_
  simp only [List.take_succ_cons, List.take_zero, List.drop_succ_cons, List.drop_zero]
  have kd := (Kept.refl Noneof w2).drew
  replace PD2 := Lib.hid (PD2.out.kept kd (fun _ _ _ h => h) fun h => h)
  replace HK := Lib.hid (HK.out.still' kd)
  replace HV := Lib.hid (HV.out.still' kd)
  replace cz := kd.cell (fun h => h) cz
  replace cy := kd.cell (fun h => h) cy
  have K3 := Lib.hid (K2.out.tr kd)
  generalize w2.drew = w3 at *
  clear kd
  iterate 5 (refine SeqW.val (v := ?_) (by rfl) (by rfl) (fun wx hSw => ?_) ?_; rotate_left; (focus ((try dsimp only at hSw); go_simp; (try with_reducible rfl))); (try simp only [Act.put, List.setIfInBounds_toArray, List.set_cons_zero, List.set_cons_succ]))
  (refine SeqW.val (v := ?_) (by rfl) (by rfl) (fun wx hSw => ?_) ?_; rotate_left; (focus ((try dsimp only at hSw); have hcv := conv_str (P := Try.prog) (src := 31) (dst := 9) Try.underlying31 Try.underlying5 Try.underlying9 hSw.2; go_simp; (try with_reducible rfl))); (try simp only [Act.put, List.setIfInBounds_toArray, List.set_cons_zero, List.set_cons_succ]))
  iterate 3 (refine SeqW.val (v := ?_) (by rfl) (by rfl) (fun wx hSw => ?_) ?_; rotate_left; (focus ((try dsimp only at hSw); go_simp; (try with_reducible rfl))); (try simp only [Act.put, List.setIfInBounds_toArray, List.set_cons_zero, List.set_cons_succ]))
  refine SeqW.act (by rfl) rfl (by rfl) (by rfl) (fun K hK => ?_)
  go_simp
  refine (slentry_calls cy HK.out HV.out).mono ?_
  rintro e w4 ⟨kx, vx, rfl, ok, ov, k4⟩
  refine hK.out _ _ ⟨k4.cell (fun h => h) cz, HK.out.still' k4⟩ ?_
  replace cz := k4.cell (fun h => h) cz
  replace HK := Lib.hid (HK.out.still' k4)
  have K4 := Lib.hid (K3.out.tr k4)
  have hlt := block_lt PD2.out.hm
  have s3 := K3.out.size
  have PD4 := Lib.hid (show PadIn seed w4 r es clock l (fun b => D b ∨ w3.heap.size ≤ b) from (PD2.out.kept k4 (fun _ _ _ h => h) fun h => h).wide (fun b h _ => .inl h) fun h => h.elim PD2.out.dr fun h => by omega)
  have OK := Lib.hid (show BV (fun b => D b ∨ w3.heap.size ≤ b) w4 kx k from ok.sv.wide byteEl_k fun b h _ => h.elim (fun h => h.elim) .inr)
  have OV := Lib.hid (show BV (fun b => D b ∨ w3.heap.size ≤ b) w4 vx v from ov.sv.wide byteEl_k fun b h _ => h.elim (fun h => h.elim) .inr)
  obtain ⟨k1, k2, k3, rfl⟩ := ok.slice'
  obtain ⟨v1, v2, v3, rfl⟩ := ov.slice'
  obtain ⟨es', clock', hrun, hp⟩ := PD4.out.store (P := Try.prog) (T := 134) (K := 9) (E := 138) (by kernel_rfl) Try.underlying9 OK.out OV.out
  have HP := Lib.hid hp
  have KS := Lib.hid (setBlock_kept w4 r (.map es' clock'))
  clear K hK k4 ok ov hp
  (try simp only [Act.put, List.setIfInBounds_toArray, List.set_cons_zero, List.set_cons_succ])
  refine SeqW.act0 (by rfl) rfl (by rfl) (fun K hK => ?_)
  go_simp
  have hne := HI.out.ne
  refine hK.out _ ⟨KS.out.cell (p := ⟨t, 2, none⟩) hne cz, HK.out.kept byteEl_k KS.out fun b h _ e => hDF b (HDF.out b h).1 (e ▸ HI.out.fr)⟩ ?_
  clear K hK
  (try simp only [Act.put, List.setIfInBounds_toArray, List.set_cons_zero, List.set_cons_succ])
  refine SeqW.nil ?_
  generalize setBlock w4 r (.map es' clock') = w5 at *
  have K5 := Lib.hid (show Kept F w w5 from (K4.out.mono (T := F) fun _ h => h.elim).trans KS.out fun b e => .inl (e ▸ HI.out.fr))
  have s5 := KS.out.size
  go_wp2
  go_ret
  refine ⟨rfl, fun b => F b ∨ w.heap.size ≤ b, ⟨r, es', clock', fun b => D b ∨ w3.heap.size ≤ b, KS.out.obj hne (K4.out.obj (fun h => h) HI.out.ho), HP.out, hne, fun h => h.elim HI.out.dt fun h => by have := HT.out; omega, .inl HI.out.ft, .inl HI.out.fr, fun b hb _ => hb.elim (fun h => .inl (HDW.out b h).1) fun h => .inr (by omega), fun p hp => (tput_mem hp).elim (fun e => by rw [e]; exact allowedK_okP AL.out) (HI.out.ok p), ?_⟩, fun b h => h, K5.out⟩
  rw [tput_len]
  have := HI.out.len
  have hr := RM.out
  split
  · exact this
  · rename_i hn
    rcases hr with hr | hr
    · exact absurd hr hn
    · omega)
end Go.Proofs.Ytaopjdjbpamhhaa
/- Proved: contracts of the vault's small functions (both, named, none, NewVault, Explain), of the law function explains and of the reference's Named. Conditions: bytes in memory. -/
namespace Go.Proofs.Ytaopjdjbpamhhaa
open Go Go.RowKit
set_option linter.unusedVariables false
set_option linter.unusedSimpArgs false

/-! ### Bytes xor others -/
def xorB (a b : Bts) : Bts := List.zipWith (fun x y => x ^^^ y) a b
theorem xorB_len (a b : Bts) : (xorB a b).length = min a.length b.length := by simp [xorB]
theorem xorB_get {a b : Bts} {i : Nat} (h1 : i < a.length) (h2 : i < b.length) : (xorB a b)[i]? = some (a[i] ^^^ b[i]) := by
  simp [xorB, List.getElem?_zipWith, List.getElem?_eq_getElem h1, List.getElem?_eq_getElem h2]
theorem bits_xor_u8 (x y : UInt8) : bits .xor .u8 ((x.toNat : Nat) : Int) ((y.toNat : Nat) : Int) = (((x ^^^ y).toNat : Nat) : Int) := by
  have ha := x.toNat_lt
  have hb := y.toNat_lt
  have hx : x.toNat ^^^ y.toNat < 2 ^ 8 := Nat.xor_lt_two_pow (by omega) (by omega)
  have h1 : (BitVec.ofInt 8 ((x.toNat : Nat) : Int)).toNat = x.toNat := by
    rw [BitVec.ofInt_natCast, BitVec.toNat_ofNat]; exact Nat.mod_eq_of_lt (by omega)
  have h2 : (BitVec.ofInt 8 ((y.toNat : Nat) : Int)).toNat = y.toNat := by
    rw [BitVec.ofInt_natCast, BitVec.toNat_ofNat]; exact Nat.mod_eq_of_lt (by omega)
  show IntKind.u8.wrap ((BitVec.ofInt 8 ((x.toNat : Nat) : Int) ^^^ BitVec.ofInt 8 ((y.toNat : Nat) : Int)).toNat : Int) = _
  rw [BitVec.toNat_xor, h1, h2, UInt8.toNat_xor]
  simp only [IntKind.wrap, IntKind.bits, IntKind.signed]
  simp
  omega
theorem xor_back (x y : UInt8) : (x ^^^ y) ^^^ y = x := by
  apply UInt8.toNat_inj.1
  rw [UInt8.toNat_xor, UInt8.toNat_xor, Nat.xor_assoc, Nat.xor_self, Nat.xor_zero]
theorem xor_comm8 (x y : UInt8) : x ^^^ y = y ^^^ x := by
  apply UInt8.toNat_inj.1
  rw [UInt8.toNat_xor, UInt8.toNat_xor, Nat.xor_comm]
theorem xorB_back {a b : Bts} (h : a.length = b.length) : xorB (xorB a b) b = a := by
  refine List.ext_getElem? fun i => ?_
  rcases Nat.lt_or_ge i a.length with hi | hi
  · have h2 : i < b.length := by omega
    have h3 : i < (xorB a b).length := by rw [xorB_len]; omega
    rw [xorB_get h3 h2]
    have := xorB_get hi h2
    rw [List.getElem?_eq_getElem h3] at this
    rw [Option.some.inj this, xor_back, List.getElem?_eq_getElem hi]
  · rw [List.getElem?_eq_none (by rw [xorB_len, xorB_len]; omega), List.getElem?_eq_none hi]
theorem xorB_comm (a b : Bts) : xorB a b = xorB b a := by
  unfold xorB
  rw [List.zipWith_comm]
  congr 1
  funext x y
  exact xor_comm8 y x
theorem xorB_inj {a b c : Bts} (h1 : a.length = b.length) (h2 : a.length = c.length) (h : xorB a b = xorB a c) : b = c := by
  have e1 := xorB_back (a := b) (b := a) h1.symm
  have e2 := xorB_back (a := c) (b := a) h2.symm
  rw [← e1, ← e2, xorB_comm b a, xorB_comm c a, h]

/-- A row of the call's own may be written at each place. -/
theorem Own.slot {D : Nat → Prop} {B : Nat} {w : World} {g n c i : Nat} {l : Bts} (h : Own 5 byteEl D B w (.slice (some ⟨g, 0, none⟩) n c) l) (hi : i < l.length) : (∃ u, w.cell? ⟨g, i, none⟩ = some u) ∧ w.frozen? ⟨g, i, none⟩ = false ∧ g < w.heap.size ∧ B ≤ g := by
  have hlt := h.lt g rfl
  obtain ⟨hl, D0, h0, xs, ⟨h1, h2⟩, h3⟩ := h
  rcases h2 with ⟨hh, _⟩ | ⟨g', cap, cur, hv, hg, hh, hc, hm', hs, ht⟩
  · cases hh
  · simp only [Value.slice.injEq, Option.some.injEq, Addr.mk.injEq, and_true] at hv
    obtain ⟨rfl, rfl, rfl⟩ := hv
    simp only [byteEl, Nat.mul_one] at hs
    have : i < cur.size := by omega
    exact ⟨⟨cur[i], by simp [World.cell?, hh, this]⟩, by simp [World.frozen?, hh], hlt.2, hlt.1⟩
theorem Own.put {D : Nat → Prop} {B : Nat} {w : World} {g n c i : Nat} {l : Bts} (h : Own 5 byteEl D B w (.slice (some ⟨g, 0, none⟩) n c) l) (hi : i < l.length) (y : UInt8) :
    Own 5 byteEl D B (w.setCell ⟨g, i, none⟩ (.int .u8 ((y.toNat : Nat) : Int))) (.slice (some ⟨g, 0, none⟩) n c) (l.set i y) := by
  refine h.setc (cs := [.int .u8 ((y.toNat : Nat) : Int)]) hi rfl (D' := fun _ => False) rfl (fun _ h => h.elim) ((Kept.refl (fun b => b = g) w).setCell (.inl rfl) _) fun cur hcur => ?_
  rw [setCell_obj hcur]
  simp only [putCells, byteEl, Nat.mul_one]

theorem BV.len {D : Nat → Prop} {w : World} {v : Value} {l : Bts} (h : BV D w v l) : l.length ≤ 140737488355328 := by
  obtain ⟨_, _, _, _, h, _⟩ := h
  exact h
set_option maxRecDepth 100000 in
set_option maxHeartbeats 1000000 in
theorem swboth_calls {D1 D2 : Nat → Prop} {v1 v2 : Value} {a b : Bts} {w : World} (h1 : BV D1 w v1 a) (h2 : BV D2 w v2 b) (hl : a.length = b.length) :
    Calls Try.prog 136 #[v1, v2] w fun e w' => ∃ v', e = .returned v' ∧ Own 5 byteEl Noneof w.heap.size w' v' (xorB a b) ∧ Kept Noneof w w' := by
  have H1 := Lib.hid (SV.bd byteEl_k h1)
  have H2 := Lib.hid (SV.bd byteEl_k h2)
  have HL := Lib.hid hl
  clear hl
  have hm := h1.len
  obtain ⟨a1, c1, rfl, _⟩ := h1
  obtain ⟨a2, c2, rfl, _⟩ := h2
  go_enter Try.func136, Try.ntmps136
  go_wp2_with (at_make; refine wl_make (E := byteEl) rfl _ _ _ rfl tBytes Noneof w.heap.size a.length .i64 .i64 _ _ rfl rfl rfl rfl 0 (fun _ => rfl) ?b1 ?b2 ?b3 ?_)
  case b1 => omega
  case b2 => omega
  case b3 => exact Nat.le_refl _
  intro w1 g hown hk hg
  have HG := Lib.hid hg
  have HK := Lib.hid hk
  have HO := Lib.hid hown
  clear hg hk hown
  go_wp2
  go_loopw [12] (fun i wr => ∃ n : Nat, n ≤ a.length ∧ i = .int .i64 n ∧ Hid (Own 5 byteEl Noneof w.heap.size wr (.slice (some ⟨g, 0, none⟩) a.length a.length) ((xorB a b).take n ++ List.replicate (a.length - n) 0)) ∧ Hid (Kept Noneof w wr)) (fun i _ => a.length - (intOf i).toNat)
  case atStart => exact ⟨0, Nat.zero_le _, rfl, Lib.hid (by simpa using HO.out), HK⟩
  case round =>
    obtain ⟨n, hn, rfl, ho, kw⟩ := hrel
    by_cases hlt : n < a.length
    · have hlt2 : n < b.length := by have := HL.out; omega
      obtain ⟨_, _, hsl, _, _, rd1⟩ := H1.out.still' kw.out
      simp only [Value.slice.injEq] at hsl
      obtain ⟨rfl, -, rfl⟩ := hsl
      obtain ⟨_, _, hsl, _, _, rd2⟩ := H2.out.still' kw.out
      simp only [Value.slice.injEq] at hsl
      obtain ⟨rfl, -, rfl⟩ := hsl
      obtain ⟨b1, o1, rfl, d1, g1⟩ := Rd.byte rd1 hlt
      obtain ⟨b2, o2, rfl, d2, g2⟩ := Rd.byte rd2 hlt2
      clear rd1 rd2
      have hx := bits_xor_u8 a[n] b[n]
      have hll : ((xorB a b).take n ++ List.replicate (a.length - n) 0).length = a.length := by rw [List.length_append, List.length_take, List.length_replicate, xorB_len]; have := HL.out; omega
      have hset : ((xorB a b).take n ++ List.replicate (a.length - n) 0).set n (a[n] ^^^ b[n]) = (xorB a b).take (n + 1) ++ List.replicate (a.length - (n + 1)) 0 := by
        have ht : ((xorB a b).take n).length = n := by rw [List.length_take, xorB_len]; have := HL.out; omega
        rw [List.set_append_right _ _ (by omega), ht, Nat.sub_self, show a.length - n = (a.length - (n + 1)) + 1 by omega, List.replicate_succ, List.set_cons_zero, List.take_add_one, xorB_get hlt hlt2, List.append_assoc]
        rfl
      have HSET := Lib.hid hset
      have HLL := Lib.hid hll
      clear hset hll
      have hnl : ¬ (a.length : Int) ≤ (n : Int) := by omega
      go_wp2_with fail
      refine wp_region_chain 13 [12] (fun w' => w'.cell? ⟨b1, o1 + n, none⟩ = some (.int .u8 ((a[n].toNat : Nat) : Int)) ∧ w'.cell? ⟨b2, o2 + n, none⟩ = some (.int .u8 ((b[n].toNat : Nat) : Int))) (by kernel_rfl) (by kernel_rfl) ?_ ?_
      · exact ⟨g1, g2⟩
      refine SeqW.out ?_
      simp only [List.take_succ_cons, List.take_zero, List.drop_succ_cons, List.drop_zero]
      have kd := (Kept.refl Noneof wr).drew
      replace ho := Lib.hid (ho.out.kept kd fun _ h => h.elim)
      replace kw := Lib.hid (kw.out.tr kd)
      replace g1 := kd.cell (fun h => h) g1
      replace g2 := kd.cell (fun h => h) g2
      generalize wr.drew = wd at *
      clear kd
      obtain ⟨⟨u, hu⟩, hf, hgl, hgb⟩ := ho.out.slot (i := n) (by rw [HLL.out]; exact hlt)
      iterate 11 (refine SeqW.val (v := ?_) (by rfl) (by rfl) (fun wx hSw => ?_) ?_; rotate_left; (focus ((try dsimp only at hSw); go_simp; (try with_reducible rfl))); (try simp only [Act.put, List.setIfInBounds_toArray, List.set_cons_zero, List.set_cons_succ]))
      (refine SeqW.val (v := ?_) (by rfl) (by rfl) (fun wx hSw => ?_) ?_; rotate_left; (focus ((try dsimp only at hSw); go_simp; (try with_reducible rfl))); (try simp only [Act.put, List.setIfInBounds_toArray, List.set_cons_zero, List.set_cons_succ]))
      refine SeqW.act0 (by rfl) rfl (by rfl) (fun K hK => ?_)
      go_simp
      have hy : (a[n] ^^^ b[n]).toNat = a[n].toNat ^^^ b[n].toNat := UInt8.toNat_xor _ _
      rw [← hy]
      have OP := ho.out.put (i := n) (by rw [HLL.out]; exact hlt) (a[n] ^^^ b[n])
      rw [HSET.out] at OP
      replace OP := Lib.hid OP
      have KS := Lib.hid ((Kept.refl (fun b => b = g) wd).setCell (p := ⟨g, n, none⟩) (.inl rfl) (.int .u8 (((a[n] ^^^ b[n]).toNat : Nat) : Int)))
      have hg := HG.out
      refine hK.out _ ⟨KS.out.cell (p := ⟨b1, o1 + n, none⟩) (fun e => by have e : b1 = g := e; have := d1.2; omega) g1, KS.out.cell (p := ⟨b2, o2 + n, none⟩) (fun e => by have e : b2 = g := e; have := d2.2; omega) g2⟩ ?_
      clear K hK hu hf hx hy
      generalize wd.setCell _ _ = we at *
      have KW := Lib.hid (kw.out.trans KS.out fun b e => .inr (by omega))
      clear KS ho kw g1 g2 hnl
      (try simp only [Act.put, List.setIfInBounds_toArray, List.set_cons_zero, List.set_cons_succ])
      refine SeqW.nil ?_
      go_wp2
      go_roundw
      case rel => exact ⟨n + 1, by omega, by go_num, OP, KW⟩
      case measure => simp [intOf]; omega
    · obtain rfl : n = a.length := by omega
      go_wp2
      go_ret
      refine ⟨_, rfl, ?_, kw.out⟩
      have := ho.out
      rwa [Nat.sub_self, List.replicate_zero, List.append_nil, List.take_of_length_le (by rw [xorB_len]; omega)] at this

/-! ### Names -/
def NameN (c : Nat) : Prop := (97 ≤ c ∧ c ≤ 122) ∨ (48 ≤ c ∧ c ≤ 57) ∨ c = 45 ∨ c = 46
instance (c : Nat) : Decidable (NameN c) := by unfold NameN; infer_instance
def nameB (c : UInt8) : Bool := decide (NameN c.toNat)
def namedK (s : Bts) : Bool := s.all nameB && decide (1 ≤ s.length) && decide (s.length ≤ 16)
/-- The bytes of a string. -/
def sB (s : ByteArray) : Bts := s.data.toList
theorem sB_len (s : ByteArray) : (sB s).length = s.size := by unfold sB; rw [Array.length_toList]; rfl
theorem strV_sB (s : ByteArray) : strV (sB s) = .string s := rfl
set_option maxRecDepth 100000 in
set_option maxHeartbeats 1000000 in
theorem r7Named_calls {s : ByteArray} {w : World} (hs : s.size ≤ 140737488355328) :
    Calls Try.prog 80 #[.string s] w fun e w' => e = .returned (.bool (namedK (sB s))) ∧ w' = w := by
  go_enter Try.func80, Try.ntmps80
  go_wp2
  go_loopw [3] (fun i wr => ∃ n : Nat, n ≤ s.size ∧ i = .int .i64 n ∧ Hid (∀ c ∈ (sB s).take n, nameB c = true) ∧ wr = w) (fun i _ => s.size - (intOf i).toNat)
  case atStart => exact ⟨0, Nat.zero_le _, rfl, Lib.hid (by simp), rfl⟩
  case round =>
    obtain ⟨n, hn, rfl, ha, rfl⟩ := hrel
    by_cases hl : n < s.size
    · have hl2 : n < (sB s).length := by rw [sB_len]; exact hl
      have hc : (sB s)[n] = s[n] := rfl
      have hT := Lib.hid (show NameN s[n].toNat → ∀ c ∈ (sB s).take (n + 1), nameB c = true from fun h c hc' => by
        rw [List.take_add_one, List.getElem?_eq_getElem hl2] at hc'
        simp only [Option.toList_some, List.mem_append, List.mem_singleton] at hc'
        rcases hc' with hc' | rfl
        · exact ha.out c hc'
        · rw [hc]; exact decide_eq_true h)
      have hF := Lib.hid (show ¬ NameN s[n].toNat → false = namedK (sB s) from fun h => by
        have : (sB s).all nameB = false := List.all_eq_false.2 ⟨_, List.getElem_mem hl2, by rw [hc]; simp [nameB, h]⟩
        simp [namedK, this])
      have hb : s[n].toNat < 256 := s[n].toNat_lt
      clear hc ha
      go_wp2_with fail
      all_goals
        generalize s[n].toNat = c at *
        first
        | (go_ret; exact ⟨ret_bool (hF.out (by unfold NameN; simp at *; omega)), rfl⟩)
        | exact ⟨⟨n + 1, by omega, by go_num, Lib.hid (hT.out (by unfold NameN; simp at *; omega)), trivial⟩, by simp [intOf]; omega⟩
    · have HN := Lib.hid (show (sB s).all nameB = true from List.all_eq_true.2 fun c hc => ha.out c (by rw [List.take_of_length_le (by rw [sB_len]; omega)]; exact hc))
      obtain rfl : n = s.size := by omega
      go_wp2
      all_goals
        go_ret
        refine ⟨ret_bool ?_, rfl⟩
        unfold namedK
        rw [HN.out, sB_len]
        rw [Bool.eq_iff_iff]
        simp
        try omega
/-- '[]byte(s)': the string's bytes in new memory. -/
theorem bytes_conv {w : World} {s : ByteArray} (hs : s.size ≤ 140737488355328) :
    ∃ c, (∀ w', w' = w → (convert 9 31 (.string s)).run Try.prog w' = .ok (.slice (some ⟨w.heap.size, 0, none⟩) s.size c) (Lib.bytesWorld w 5 s)) ∧ BV (fun b => w.heap.size ≤ b) (Lib.bytesWorld w 5 s) (.slice (some ⟨w.heap.size, 0, none⟩) s.size c) (sB s) ∧ Kept Noneof w (Lib.bytesWorld w 5 s) := by
  refine ⟨grownCap w s.size 0 5, fun w' e => by rw [e]; exact Lib.run_convert_string_bytes w 9 31 5 s Try.underlying9 Try.underlying31 Try.underlying5, ?_, ?_⟩
  · refine ⟨_, _, by rw [sB_len], ⟨?_, fun h => by cases h⟩, by rw [sB_len]; exact hs, fun i hi => ⟨w.heap.size, 0, [.int .u8 (((sB s)[i].toNat : Nat) : Int)], rfl, Nat.le_refl _, fun j hj => ?_, rfl⟩⟩
    · rw [sB_len]
      exact grownCap_ge w s.size 0 5
    · obtain rfl : j = 0 := by simpa using hj
      have k : byteEl.k = 1 := rfl
      rw [k, Nat.zero_add, Nat.mul_one, Nat.add_zero, Lib.bytesWorld_cell w 5 s i (by rw [← sB_len]; exact hi)]
      simp only [List.getElem_cons_zero]
      congr 3
      show (s.data.toList.getD i 0).toNat = (sB s)[i].toNat
      rw [List.getD_eq_getElem?_getD, show s.data.toList = sB s from rfl, List.getElem?_eq_getElem hi]
      rfl
  · exact ⟨rfl, rfl, rfl, by rw [Lib.bytesWorld_size]; omega, fun j hj _ => Lib.bytesWorld_at_old w 5 s j hj⟩
set_option maxRecDepth 100000 in
set_option maxHeartbeats 1000000 in
theorem swnamed_calls {s : ByteArray} {w : World} (hs : s.size ≤ 140737488355328) :
    Calls Try.prog 135 #[.string s] w fun e w' => e = .returned (.bool (namedK (sB s))) ∧ Kept Noneof w w' := by
  obtain ⟨c, hc, hb, hk⟩ := bytes_conv (w := w) hs
  have hc := hc w rfl
  have HB := Lib.hid hb
  have HK := Lib.hid hk
  go_enter Try.func135, Try.ntmps135
  generalize Lib.bytesWorld w 5 s = w1 at *
  clear hb hk
  go_wp2
  go_loopw [8] (fun i wr => ∃ n : Nat, n ≤ s.size ∧ i = .int .i64 n ∧ Hid (∀ c ∈ (sB s).take n, nameB c = true) ∧ wr = w1) (fun i _ => s.size - (intOf i).toNat)
  case atStart => exact ⟨0, Nat.zero_le _, rfl, Lib.hid (by simp), rfl⟩
  case round =>
    obtain ⟨n, hn, rfl, ha, rfl⟩ := hrel
    by_cases hl : n < s.size
    · have hl2 : n < (sB s).length := by rw [sB_len]; exact hl
      obtain ⟨_, _, hsl, _, _, rd⟩ := HB.out
      simp only [Value.slice.injEq] at hsl
      obtain ⟨rfl, -, rfl⟩ := hsl
      obtain ⟨b1, o1, hbo, _, g1⟩ := Rd.byte rd hl2
      simp only [Option.some.injEq, Addr.mk.injEq, and_true] at hbo
      obtain ⟨rfl, rfl⟩ := hbo
      rw [Nat.zero_add] at g1
      have hT := Lib.hid (show NameN (sB s)[n].toNat → ∀ c ∈ (sB s).take (n + 1), nameB c = true from fun h c hc' => by
        rw [List.take_add_one, List.getElem?_eq_getElem hl2] at hc'
        simp only [Option.toList_some, List.mem_append, List.mem_singleton] at hc'
        rcases hc' with hc' | rfl
        · exact ha.out c hc'
        · exact decide_eq_true h)
      have hF := Lib.hid (show ¬ NameN (sB s)[n].toNat → false = namedK (sB s) from fun h => by
        have : (sB s).all nameB = false := List.all_eq_false.2 ⟨_, List.getElem_mem hl2, by simp [nameB, h]⟩
        simp [namedK, this])
      have hb : (sB s)[n].toNat < 256 := (sB s)[n].toNat_lt
      clear ha rd hc
      generalize (sB s)[n].toNat = c at *
      go_wp2_with fail
      all_goals
        first
        | (go_ret; exact ⟨ret_bool (hF.out (by unfold NameN; simp at *; omega)), HK.out⟩)
        | exact ⟨⟨n + 1, by omega, by go_num, Lib.hid (hT.out (by unfold NameN; simp at *; omega)), trivial⟩, by simp [intOf]; omega⟩
    · have HN := Lib.hid (show (sB s).all nameB = true from List.all_eq_true.2 fun c hc => ha.out c (by rw [List.take_of_length_le (by rw [sB_len]; omega)]; exact hc))
      obtain rfl : n = s.size := by omega
      clear hc
      go_wp2
      all_goals
        go_ret
        refine ⟨ret_bool ?_, HK.out⟩
        unfold namedK
        rw [HN.out, sB_len]
        rw [Bool.eq_iff_iff]
        simp
        try omega
end Go.Proofs.Ytaopjdjbpamhhaa
/- Proved: contracts of the vault's functions NewVault, none, Put (where it takes), Explain, and of the law function explains. Conditions: vaults in memory. -/
namespace Go.Proofs.Ytaopjdjbpamhhaa
open Go Go.RowKit
set_option linter.unusedVariables false
set_option linter.unusedSimpArgs false

/-- '[]byte{x}'. -/
theorem Own.lit1b (w : World) (y : UInt8) : Own 5 byteEl Noneof w.heap.size (w.alloc (.cells #[.int .u8 ((y.toNat : Nat) : Int)] 5)) (.slice (some ⟨w.heap.size, 0, none⟩) 1 1) [y] := by
  have hs : w.heap.size < (w.alloc (.cells #[.int .u8 ((y.toNat : Nat) : Int)] 5)).heap.size := by simp
  refine ⟨by simp, fun _ => False, fun b hb => hb.elim, [.int .u8 ((y.toNat : Nat) : Int)], ⟨by simp [byteEl], .inr ⟨w.heap.size, 1, _, rfl, Nat.le_refl _, heap_alloc_new _ _, Nat.le_refl _, by unfold maxLen; omega, by simp [byteEl], by simp [byteEl]⟩⟩, Cells.single rfl⟩
theorem results_cell_row_tmp {P : Program} {fn : Func} {p u : Tmp} {ty : TypeId} (h : fn.results = #[.cell p ty, .tmp u]) (tmps : Array Value) (w : World) (g : Nat) (t : TypeId) (cs : Array Value) (fr : Nat × Nat) (d : TypeDesc)
    (hp : tmps.getD p undef = .pointer (some ⟨g, 0, none⟩)) (hg : w.heap[g]? = some (.cells cs t fr))
    (hu : P.underlying ty = some d) (hd : (match d with | .struct _ | .array _ _ => true | _ => false) = true) (hi : (P.info? ty).map (·.size) = some cs.size) :
    (results fn tmps).run P w = .ok (.tuple #[.agg cs, tmps.getD u undef]) w := by
  have hp' : tmps[p]?.getD undef = .pointer (some ⟨g, 0, none⟩) := by simpa using hp
  simp [results, h, hp', asAddr, Sem.run_bind, Result.andThen, run_loadVar_row w g t ty cs fr d hg hu hd hi]
def vltObj (t : Nat) : Obj := .cells #[bp t] 191
def VltAt (seed : Int) (w : World) (v : Nat) (l : List (Bts × Bts)) (F : Nat → Prop) : Prop := ∃ t F0, w.heap[v]? = some (vltObj t) ∧ TabAt seed w t l F0 ∧ F v ∧ (∀ b, F0 b → F b ∧ b ≠ v)
section
variable {seed : Int} {w w' : World} {v : Nat} {l : List (Bts × Bts)} {F : Nat → Prop}
theorem VltAt.kept {X : Nat → Prop} (h : VltAt seed w v l F) (k : Kept X w w') (hX : ∀ b, F b → ¬ X b) : VltAt seed w' v l F := by
  obtain ⟨t, F0, h1, h2, h3, h4⟩ := h
  exact ⟨t, F0, k.obj (hX v h3) h1, h2.kept k fun b hb => hX b (h4 b hb).1, h3, h4⟩
theorem VltAt.still (h : VltAt seed w v l F) (k : Kept Noneof w w') : VltAt seed w' v l F := h.kept k fun _ _ h => h
theorem VltAt.wide {F' : Nat → Prop} (h : VltAt seed w v l F) (hF : ∀ b, F b → b < w.heap.size → F' b) : VltAt seed w v l F' := by
  obtain ⟨t, F0, h1, h2, h3, h4⟩ := h
  exact ⟨t, fun b => F0 b ∧ b < w.heap.size, h1, h2.wide fun b hb hl => ⟨hb, hl⟩, hF v h3 (block_lt h1), fun b hb => ⟨hF b (h4 b hb.1).1 hb.2, (h4 b hb.1).2⟩⟩
theorem vlt_cell {t : Nat} (h : w.heap[v]? = some (vltObj t)) : w.cell? ⟨v, 0, none⟩ = some (bp t) := by
  unfold vltObj at h
  simp [World.cell?, h]
end
theorem vnone_calls {seed : Int} {w : World} {v : Nat} {l : List (Bts × Bts)} {F : Nat → Prop} (h : VltAt seed w v l F) :
    Calls Try.prog 134 #[bp v] w fun e w' => e = .returned (.bool false) ∧ w' = w := by
  obtain ⟨t, F0, h1, _⟩ := h
  have c0 := vlt_cell h1
  clear h1
  go_enter Try.func134, Try.ntmps134
  go_wp2
  go_ret
  exact ⟨rfl, rfl⟩
theorem swNew_calls {seed : Int} {w : World} :
    Calls Try.prog 65 #[.int .u64 seed] w fun e w' => ∃ v, e = .returned (bp v) ∧ VltAt seed w' v [] (fun b => w.heap.size ≤ b ∧ b < w'.heap.size) ∧ Kept Noneof w w' ∧ w.heap.size ≤ v := by
  go_enter Try.func65, Try.ntmps65
  go_wp2_with fail
  refine (slNew_calls (seed := seed)).mono ?_
  rintro e w1 ⟨rfl, ht, k1, s1⟩
  go_wp2
  go_ret
  have k2 := (Kept.refl Noneof w1).alloc (.cells #[bp (w.heap.size + 1)] 191)
  have g2 := heap_alloc_new w1 (.cells #[bp (w.heap.size + 1)] 191)
  have hs : (w1.alloc (.cells #[bp (w.heap.size + 1)] 191)).heap.size = w1.heap.size + 1 := by simp
  rw [s1] at g2
  generalize w1.alloc (.cells #[bp (w.heap.size + 1)] 191) = w2 at *
  exact ⟨w.heap.size + 2, rfl, ⟨w.heap.size + 1, _, g2, ht.still k2, ⟨by omega, by omega⟩, fun b hb => ⟨⟨hb.1, by have := hb.2; omega⟩, by have := hb.2; omega⟩⟩, k1.tr k2, by omega⟩
set_option maxRecDepth 100000 in
set_option maxHeartbeats 4000000 in
theorem vPut_ok {seed : Int} {w : World} {v : Nat} {l : List (Bts × Bts)} {F D1 D2 : Nat → Prop} {s : ByteArray} {v1 v2 : Value} {data pad : Bts} (h : VltAt seed w v l F) (h1 : BV D1 w v1 data) (h2 : BV D2 w v2 pad) (hFl : ∀ b, F b → b < w.heap.size) (hd1 : ∀ b, D1 b → ¬ F b) (hd2 : ∀ b, D2 b → ¬ F b)
    (hn : namedK (sB s) = true) (hl : data.length = pad.length) (h9 : data.length ≤ 999) (hg : tget l (sB s) = none) (hr : l.length < 100000) (hs : s.size ≤ 140737488355328) :
    Calls Try.prog 67 #[bp v, .string s, v1, v2] w fun e w' => ∃ v' F', e = .returned (.tuple #[.agg #[.string s, v'], .int .i64 0]) ∧ BV (fun b => w.heap.size ≤ b ∧ ¬ F' b) w' v' (xorB data pad) ∧ VltAt seed w' v (tput l (sB s) (1 :: pad)) F' ∧ (∀ b, F' b → F b ∨ w.heap.size ≤ b) ∧ Kept F w w' := by
  have H := Lib.hid h
  have H1 := Lib.hid h1
  have H2 := Lib.hid h2
  have HN := Lib.hid hn
  have HL := Lib.hid hl
  have HG := Lib.hid hg
  have HR := Lib.hid hr
  have HS := Lib.hid hs
  have HFL := Lib.hid hFl
  have H9 := Lib.hid h9
  obtain ⟨a1, c1, rfl, _⟩ := h1
  obtain ⟨a2, c2, rfl, _⟩ := h2
  obtain ⟨t, F0, hv, ht, hFv, hF0⟩ := h
  have HV := Lib.hid hv
  have TT := Lib.hid ht
  have HF0 := Lib.hid hF0
  have HFv := Lib.hid hFv
  have h9' : decide ((999 : Int) < (pad.length : Int)) = false := decide_eq_false (by omega)
  rw [hl] at H1
  have hl' : data.length = pad.length := hl
  clear hn hg hr hs hFl hv ht hFv hF0 h9
  go_enter Try.func67, Try.ntmps67
  go_wp2_with fail
  have K1 := (Kept.refl Noneof w).alloc (.cells #[.string { data := #[] }, .slice none 0 0] 105)
  have G := heap_alloc_new w (.cells #[.string { data := #[] }, .slice none 0 0] 105)
  have s1 : (w.alloc (.cells #[.string { data := #[] }, .slice none 0 0] 105)).heap.size = w.heap.size + 1 := by simp
  generalize w.alloc (.cells #[.string { data := #[] }, .slice none 0 0] 105) = w1 at *
  refine (vnone_calls (H.out.still K1)).mono ?_
  rintro e w1' ⟨rfl, rfl⟩
  go_wp2_with fail
  refine (swnamed_calls HS.out).mono ?_
  rintro e w2 ⟨rfl, k2⟩
  rw [HN.out]
  have K2 := Lib.hid (K1.tr k2)
  replace G := Lib.hid (k2.obj (fun h => h) G)
  have S1 := Lib.hid (show w.heap.size < w2.heap.size by have := k2.size; omega)
  clear K1 k2 s1
  have cv : w2.cell? ⟨v, 0, none⟩ = some (bp t) := vlt_cell (K2.out.obj (fun h => h) HV.out)
  obtain ⟨cc, hc, hb, hk⟩ := bytes_conv (w := w2) HS.out
  replace hc := hc w2 rfl
  have HB := Lib.hid hb
  have K3 := Lib.hid (K2.out.tr hk)
  replace G := Lib.hid (hk.obj (fun h => h) G.out)
  have S2 := Lib.hid hk.size
  generalize Lib.bytesWorld w2 5 s = w3 at *
  clear hb hk
  go_wp2_with fail
  clear hc cv
  refine (slGet_calls (TT.out.still K3.out) HB.out).mono ?_
  rintro e w4 ⟨hres, k4⟩
  have hres : e = .returned (.tuple #[.slice none 0 0, .int .i64 3]) := by
    rcases hres with ⟨x, v', hx, _⟩ | ⟨_, h⟩
    · rw [HG.out] at hx; cases hx
    · exact h
  subst hres
  have K4 := Lib.hid (K3.out.tr k4)
  replace G := Lib.hid (k4.obj (fun h => h) G.out)
  have S4 := Lib.hid (show w.heap.size < w4.heap.size by have := k4.size; have := S1.out; have := S2.out; omega)
  clear k4 HB h9'
  go_wp2_with fail
  refine wp_region_kept 9 [(5, .act IsSlice fun u w1 => BV (fun b => w4.heap.size ≤ b) w1 u (sB s)), (6, .act IsSlice fun u w1 => Own 5 byteEl Noneof w4.heap.size w1 u [1] ∧ ∀ p n c, u = .slice (some p) n c → c = n), (8, .act IsSlice fun u w1 => Own 5 byteEl Noneof w4.heap.size w1 u (1 :: pad))] Noneof (by kernel_rfl) (by kernel_rfl) (by kernel_rfl) ?_
  simp only [List.take_succ_cons, List.take_zero, List.drop_succ_cons, List.drop_zero]
  have hS : ∀ w', Kept Noneof w4 w' → w'.cell? ⟨v, 0, none⟩ = some (bp t) := fun w' k => vlt_cell ((K4.out.tr k).obj (fun h => h) HV.out)
  iterate 5 (refine SeqL.val (v := ?_) hS rfl (by rfl) (fun wx hSw => ?_) ?_; rotate_left; (focus ((try dsimp only at hSw); go_simp; (try with_reducible rfl))); (try simp only [Act.put, List.setIfInBounds_toArray, List.set_cons_zero, List.set_cons_succ]))
  refine SeqL.act rfl rfl (by rfl) (by rfl) isSlice (fun wx hx hh K hK => ?_) (fun u1 hu1 => ?_)
  · obtain ⟨cc, hc, hb, hk⟩ := bytes_conv (w := wx) HS.out
    replace hc := hc wx rfl
    go_simp
    exact hK.out _ _ ⟨_, _, _, rfl⟩ hk (hb.wide byteEl_k fun b h _ => Nat.le_trans hx.size h)
  obtain ⟨q1, q2, q3, rfl⟩ := hu1
  (try simp only [Act.put, List.setIfInBounds_toArray, List.set_cons_zero, List.set_cons_succ])
  refine SeqL.act rfl rfl (by rfl) (by rfl) isSlice (fun wx hx hh K hK => ?_) (fun u1 hu1 => ?_)
  · go_simp
    exact hK.out _ _ ⟨_, _, _, rfl⟩ ((Kept.refl _ _).alloc _) ⟨(Own.lit1b wx 1).base hx.size, fun p n c h => by cases h; rfl⟩
  obtain ⟨q4, q5, q6, rfl⟩ := hu1
  (try simp only [Act.put, List.setIfInBounds_toArray, List.set_cons_zero, List.set_cons_succ])
  (refine SeqL.val (v := ?_) hS rfl (by rfl) (fun wx hSw => ?_) ?_; rotate_left; (focus ((try dsimp only at hSw); go_simp; (try with_reducible rfl))); (try simp only [Act.put, List.setIfInBounds_toArray, List.set_cons_zero, List.set_cons_succ]))
  refine SeqL.act rfl rfl (by rfl) (by rfl) isSlice (fun wx hx hh K hK => ?_) (fun u1 hu1 => ?_)
  · obtain ⟨wy, _, ⟨o2, f2⟩, hxy⟩ := hh 6 (by decide) (by kernel_rfl) _ _ _ rfl rfl
    refine wp_app_full_bytes (.tmp 52) (.tmp 53) _ rfl tBytes _ [1] rfl (o2.kept hxy fun _ h => h.elim) f2 _ pad rfl ((H2.out.still' K4.out).still' hx) (by simp; have := H2.out.len; have := H9.out; have := HL.out; omega) hx.size ?_
    rintro v' w' o4 k4 _
    exact hK.out _ _ o4.slice' k4 o4
  obtain ⟨q7, q8, q9, rfl⟩ := hu1
  (try simp only [Act.put, List.setIfInBounds_toArray, List.set_cons_zero, List.set_cons_succ])
  refine SeqL.nil fun wz hz hh => ?_
  obtain ⟨wa, _, ba, ka⟩ := hh 5 (by decide) _ _ _ rfl rfl
  obtain ⟨wb, _, ob, kb⟩ := hh 8 (by decide) _ _ _ rfl rfl
  have BA := Lib.hid (show BV (fun b => w4.heap.size ≤ b) wz (.slice q1 q2 q3) (sB s) from ba.still' ka)
  have OB := Lib.hid (show Own 5 byteEl Noneof w4.heap.size wz (.slice q7 q8 q9) (1 :: pad) from ob.kept kb fun _ h => h.elim)
  have KZ := Lib.hid (K4.out.tr hz)
  replace G := Lib.hid (hz.obj (fun h => h) G.out)
  have SZ := Lib.hid (show w4.heap.size ≤ wz.heap.size from hz.size)
  clear hh ba ka ob kb hz hS
  have hal : allowedK (sB s) (1 :: pad) = true := by
    have h1 := HN.out
    have h2 := H9.out
    have h3 := HL.out
    simp only [namedK, Bool.and_eq_true, decide_eq_true_eq] at h1
    simp only [allowedK, Bool.and_eq_true, decide_eq_true_eq, List.length_cons]
    omega
  go_wp2_with fail
  refine (slPut_calls (TT.out.still KZ.out) BA.out OB.out.sv (fun b h hf => by have := HFL.out b (HF0.out b hf).1; have := S4.out; omega) hal (.inr HR.out)).mono ?_
  rintro e w5 ⟨rfl, F1, t5, hF1, k5⟩
  have T5 := Lib.hid (t5.wide (F' := fun b => F1 b ∧ b < w5.heap.size) fun b h hl => ⟨h, hl⟩)
  have HF1 := Lib.hid hF1
  have K5 := Lib.hid (show Kept F w w5 from (KZ.out.mono (T := F) fun _ h => h.elim).trans k5 fun b h => .inl (HF0.out b h).1)
  have HV5 := Lib.hid (show w5.heap[v]? = some (vltObj t) from k5.obj (fun h => (HF0.out v h).2 rfl) (KZ.out.obj (fun h => h) HV.out))
  have S5 := Lib.hid (show wz.heap.size ≤ w5.heap.size from k5.size)
  have hF0w : ¬ F0 w.heap.size := fun h => by have := HFL.out _ (HF0.out _ h).1; omega
  replace G := Lib.hid (k5.obj hF0w G.out)
  replace H1 := Lib.hid ((H1.out.still' KZ.out).kept byteEl_k k5 fun b h _ hf => hd1 b h (HF0.out b hf).1)
  replace H2 := Lib.hid ((H2.out.still' KZ.out).kept byteEl_k k5 fun b h _ hf => hd2 b h (HF0.out b hf).1)
  clear k5 t5 hF0w hal BA OB
  go_wp2_with fail
  refine (swboth_calls H1.out H2.out HL.out).mono ?_
  rintro e w6 ⟨v6, rfl, o6, k6⟩
  have O6 := Lib.hid o6
  have K6 := Lib.hid (K5.out.trans k6 fun b h => h.elim)
  have T6 := Lib.hid (T5.out.still k6)
  have HV6 := Lib.hid (k6.obj (fun h => h) HV5.out)
  have G6 := Lib.hid (k6.obj (fun h => h) G.out)
  have S6 := Lib.hid k6.size
  obtain ⟨x1, x2, x3, rfl⟩ := o6.slice'
  have f0 : w6.cell? ⟨w.heap.size, 0, none⟩ = some (.string { data := #[] }) := by simp [World.cell?, G6.out]
  have f1 : w6.cell? ⟨w.heap.size, 1, none⟩ = some (.slice none 0 0) := by simp [World.cell?, G6.out]
  have ff : ∀ j, w6.frozen? ⟨w.heap.size, j, none⟩ = false := fun j => by simp [World.frozen?, G6.out]
  clear o6 k6 HV5 T5 G
  go_wp2
  have KT := ((Kept.refl (fun b => b = w.heap.size) w6).setCell (p := ⟨w.heap.size, 0, none⟩) (.inl rfl) (.string s)).setCell (p := ⟨w.heap.size, 1, none⟩) (.inl rfl) (.slice x1 x2 x3)
  have GF := setCell_obj (setCell_obj G6.out (.string s) (j := 0)) (.slice x1 x2 x3) (j := 1)
  refine bodyPost_ret (results_cell_row_tmp rfl _ _ w.heap.size _ #[_, _] (0, 0) _ rfl GF Try.underlying105 rfl (by kernel_rfl)) rfl ?_
  have hvw : v ≠ w.heap.size := by have := block_lt HV.out; omega
  have hFw : ¬ F w.heap.size := fun h => by have := HFL.out _ h; omega
  have hs4 := S4.out
  have hsz := SZ.out
  have hs5 := S5.out
  have hs6 := S6.out
  have ht : t < w.heap.size := TT.out.lt
  refine ⟨_, fun b => (F b ∨ (w.heap.size < b ∧ F1 b)) ∧ b < w5.heap.size, rfl, ?_, ⟨t, fun b => F1 b ∧ b < w5.heap.size, KT.obj hvw HV6.out, ?_, ⟨.inl HFv.out, by have := block_lt HV.out; omega⟩, fun b hb => ?_⟩, fun b hb => hb.1.elim .inl fun h => .inr (by omega), K6.out.trans KT fun b e => .inr (by omega)⟩
  · refine (O6.out.sv.wide (D' := fun b => w5.heap.size ≤ b) byteEl_k fun b h _ => h.elim (fun h => h.elim) fun h => h).kept byteEl_k KT (fun b h _ e => by omega) |>.wide byteEl_k fun b h _ => ⟨by omega, fun hb => by omega⟩
  · refine T6.out.kept KT fun b hb e => ?_
    rcases HF1.out b hb.1 with h | h
    · exact hFw (e ▸ (HF0.out b h).1)
    · omega
  · rcases HF1.out b hb.1 with h | h
    · exact ⟨⟨.inl (HF0.out b h).1, hb.2⟩, (HF0.out b h).2⟩
    · exact ⟨⟨.inr ⟨by omega, hb.1⟩, hb.2⟩, by have := block_lt HV.out; omega⟩

set_option maxRecDepth 100000 in
set_option maxHeartbeats 1000000 in
theorem swExplain_calls {D1 D2 : Nat → Prop} {w : World} {s : ByteArray} {v1 v2 : Value} {bs data : Bts} (h1 : BV D1 w v1 bs) (h2 : BV D2 w v2 data) :
    Calls Try.prog 78 #[.agg #[.string s, v1], v2] w fun e w' => ((¬ data.length = bs.length ∧ e = .returned (.tuple #[.slice none 0 0, .int .i64 1])) ∨ ∃ v', data.length = bs.length ∧ e = .returned (.tuple #[v', .int .i64 0]) ∧ Own 5 byteEl Noneof w.heap.size w' v' (xorB bs data)) ∧ Kept Noneof w w' := by
  have H1 := Lib.hid h1
  have H2 := Lib.hid h2
  obtain ⟨a1, c1, rfl, _⟩ := h1
  obtain ⟨a2, c2, rfl, _⟩ := h2
  have K1 := Lib.hid ((Kept.refl Noneof w).alloc (.cells #[.string s, .slice a1 bs.length c1] 105))
  have sz := Lib.hid (show w.heap.size ≤ (w.alloc (.cells #[.string s, .slice a1 bs.length c1] 105)).heap.size from K1.out.size)
  go_enter Try.func78, Try.ntmps78
  by_cases hl : data.length = bs.length
  · have HL := Lib.hid hl
    have e1 : ((data.length : Int) != (bs.length : Int)) = false := by rw [hl]; simp
    clear hl
    go_wp2_with fail
    clear e1
    generalize w.alloc (.cells #[.string s, .slice a1 bs.length c1] 105) = w1 at *
    refine (swboth_calls (H1.out.still' K1.out) (H2.out.still' K1.out) HL.out.symm).mono ?_
    rintro e w2 ⟨v', rfl, o2, k2⟩
    have O2 := Lib.hid o2
    have K2 := Lib.hid (K1.out.tr k2)
    obtain ⟨x1, x2, x3, rfl⟩ := o2.slice'
    clear o2 k2
    go_wp2
    go_ret2
    exact ⟨.inr ⟨_, HL.out, rfl, O2.out.base sz.out⟩, K2.out⟩
  · have HL := Lib.hid hl
    have e1 : ((data.length : Int) != (bs.length : Int)) = true := by rw [bne_iff_ne]; omega
    clear hl
    go_wp2
    go_ret2
    exact ⟨.inl ⟨HL.out, rfl⟩, K1.out⟩
def explB (pad data bs : Bts) : Bool := decide (pad.length = data.length) && xorB pad data == bs
end Go.Proofs.Ytaopjdjbpamhhaa
/- Proved: contracts of the law function explains (where it holds) and of the law SwapPads' own code. Conditions: bytes in memory. -/
namespace Go.Proofs.Ytaopjdjbpamhhaa
open Go Go.RowKit
set_option linter.unusedVariables false
set_option linter.unusedSimpArgs false

set_option maxRecDepth 100000 in
set_option maxHeartbeats 1000000 in
theorem l7explains_calls {D1 D2 D3 : Nat → Prop} {v1 v2 v3 : Value} {data bs : Bts} {w : World} (h1 : BV D1 w v1 (xorB bs data)) (h2 : BV D2 w v2 data) (h3 : BV D3 w v3 bs) (hl : data.length = bs.length) :
    Calls Try.prog 79 #[v1, v2, v3] w fun e w' => e = .returned (.bool true) ∧ Kept Noneof w w' := by
  have H1 := Lib.hid h1
  have H2 := Lib.hid h2
  have H3 := Lib.hid h3
  have HL := Lib.hid hl
  have HP := Lib.hid (show (xorB bs data).length = bs.length by rw [xorB_len]; omega)
  obtain ⟨a1, c1, rfl, _⟩ := h1
  obtain ⟨a2, c2, rfl, _⟩ := h2
  obtain ⟨a3, c3, rfl, _⟩ := h3
  rw [HP.out] at H1 ⊢
  rw [hl] at H2 ⊢
  clear hl
  go_enter Try.func79, Try.ntmps79
  go_wp2
  go_loopw [15] (fun i wr => ∃ n : Nat, n ≤ bs.length ∧ i = .int .i64 n ∧ Hid (Kept Noneof w wr)) (fun i _ => bs.length - (intOf i).toNat)
  case atStart => exact ⟨0, Nat.zero_le _, rfl, Lib.hid (Kept.refl _ _)⟩
  case round =>
    obtain ⟨n, hn, rfl, kw⟩ := hrel
    by_cases hlt : n < bs.length
    · obtain ⟨_, _, hsl, _, _, rd1⟩ := H1.out.still' kw.out
      simp only [Value.slice.injEq] at hsl
      obtain ⟨rfl, -, rfl⟩ := hsl
      obtain ⟨_, _, hsl, _, _, rd2⟩ := H2.out.still' kw.out
      simp only [Value.slice.injEq] at hsl
      obtain ⟨rfl, -, rfl⟩ := hsl
      obtain ⟨_, _, hsl, _, _, rd3⟩ := H3.out.still' kw.out
      simp only [Value.slice.injEq] at hsl
      obtain ⟨rfl, -, rfl⟩ := hsl
      have l1 : n < (xorB bs data).length := by rw [HP.out]; exact hlt
      have l2 : n < data.length := by have := HL.out; omega
      obtain ⟨b1, o1, rfl, _, g1⟩ := Rd.byte rd1 l1
      obtain ⟨b2, o2, rfl, _, g2⟩ := Rd.byte rd2 l2
      obtain ⟨b3, o3, rfl, _, g3⟩ := Rd.byte rd3 hlt
      have hx : bits .xor .u8 (((xorB bs data)[n].toNat : Nat) : Int) ((data[n].toNat : Nat) : Int) = ((bs[n].toNat : Nat) : Int) := by
        rw [bits_xor_u8]
        have := xorB_get hlt l2
        rw [List.getElem?_eq_getElem l1] at this
        rw [Option.some.inj this, xor_back]
      clear rd1 rd2 rd3
      generalize (((xorB bs data)[n].toNat : Nat) : Int) = x1 at *
      generalize ((data[n].toNat : Nat) : Int) = x2 at *
      generalize ((bs[n].toNat : Nat) : Int) = x3 at *
      go_wp2
      go_quiet (fail)
      go_wp2
      go_roundw
      case rel => exact ⟨n + 1, by omega, by go_num, Lib.hid (kw.out.drewN _)⟩
      case measure => simp [intOf]; omega
    · obtain rfl : n = bs.length := by omega
      go_wp2
      go_ret
      exact ⟨rfl, kw.out⟩

theorem xorB_self2 {bs data : Bts} (h : data.length = bs.length) : xorB data (xorB bs data) = bs := by
  rw [xorB_comm data, xorB_back h.symm]
set_option maxRecDepth 100000 in
set_option maxHeartbeats 8000000 in
theorem swapPads_walk {seed : Int} {D1 D2 D3 : Nat → Prop} {w : World} {s : ByteArray} {v1 v2 v3 : Value} {bs data oth : Bts} (hs : s.size ≤ 140737488355328) (h1 : BV D1 w v1 bs) (h2 : BV D2 w v2 data) (h3 : BV D3 w v3 oth) :
    Calls Try.prog 19 #[.int .u64 seed, .string s, v1, v2, v3] w fun e w' => e = .returned (.bool true) ∧ Kept Noneof w w' := by
  have H1 := Lib.hid (h1.lt byteEl_k)
  have H2 := Lib.hid (h2.lt byteEl_k)
  have H3 := Lib.hid (h3.lt byteEl_k)
  have HS := Lib.hid hs
  obtain ⟨a1, c1, rfl, _⟩ := h1
  obtain ⟨a2, c2, rfl, _⟩ := h2
  obtain ⟨a3, c3, rfl, _⟩ := h3
  clear hs
  go_enter Try.func19, Try.ntmps19
  go_wp2_with fail
  refine (swExplain_calls H1.out H2.out).mono ?_
  rintro e w1 ⟨hres, k1⟩
  have K1 := Lib.hid k1
  rcases hres with ⟨hl, rfl⟩ | ⟨vp, hl, rfl, op⟩
  · have e1 : ((data.length : Int) != (bs.length : Int)) = true := by rw [bne_iff_ne]; omega
    clear hl k1
    go_wp2
    go_ret
    exact ⟨rfl, K1.out⟩
  have HL := Lib.hid hl
  have HP := Lib.hid (show (xorB bs data).length = bs.length by rw [xorB_len]; omega)
  have OP := Lib.hid (show BV (fun b => w.heap.size ≤ b ∧ b < w1.heap.size) w1 vp (xorB bs data) from (op.sv.bd byteEl_k).wide byteEl_k fun b h _ => ⟨h.1.elim (fun h => h.elim) id, h.2⟩)
  have S1 := Lib.hid (show w.heap.size ≤ w1.heap.size from k1.size)
  have e1 : ((data.length : Int) != (bs.length : Int)) = false := by rw [hl]; simp
  obtain ⟨ap, cp, rfl, _⟩ := op.sv
  clear op k1 hl
  go_wp2_with fail
  clear e1
  refine (l7explains_calls OP.out (H2.out.still' K1.out) (H1.out.still' K1.out) HL.out).mono ?_
  rintro e w2 ⟨rfl, k2⟩
  have K2 := Lib.hid (K1.out.tr k2)
  replace OP := Lib.hid (OP.out.still' k2)
  have S2 := Lib.hid (show w1.heap.size ≤ w2.heap.size from k2.size)
  clear k2
  go_wp2_with fail
  refine (r7Named_calls HS.out).mono ?_
  rintro e w2 ⟨rfl, rfl⟩
  cases hn : namedK (sB s)
  · go_wp2
    go_ret
    exact ⟨rfl, K2.out⟩
  have HN := Lib.hid hn
  clear hn
  by_cases h9 : bs.length ≤ 999
  rotate_left
  · have e9 : decide ((999 : Int) < (bs.length : Int)) = true := decide_eq_true (by omega)
    clear h9
    go_wp2
    go_ret
    exact ⟨rfl, K2.out⟩
  have H9 := Lib.hid h9
  have e9 : decide ((999 : Int) < (bs.length : Int)) = false := decide_eq_false (by omega)
  clear h9
  go_wp2_with fail
  clear e9
  refine (swNew_calls (seed := seed)).mono ?_
  rintro e w3 ⟨vv, rfl, hv, k3, hvv⟩
  have K3 := Lib.hid (K2.out.tr k3)
  have HV := Lib.hid hv
  replace OP := Lib.hid (OP.out.still' k3)
  have S3 := Lib.hid (show w2.heap.size ≤ w3.heap.size from k3.size)
  clear hv k3 hvv
  go_wp2_with fail
  refine (vPut_ok (seed := seed) (l := []) HV.out (H2.out.still' K3.out) OP.out (fun b h => h.2) (fun b h hf => by have := hf.1; have := S1.out; have := S2.out; omega) (fun b h hf => by have := hf.1; have := h.2; have := S2.out; omega) HN.out (by rw [HP.out]; exact HL.out) (by rw [HL.out]; exact H9.out) rfl (by simp) HS.out).mono ?_
  rintro e w4 ⟨v4, F4, rfl, b4, t4, hF4, k4⟩
  rw [xorB_self2 HL.out] at b4
  have B4 := Lib.hid b4
  have K4 := Lib.hid (K3.out.trans k4 fun b h => .inr (by have := h.1; have := S1.out; have := S2.out; omega))
  replace OP := Lib.hid (OP.out.kept byteEl_k k4 fun b h _ hf => by have := hf.1; have := h.2; have := S2.out; omega)
  obtain ⟨x1, c4, rfl, _⟩ := b4
  clear t4 hF4 k4 HV
  go_upto_region 9 with (fail)
  have G := heap_alloc_new w4 (.cells #[.string s, .slice x1 bs.length c4] 105)
  have k5 := (Kept.refl Noneof w4).alloc (.cells #[.string s, .slice x1 bs.length c4] 105)
  generalize w4.alloc (.cells #[.string s, .slice x1 bs.length c4] 105) = w5 at *
  have f0 : w5.cell? ⟨w4.heap.size, 0, none⟩ = some (.string s) := by simp [World.cell?, G]
  have f1 : w5.cell? ⟨w4.heap.size, 1, none⟩ = some (.slice x1 bs.length c4) := by simp [World.cell?, G]
  have K5 := Lib.hid (K4.out.tr k5)
  replace B4 := Lib.hid (B4.out.still' k5)
  replace OP := Lib.hid (OP.out.still' k5)
  clear k5 G
  go_wp2_with fail
  refine (r2Compare_calls B4.out (H1.out.still' K5.out)).mono ?_
  rintro e w6 ⟨rfl, d6⟩
  rw [cmpB_self]
  have k6 := (Kept.refl Noneof w5).drewn d6
  have K6 := Lib.hid (K5.out.tr k6)
  replace OP := Lib.hid (OP.out.still' k6)
  clear d6 k6 B4 f0 f1
  by_cases hlo : oth.length = bs.length
  rotate_left
  · have e1 : ((oth.length : Int) != (bs.length : Int)) = true := by rw [bne_iff_ne]; omega
    clear hlo
    go_wp2
    go_ret
    exact ⟨rfl, K6.out⟩
  have HO := Lib.hid hlo
  have e1 : ((oth.length : Int) != (bs.length : Int)) = false := by rw [hlo]; simp
  clear hlo
  go_wp2_with fail
  clear e1
  refine (r2Compare_calls (H3.out.still' K6.out) OP.out).mono ?_
  rintro e w7 ⟨rfl, d7⟩
  have k7 := (Kept.refl Noneof w6).drewn d7
  have K7 := Lib.hid (K6.out.tr k7)
  clear d7 k7
  by_cases hc : cmpB oth (xorB bs data) = 0
  · rw [hc]
    go_wp2
    go_ret
    exact ⟨rfl, K7.out⟩
  have NE := Lib.hid (show ¬ oth = xorB bs data from fun e => hc (by rw [e]; exact cmpB_self _))
  have ec : (cmpB oth (xorB bs data) == 0) = false := by rw [beq_eq_false_iff_ne]; exact hc
  clear hc
  generalize cmpB oth (xorB bs data) = cc at *
  go_wp2_with fail
  clear ec
  refine (swNew_calls (seed := seed)).mono ?_
  rintro e w8 ⟨vv', rfl, hv, k8, hvv⟩
  have K8 := Lib.hid (K7.out.tr k8)
  have HV := Lib.hid hv
  have S7 := Lib.hid (show w.heap.size ≤ w7.heap.size from K7.out.size)
  clear hv k8 hvv
  go_wp2_with fail
  refine (vPut_ok (seed := seed) (l := []) HV.out (H2.out.still' K8.out) (H3.out.still' K8.out) (fun b h => h.2) (fun b h hf => by have := hf.1; have := S7.out; omega) (fun b h hf => by have := hf.1; have := S7.out; omega) HN.out (by rw [HL.out, HO.out]) (by rw [HL.out]; exact H9.out) rfl (by simp) HS.out).mono ?_
  rintro e w9 ⟨v9, F9, rfl, b9, t9, hF9, k9⟩
  have B9 := Lib.hid b9
  have K9 := Lib.hid (K8.out.trans k9 fun b h => .inr (by have := h.1; have := S7.out; omega))
  obtain ⟨y1, c9, rfl, _⟩ := b9
  have hne : ¬ cmpB (xorB data oth) bs = 0 := fun h => by
    have h := cmpB_zero h
    have h2 := xorB_self2 HL.out
    rw [← h2] at h
    exact NE.out (xorB_inj (by rw [HL.out, HO.out]) (by rw [HL.out, HP.out]) h)
  have e2 : (cmpB (xorB data oth) bs != 0) = true := by rw [bne_iff_ne]; exact hne
  have E2 := Lib.hid e2
  clear t9 hF9 k9 HV hne e2
  go_upto_region 14 with (fail)
  have G := heap_alloc_new w9 (.cells #[.string s, .slice y1 (xorB data oth).length c9] 105)
  have ka := (Kept.refl Noneof w9).alloc (.cells #[.string s, .slice y1 (xorB data oth).length c9] 105)
  generalize w9.alloc (.cells #[.string s, .slice y1 (xorB data oth).length c9] 105) = wa at *
  have f1 : wa.cell? ⟨w9.heap.size, 1, none⟩ = some (.slice y1 (xorB data oth).length c9) := by simp [World.cell?, G]
  have KA := Lib.hid (K9.out.tr ka)
  replace B9 := Lib.hid (B9.out.still' ka)
  clear ka G
  go_wp2_with fail
  refine (r2Compare_calls B9.out (H1.out.still' KA.out)).mono ?_
  rintro e wb ⟨rfl, db⟩
  have KB := Lib.hid (KA.out.drewn db)
  have e2 := E2.out
  generalize cmpB (xorB data oth) bs = c2' at *
  clear db f1
  go_wp2
  go_ret
  exact ⟨rfl, KB.out⟩
end Go.Proofs.Ytaopjdjbpamhhaa
/- Proved: the law SwapPads returns true for all its arguments, and each argument reads afterwards as it read before. No condition beyond the statement's own. -/
namespace Go.Proofs.Ytaopjdjbpamhhaa.swapPads
open Go.ChangeShapes Go.WideShapes Go.ChangeAt Go.RowKit
open Go.ChangeMaps (open_string shut_string)
set_option linter.unusedVariables false
theorem opensByte : Opens Try.prog 5 byteEl := opens_byte Try.underlying5
set_option maxRecDepth 100000 in
theorem lifted (os : Os) (started : os.Started) (H : Type) (enc : TypeId × Value → H) :
    ReturnsInHanded {} Try.checked os 19 .any (Rows.swapPadsSpec.pre6 enc Try.prog Try.f19 Rows.swapPadsRow.domain false) (Rows.swapPadsSpec.post enc Try.prog Try.f19 false true false false) := by
  refine returnsInHanded_of_change_sized (C := Try.checked) Facts.own started (by kernel_rfl) Try.func19
    (ChangeSpec.witness6 (enc := enc) (C := Try.checked) false ⟨#[], #[.int .u64 0, .string ⟨#[]⟩, .slice none 0 0, .slice none 0 0, .slice none 0 0], []⟩ 8 (by kernel_rfl) (by kernel_rfl) (by kernel_rfl) (by kernel_rfl)) ?_
  intro W base args ds gs before hval0 hW hcnd hsz0 _
  have hsz : (DataW.weightsEach Try.prog (Try.f19.params.toList ++ Rows.swapPadsSpec.plain.varTypes Try.prog) (ds ++ gs)).all (· ≤ reachBytes) = true := hsz0
  have hval : ∀ (j : Nat) t v, Try.f19.params[j]? = some t → args[j]? = some v → Value.okWide Try.prog W .any base t v := hval0
  have hW' := hW
  obtain ⟨p, q, hA0, hV, rfl, hfz, hnd⟩ := hW
  have hA : DataW.TrodAll enc Try.prog W 0 (fun _ => true) true Try.f19.params.toList args.toList ds p := hA0
  rw [Try.params19] at hA hval hsz
  obtain ⟨v0, vs0, d0, ds0, p0, q0, hargs, rfl, rfl, h0, r0⟩ := trodAll_cons hA
  obtain ⟨v1, vs1, d1, ds1, p1, q1, rfl, rfl, rfl, h1, r1⟩ := trodAll_cons r0
  obtain ⟨v2, vs2, d2, ds2, p2, q2, rfl, rfl, rfl, h2, r2⟩ := trodAll_cons r1
  obtain ⟨v3, vs3, d3, ds3, p3, q3, rfl, rfl, rfl, h3, r3⟩ := trodAll_cons r2
  obtain ⟨v4, vs4, d4, ds4, p4, q4, rfl, rfl, rfl, h4, r4⟩ := trodAll_cons r3
  obtain ⟨rfl, rfl, rfl⟩ := trodAll_nil r4
  obtain rfl : args = #[v0, v1, v2, v3, v4] := by cases args; simp_all
  obtain ⟨rfl, rfl⟩ := trodVars_none hV
  obtain ⟨a0, rfl, rfl, rfl, w0⟩ := open_int Try.underlying22 (hval 0 22 v0 rfl rfl) h0
  obtain ⟨a1, rfl, rfl, rfl, w1⟩ := open_string Try.underlying9 (hval 1 9 v1 rfl rfl) h1
  obtain ⟨a2, len2, cap2, rfl⟩ := okWide_slice Try.underlying31 (hval 2 31 v2 rfl rfl)
  obtain ⟨a3, len3, cap3, rfl⟩ := okWide_slice Try.underlying31 (hval 3 31 v3 rfl rfl)
  obtain ⟨a4, len4, cap4, rfl⟩ := okWide_slice Try.underlying31 (hval 4 31 v4 rfl rfl)
  have k2 := h2
  have lt2 : ∀ x ∈ p2, x.block < W.heap.size := by obtain ⟨m, hm⟩ := k2; exact DataW.trod_lt m _ _ _ hm
  have k3 := h3
  have lt3 : ∀ x ∈ p3, x.block < W.heap.size := by obtain ⟨m, hm⟩ := k3; exact DataW.trod_lt m _ _ _ hm
  have k4 := h4
  have lt4 : ∀ x ∈ p4, x.block < W.heap.size := by obtain ⟨m, hm⟩ := k4; exact DataW.trod_lt m _ _ _ hm
  obtain ⟨l2, s2⟩ := open_arg (E := byteEl) (j := 2) byteEl_k opensByte Try.underlying31 (by kernel_rfl) (of_decide_eq_true (by kernel_rfl)) h2 rfl hsz rfl rfl
  obtain ⟨l3, s3⟩ := open_arg (E := byteEl) (j := 3) byteEl_k opensByte Try.underlying31 (by kernel_rfl) (of_decide_eq_true (by kernel_rfl)) h3 rfl hsz rfl rfl
  obtain ⟨l4, s4⟩ := open_arg (E := byteEl) (j := 4) byteEl_k opensByte Try.underlying31 (by kernel_rfl) (of_decide_eq_true (by kernel_rfl)) h4 rfl hsz rfl rfl
  have z1 : a1.size ≤ 140737488355328 := by
    have h := sized_string (j := 1) hsz rfl rfl
    have e : a1.data.toList.length = a1.size := by rw [Array.length_toList]; rfl
    have r : reachBytes = 140737488351232 := by decide
    omega
  clear hA0 hval0 hsz0
  refine (swapPads_walk (seed := a0) z1 s2 s3 s4).mono fun e W' ⟨he, kw⟩ => ?_
  have bel : Below W.heap.size W W' := kw.below (Nat.le_refl _) fun _ h => h.elim
  subst he
  exact ⟨_, rfl, _, _, _, [], _, [], hW', trodAll_mk1 (shut_bool Try.underlying4 _), (trodAll_cons_mk (shut_int Try.underlying22 w0) (trodAll_cons_mk (shut_string Try.underlying9 w1) (trodAll_cons_mk (Below.trod Facts.laid (by kernel_rfl) (of_decide_eq_true (by kernel_rfl)) k2 bel lt2) (trodAll_cons_mk (Below.trod Facts.laid (by kernel_rfl) (of_decide_eq_true (by kernel_rfl)) k3 bel lt3) (trodAll_cons_mk (Below.trod Facts.laid (by kernel_rfl) (of_decide_eq_true (by kernel_rfl)) k4 bel lt4) trodAll_mk0))))), rfl, bel.frame _, fun h => by cases h⟩
set_option maxHeartbeats 4000000 in
theorem closed : joinedFacts Try.prog 19 Try.f19 Rows.swapPadsSpec Rows.swapPadsRow = true := by
  refine Facts.joined 19 Try.f19 Rows.swapPadsSpec Rows.swapPadsRow ?_ ?_ ?_ ?_ ?_ ?_ ?_ ?_ ?_ ?_ ?_ ?_ ?_ ?_ ?_ ?_ ?_ ?_ ?_ ?_ ?_ ?_ ?_ ?_ ?_ ?_ ?_ <;> exact (by as_aux_lemma => kernel_rfl)
set_option maxHeartbeats 4000000 in
theorem over : Rows.swapPadsRow.holds Try.pinned (OpenSpec.ofChange Rows.swapPadsSpec) :=
  OpenClaim.holds_of_wide 19 Try.f19 rfl rfl rfl rfl rfl rfl rfl ⟨rfl, rfl, rfl, rfl, rfl⟩ rfl rfl rfl rfl rfl (by as_aux_lemma => kernel_rfl) Try.func19 closed
    (of_decide_eq_true (by as_aux_lemma => kernel_rfl)) (by unfold Func.isWrapper; first | (rw [if_pos (by decide +kernel)]; kernel_rfl) | (rw [if_neg (by decide +kernel)]; exact ⟨rfl, rfl⟩))
    (fun os started H enc _ => lifted os started H enc)
theorem proved : Rows.SwapPadsSaid := over
end Go.Proofs.Ytaopjdjbpamhhaa.swapPads
namespace Go.Proofs.Ytaopjdjbpamhhaa
theorem swapPads_holds : Rows.SwapPadsSaid := swapPads.proved
#print axioms swapPads_holds
end Go.Proofs.Ytaopjdjbpamhhaa
