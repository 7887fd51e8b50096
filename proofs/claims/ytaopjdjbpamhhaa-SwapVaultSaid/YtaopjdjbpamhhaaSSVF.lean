/- Proved: texts of the families over slots, order and swap, joined, as far as the claim needs them. Conditions: as each theorem says. -/
import Derived.Test.YtaopjdjbpamhhaaSSVC
import Derived.MapKept
import Derived.ChangeMaps4
import Derived.Laws.IdiomStrings
import Derived.Laws.BytesString
import Derived.Laws.BytesArg
import Derived.Lib.ConvBytes
import Derived.Test.YtaopjdjbpamhhaaSSVD
import Derived.Test.YtaopjdjbpamhhaaSSVA
/- Proved: general facts on the model's maps keyed by strings whose elements are pairs of byte slices with two numbers: what is read, stored and taken out. Conditions: maps in memory. -/
namespace Go.Proofs.Ytaopjdjbpamhhaa
open Go Go.RowKit
open Go.MapKept (Stamped IsKey findNow_spec stamped_push stamped_modify stamped_erase stamped_empty)
open Go.ChangeMaps (setBlock)
set_option linter.unusedVariables false
set_option linter.unusedSimpArgs false
/-! ### Plain: pairs in the order in which their keys came -/
def tget : List (Bts × Bts) → Bts → Option Bts
  | [], _ => none
  | p :: l, k => if p.1 = k then some p.2 else tget l k
def tput : List (Bts × Bts) → Bts → Bts → List (Bts × Bts)
  | [], k, v => [(k, v)]
  | p :: l, k, v => if p.1 = k then (k, v) :: l else p :: tput l k v
def tdel : List (Bts × Bts) → Bts → List (Bts × Bts)
  | [], _ => []
  | p :: l, k => if p.1 = k then l else p :: tdel l k

/-! ### Entries that read as pairs -/
def strV (k : Bts) : Value := .string ⟨k.toArray⟩
theorem strV_inj {a b : Bts} (h : strV a = strV b) : a = b := by
  unfold strV at h
  injection h with h
  injection h with h
  exact congrArg Array.toList h
def entV (seed : Int) (kv vv : Value) (k : Bts) : Value := .agg #[kv, vv, .int .u64 (coin seed 1 k), .int .u64 (coin seed 2 k)]
def EntIn (seed : Int) (D : Nat → Prop) (w : World) (e : MapEntry) (p : Bts × Bts) : Prop := ∃ kv vv, e.key = strV p.1 ∧ e.val = entV seed kv vv p.1 ∧ BV D w kv p.1 ∧ BV D w vv p.2
def EntsIn (seed : Int) (D : Nat → Prop) (w : World) : List MapEntry → List (Bts × Bts) → Prop
  | [], [] => True
  | e :: es, p :: l => EntIn seed D w e p ∧ EntsIn seed D w es l
  | [], _ :: _ => False
  | _ :: _, [] => False
section
variable {seed : Int} {D D' : Nat → Prop} {w w' : World}
theorem EntIn.mono {e : MapEntry} {p : Bts × Bts} (h : EntIn seed D w e p) (hw : ∀ b, D b → b < w.heap.size → D' b ∧ w'.heap[b]? = w.heap[b]?) : EntIn seed D' w' e p := by
  obtain ⟨kv, vv, h1, h2, h3, h4⟩ := h
  exact ⟨kv, vv, h1, h2, h3.mono byteEl_k hw, h4.mono byteEl_k hw⟩
theorem EntsIn.mono (hw : ∀ b, D b → b < w.heap.size → D' b ∧ w'.heap[b]? = w.heap[b]?) : ∀ {es : List MapEntry} {l : List (Bts × Bts)}, EntsIn seed D w es l → EntsIn seed D' w' es l
  | [], [], _ => trivial
  | e :: es, p :: l, h => ⟨h.1.mono hw, h.2.mono hw⟩
  | [], _ :: _, h => h.elim
  | _ :: _, [], h => h.elim
theorem EntsIn.length : ∀ {es : List MapEntry} {l : List (Bts × Bts)}, EntsIn seed D w es l → es.length = l.length
  | [], [], _ => rfl
  | e :: es, p :: l, h => by rw [List.length_cons, List.length_cons, h.2.length]
  | [], _ :: _, h => h.elim
  | _ :: _, [], h => h.elim
theorem EntsIn.key : ∀ {es : List MapEntry} {l : List (Bts × Bts)}, EntsIn seed D w es l → ∀ x ∈ es, IsKey .string x.key
  | [], [], _ => by simp
  | e :: es, p :: l, h => fun x hx => by
    rcases List.mem_cons.1 hx with rfl | hx
    · obtain ⟨_, _, h1, _⟩ := h.1
      rw [h1]
      exact trivial
    · exact h.2.key x hx
  | [], _ :: _, h => h.elim
  | _ :: _, [], h => h.elim
theorem EntsIn.at_ : ∀ {es : List MapEntry} {l : List (Bts × Bts)}, EntsIn seed D w es l → ∀ (i : Nat) (e : MapEntry), es[i]? = some e → ∃ p, l[i]? = some p ∧ EntIn seed D w e p
  | [], [], _, i, e, he => by simp at he
  | e :: es, p :: l, h, 0, x, he => by
    simp only [List.getElem?_cons_zero, Option.some.injEq] at he
    subst he
    exact ⟨p, rfl, h.1⟩
  | e :: es, p :: l, h, i + 1, x, he => by
    obtain ⟨q, h1, h2⟩ := h.2.at_ i x (by simpa using he)
    exact ⟨q, by simpa using h1, h2⟩
  | [], _ :: _, h, _, _, _ => h.elim
  | _ :: _, [], h, _, _, _ => h.elim
theorem EntsIn.push {e : MapEntry} {p : Bts × Bts} (he : EntIn seed D w e p) : ∀ {es : List MapEntry} {l : List (Bts × Bts)}, EntsIn seed D w es l → EntsIn seed D w (es ++ [e]) (l ++ [p])
  | [], [], _ => ⟨he, trivial⟩
  | _ :: _, _ :: _, h => ⟨h.1, h.2.push he⟩
  | [], _ :: _, h => h.elim
  | _ :: _, [], h => h.elim
theorem EntsIn.modify {p : Bts × Bts} {f : MapEntry → MapEntry} : ∀ {es : List MapEntry} {l : List (Bts × Bts)} {i : Nat}, (∀ e, es[i]? = some e → EntIn seed D w (f e) p) → EntsIn seed D w es l → EntsIn seed D w (es.modify i f) (l.set i p)
  | [], [], i, _, _ => by simp; trivial
  | e :: es, q :: l, 0, hf, h => ⟨hf e rfl, h.2⟩
  | e :: es, q :: l, i + 1, hf, h => ⟨h.1, h.2.modify (i := i) fun x hx => hf x (by simpa using hx)⟩
  | [], _ :: _, _, _, h => h.elim
  | _ :: _, [], _, _, h => h.elim
theorem EntsIn.erase : ∀ {es : List MapEntry} {l : List (Bts × Bts)} (i : Nat), EntsIn seed D w es l → EntsIn seed D w (es.eraseIdx i) (l.eraseIdx i)
  | [], [], i, _ => by simp; trivial
  | _ :: _, _ :: _, 0, h => h.2
  | _ :: _, _ :: _, i + 1, h => ⟨h.1, h.2.erase i⟩
  | [], _ :: _, _, h => h.elim
  | _ :: _, [], _, h => h.elim
/-- Where a key stands, and what that means for the pairs. -/
theorem EntsIn.find (k : Bts) : ∀ {es : List MapEntry} {l : List (Bts × Bts)} (i : Nat), EntsIn seed D w es l →
    (Instr.findNow .string (strV k) es i = some none ∧ (∀ x ∈ es, x.key ≠ strV k) ∧ tget l k = none ∧ (∀ v, tput l k v = l ++ [(k, v)]) ∧ tdel l k = l) ∨
    ∃ j e p, Instr.findNow .string (strV k) es i = some (some (i + j, e.val)) ∧ es[j]? = some e ∧ e.key = strV k ∧ l[j]? = some p ∧ p.1 = k ∧ EntIn seed D w e p ∧ tget l k = some p.2 ∧ (∀ v, tput l k v = l.set j (k, v)) ∧ tdel l k = l.eraseIdx j
  | [], [], i, _ => .inl ⟨rfl, by simp, rfl, fun _ => rfl, rfl⟩
  | e :: es, p :: l, i, h => by
    obtain ⟨kv, vv, h1, h2, h3, h4⟩ := h.1
    have hb : Instr.sameNow .string (strV k) e.key = some (decide (p.1 = k)) := by
      rw [h1]
      simp only [strV, Instr.sameNow]
      congr 1
      rw [Bool.eq_iff_iff, Go.MapKept.bytes_beq, decide_eq_true_eq]
      constructor
      · intro e; exact (strV_inj (by unfold strV; rw [e])).symm
      · rintro rfl; rfl
    by_cases hk : p.1 = k
    · refine .inr ⟨0, e, p, ?_, rfl, by rw [h1, hk], rfl, hk, h.1, by rw [tget, if_pos hk], fun v => by rw [tput, if_pos hk]; rfl, by rw [tdel, if_pos hk]; rfl⟩
      rw [Instr.findNow, hb, decide_eq_true hk]
      rfl
    · rcases h.2.find k (i + 1) with ⟨a1, a2, a3, a4, a5⟩ | ⟨j, e', p', a1, a2, a3, a4, a5, a6, a7, a8, a9⟩
      · refine .inl ⟨by rw [Instr.findNow, hb, decide_eq_false hk]; exact a1, fun x hx => ?_, by rw [tget, if_neg hk]; exact a3, fun v => by rw [tput, if_neg hk, a4]; rfl, by rw [tdel, if_neg hk, a5]⟩
        rcases List.mem_cons.1 hx with rfl | hx
        · rw [h1]; exact fun e => hk (strV_inj e)
        · exact a2 x hx
      · refine .inr ⟨j + 1, e', p', ?_, by simpa using a2, a3, by simpa using a4, a5, a6, by rw [tget, if_neg hk]; exact a7, fun v => by rw [tput, if_neg hk, a8]; rfl, by rw [tdel, if_neg hk, a9]; rfl⟩
        rw [Instr.findNow, hb, decide_eq_false hk]
        simp only [a1]
        congr 3
        omega
  | [], _ :: _, _, h => h.elim
  | _ :: _, [], _, h => h.elim
end
/-! ### A map's block -/
structure PadIn (seed : Int) (w : World) (r : Nat) (es : Array MapEntry) (clock : Nat) (l : List (Bts × Bts)) (D : Nat → Prop) : Prop where
  hm : w.heap[r]? = some (.map es clock)
  st : Stamped es clock
  el : EntsIn seed D w es.toList l
  dr : ¬ D r
section
variable {P : Program} {seed : Int} {w : World} {r clock : Nat} {es : Array MapEntry} {l : List (Bts × Bts)} {D : Nat → Prop} {T K E : TypeId}
theorem PadIn.size (h : PadIn seed w r es clock l D) : es.size = l.length := by rw [← Array.length_toList]; exact h.el.length
theorem PadIn.kept {w' : World} {X : Nat → Prop} (h : PadIn seed w r es clock l D) (k : Kept X w w') (hX : ∀ b, D b → b < w.heap.size → ¬ X b) (hr : ¬ X r) : PadIn seed w' r es clock l D :=
  ⟨k.obj hr h.hm, h.st, h.el.mono fun b hb hl => ⟨hb, k.block b hl (hX b hb hl)⟩, h.dr⟩
theorem PadIn.wide {D' : Nat → Prop} (h : PadIn seed w r es clock l D) (hD : ∀ b, D b → b < w.heap.size → D' b) (hr : ¬ D' r) : PadIn seed w r es clock l D' :=
  ⟨h.hm, h.st, h.el.mono fun b hb hl => ⟨hD b hb hl, rfl⟩, hr⟩
theorem setBlock_kept (w : World) (r : Nat) (o : Obj) : Kept (fun b => b = r) w (setBlock w r o) := by
  refine ⟨rfl, rfl, rfl, ?_, fun k hk hn => ?_⟩
  · unfold setBlock; simp
  · unfold setBlock; simp only; rw [Array.getElem?_setIfInBounds_ne fun e => hn e.symm]
theorem PadIn.look (h : PadIn seed w r es clock l D) (hT : P.underlying T = some (.map K E)) (hK : P.underlying K = some .string) {z : Value} (hz : ∀ w, (zeroValue E).run P w = .ok z w) (k : Bts) :
    ∃ v, (Instr.lookup T (.map (some r)) (strV k) true).run P w = .ok (.tuple #[v, .bool (tget l k).isSome]) w ∧ ((tget l k = none ∧ v = z) ∨ ∃ x kv vv, tget l k = some x ∧ v = entV seed kv vv k ∧ BV D w kv k ∧ BV D w vv x) := by
  have hck : (Instr.checkKey es.isEmpty 10000 K (strV k)).run P w = .ok () w := Go.MapKept.run_checkKey hK (by exact trivial) _ 9999
  rcases h.el.find k 0 with ⟨a1, a2, a3, a4, a5⟩ | ⟨j, e, p, a1, a2, a3, a4, a5, a6, a7, a8, a9⟩
  · refine ⟨z, ?_, .inl ⟨a3, rfl⟩⟩
    rw [a3]
    simp [Instr.lookup, run_underlying hT, Go.MapKept.run_getObj_map h.hm, hck, Go.MapKept.run_findKey hK a1, hz, Result.andThen]
  · obtain ⟨kv, vv, b1, b2, b3, b4⟩ := a6
    rw [a5] at b2 b3
    refine ⟨e.val, ?_, .inr ⟨p.2, kv, vv, a7, b2, b3, b4⟩⟩
    rw [a7]
    simp [Instr.lookup, run_underlying hT, Go.MapKept.run_getObj_map h.hm, hck, Go.MapKept.run_findKey hK a1, Result.andThen]
/-- What a look-up gives, in whatever world holds these entries. -/
theorem PadIn.look' (h : PadIn seed w r es clock l D) (hT : P.underlying T = some (.map K E)) (hK : P.underlying K = some .string) {z : Value} (hz : ∀ w, (zeroValue E).run P w = .ok z w) (k : Bts) :
    ∃ v, (∀ w', w'.heap[r]? = some (.map es clock) → (Instr.lookup T (.map (some r)) (strV k) true).run P w' = .ok (.tuple #[v, .bool (tget l k).isSome]) w') ∧ ((tget l k = none ∧ v = z) ∨ ∃ x kv vv, tget l k = some x ∧ v = entV seed kv vv k ∧ BV D w kv k ∧ BV D w vv x) := by
  have hck : ∀ w', (Instr.checkKey es.isEmpty 10000 K (strV k)).run P w' = .ok () w' := fun w' => Go.MapKept.run_checkKey hK (by exact trivial) _ 9999
  rcases h.el.find k 0 with ⟨a1, a2, a3, a4, a5⟩ | ⟨j, e, p, a1, a2, a3, a4, a5, a6, a7, a8, a9⟩
  · refine ⟨z, fun w' hm => ?_, .inl ⟨a3, rfl⟩⟩
    rw [a3]
    simp [Instr.lookup, run_underlying hT, Go.MapKept.run_getObj_map hm, hck, Go.MapKept.run_findKey hK a1, hz, Result.andThen]
  · obtain ⟨kv, vv, b1, b2, b3, b4⟩ := a6
    rw [a5] at b2 b3
    refine ⟨e.val, fun w' hm => ?_, .inr ⟨p.2, kv, vv, a7, b2, b3, b4⟩⟩
    rw [a7]
    simp [Instr.lookup, run_underlying hT, Go.MapKept.run_getObj_map hm, hck, Go.MapKept.run_findKey hK a1, Result.andThen]
theorem PadIn.store (h : PadIn seed w r es clock l D) (hT : P.underlying T = some (.map K E)) (hK : P.underlying K = some .string) {k v : Bts} {kv vv : Value} (h1 : BV D w kv k) (h2 : BV D w vv v) :
    ∃ es' clock', (Instr.mapUpdate T (.map (some r)) (strV k) (entV seed kv vv k)).run P w = .ok () (setBlock w r (.map es' clock')) ∧ PadIn seed (setBlock w r (.map es' clock')) r es' clock' (tput l k v) D := by
  have hck : (Instr.checkKey false 10000 K (strV k)).run P w = .ok () w := Go.MapKept.run_checkKey hK (by exact trivial) _ 9999
  have hmo : ∀ o (es : List MapEntry) (l : List (Bts × Bts)), EntsIn seed D w es l → EntsIn seed D (setBlock w r o) es l := fun o es l he => he.mono fun b hb hl => ⟨hb, (setBlock_kept w r o).block b hl fun e => h.dr (e ▸ hb)⟩
  have hnew : ∀ b, EntIn seed D w { key := strV k, val := entV seed kv vv k, born := b } (k, v) := fun b => ⟨kv, vv, rfl, rfl, h1, h2⟩
  have hlt : r < w.heap.size := block_lt h.hm
  have hset : ∀ o, (setBlock w r o).heap[r]? = some o := fun o => by unfold setBlock; simp [hlt]
  rcases h.el.find k 0 with ⟨a1, a2, a3, a4, a5⟩ | ⟨j, e, p, a1, a2, a3, a4, a5, a6, a7, a8, a9⟩
  · refine ⟨es.push { key := strV k, val := entV seed kv vv k, born := clock }, clock + 1, ?_, hset _, stamped_push h.st a2, ?_, h.dr⟩
    · simp [Instr.mapUpdate, run_underlying hT, Go.MapKept.run_getObj_map h.hm, hck, Go.MapKept.run_findKey hK a1, Go.MapKept.run_setObj_map _ h.hm, Result.andThen, setBlock]
    · rw [a4, Array.toList_push]
      exact hmo _ _ _ (h.el.push (hnew clock))
  · have hj : es[j]? = some e := by simpa using a2
    have hes : (Instr.keyThatStays (strV k) (strV k)).run P w = .ok (strV k) w := Go.MapKept.run_keyThatStays (d := .string) (by exact trivial)
    refine ⟨es.modify j fun e => { e with key := strV k, val := entV seed kv vv k }, clock, ?_, hset _, ?_, ?_, h.dr⟩
    · simp [Instr.mapUpdate, run_underlying hT, Go.MapKept.run_getObj_map h.hm, hck, Go.MapKept.run_findKey hK a1, hj, a3, hes, Go.MapKept.run_setObj_map _ h.hm, Result.andThen, setBlock]
    · exact stamped_modify h.st _ _ (fun _ _ => rfl) fun e' _ he' => by rw [hj] at he'; cases he'; exact a3.symm
    · rw [a8, Array.toList_modify]
      refine hmo _ _ _ (h.el.modify fun x hx => ?_)
      exact hnew x.born
theorem PadIn.take (h : PadIn seed w r es clock l D) (hT : P.underlying T = some (.map K E)) (hK : P.underlying K = some .string) (k : Bts) (ty : TypeId) :
    ∃ es', (Builtin.delete_ #[T, K] ty #[.map (some r), strV k]).run P w = .ok (.tuple #[]) (setBlock w r (.map es' clock)) ∧ PadIn seed (setBlock w r (.map es' clock)) r es' clock (tdel l k) D := by
  have hck : (Instr.checkKey es.isEmpty 10000 K (strV k)).run P w = .ok () w := Go.MapKept.run_checkKey hK (by exact trivial) _ 9999
  have hmo : ∀ o (es : List MapEntry) (l : List (Bts × Bts)), EntsIn seed D w es l → EntsIn seed D (setBlock w r o) es l := fun o es l he => he.mono fun b hb hl => ⟨hb, (setBlock_kept w r o).block b hl fun e => h.dr (e ▸ hb)⟩
  have hlt : r < w.heap.size := block_lt h.hm
  have hset : ∀ o, (setBlock w r o).heap[r]? = some o := fun o => by unfold setBlock; simp [hlt]
  rcases h.el.find k 0 with ⟨a1, a2, a3, a4, a5⟩ | ⟨j, e, p, a1, a2, a3, a4, a5, a6, a7, a8, a9⟩
  · refine ⟨es, ?_, hset _, h.st, by rw [a5]; exact hmo _ _ _ h.el, h.dr⟩
    simp [Builtin.delete_, run_underlying hT, Go.MapKept.run_getObj_map h.hm, hck, Go.MapKept.run_findKey hK a1, Go.MapKept.run_setObj_map _ h.hm, Result.andThen, setBlock]
  · refine ⟨es.eraseIdxIfInBounds j, ?_, hset _, stamped_erase h.st _, ?_, h.dr⟩
    · simp [Builtin.delete_, run_underlying hT, Go.MapKept.run_getObj_map h.hm, hck, Go.MapKept.run_findKey hK a1, Go.MapKept.run_setObj_map _ h.hm, Result.andThen, setBlock]
    · rw [a9]
      have hjl : j < es.size := by have := (List.getElem?_eq_some_iff.1 a2).1; simpa using this
      have : (es.eraseIdxIfInBounds j).toList = es.toList.eraseIdx j := by
        unfold Array.eraseIdxIfInBounds
        rw [dif_pos hjl, Array.toList_eraseIdx]
      rw [this]
      exact hmo _ _ _ (h.el.erase j)
theorem PadIn.made (seed : Int) {w : World} : PadIn seed (w.alloc (.map #[] 0)) w.heap.size #[] 0 [] (fun _ => False) := ⟨heap_alloc_new _ _, stamped_empty 0, trivial, fun h => h⟩
end
/-! ### Bytes and strings -/
theorem conv_str {P : Program} {w : World} {src dst e : TypeId} {D : Nat → Prop} {v : Value} {k : Bts} (hs : P.underlying src = some (.slice e)) (he : P.underlying e = some (.int .u8)) (hd : P.underlying dst = some .string) (h : BV D w v k) :
    (convert src dst v).run P w = .ok (strV k) w := by
  obtain ⟨a, c, rfl, ⟨hc, hn⟩, _, rd⟩ := h
  cases a with
  | none =>
    have h0 : k = [] := List.eq_nil_of_length_eq_zero (by have := hn rfl; omega)
    subst h0
    exact run_convert_bytes_nil w src e hs he 0 c dst hd
  | some a =>
    refine run_convert_bytes_back w src dst e a c k hs he hd fun j hj => ?_
    obtain ⟨b, o, hb, _, h1⟩ := Rd.byte rd hj
    obtain rfl := Option.some.inj hb
    rw [Addr.add_lit]
    exact h1
end Go.Proofs.Ytaopjdjbpamhhaa
/- Proved: contracts of the table's functions New, none, allowed, entry, Put, Get, Drop, Len. Conditions: tables in memory. -/
namespace Go.Proofs.Ytaopjdjbpamhhaa
open Go Go.RowKit
open Go.MapKept (Stamped)
open Go.ChangeMaps (setBlock)
set_option linter.unusedVariables false
set_option linter.unusedSimpArgs false
def tabObj (seed : Int) (r : Nat) : Obj := .cells #[.bool true, .int .u64 seed, .map (some r)] 136
/-- A table in memory, in blocks F: its pairs in the order in which their keys came. -/
structure TabIn (seed : Int) (w : World) (t r : Nat) (es : Array MapEntry) (clock : Nat) (l : List (Bts × Bts)) (D F : Nat → Prop) : Prop where
  ho : w.heap[t]? = some (tabObj seed r)
  pd : PadIn seed w r es clock l D
  ne : t ≠ r
  dt : ¬ D t
  ft : F t
  fr : F r
  fd : ∀ b, D b → b < w.heap.size → F b
  ok : ∀ p ∈ l, okP p
  len : l.length ≤ 100000
def TabAt (seed : Int) (w : World) (t : Nat) (l : List (Bts × Bts)) (F : Nat → Prop) : Prop := ∃ r es clock D, TabIn seed w t r es clock l D F
theorem tabObj_cells {seed : Int} {w : World} {t r : Nat} (h : w.heap[t]? = some (tabObj seed r)) : w.cell? ⟨t, 0, none⟩ = some (.bool true) ∧ w.cell? ⟨t, 1, none⟩ = some (.int .u64 seed) ∧ w.cell? ⟨t, 2, none⟩ = some (.map (some r)) := by
  unfold tabObj at h
  simp [World.cell?, h]
section
variable {seed : Int} {w w' : World} {t : Nat} {l : List (Bts × Bts)} {F : Nat → Prop}
theorem TabAt.kept {X : Nat → Prop} (h : TabAt seed w t l F) (k : Kept X w w') (hX : ∀ b, F b → ¬ X b) : TabAt seed w' t l F := by
  obtain ⟨r, es, clock, D, h⟩ := h
  have p := h.pd
  refine ⟨r, es, clock, fun b => D b ∧ b < w.heap.size, k.obj (hX t h.ft) h.ho, (p.wide (D' := fun b => D b ∧ b < w.heap.size) (fun b hb hl => ⟨hb, hl⟩) fun h => p.dr h.1).kept k (fun b hb hl => hX b (h.fd b hb.1 hl)) (hX r h.fr), h.ne, fun hh => h.dt hh.1, h.ft, h.fr, fun b hb _ => h.fd b hb.1 hb.2, h.ok, h.len⟩
theorem TabAt.still (h : TabAt seed w t l F) (k : Kept Noneof w w') : TabAt seed w' t l F := h.kept k fun _ _ h => h
theorem TabAt.wide {F' : Nat → Prop} (h : TabAt seed w t l F) (hF : ∀ b, F b → b < w.heap.size → F' b) : TabAt seed w t l F' := by
  obtain ⟨r, es, clock, D, h⟩ := h
  exact ⟨r, es, clock, D, h.ho, h.pd, h.ne, h.dt, hF t h.ft (block_lt h.ho), hF r h.fr (block_lt h.pd.hm), fun b hb hl => hF b (h.fd b hb hl) hl, h.ok, h.len⟩
theorem TabAt.at (h : TabAt seed w t l F) (e : w'.heap = w.heap) : TabAt seed w' t l F := by
  obtain ⟨r, es, clock, D, h⟩ := h
  refine ⟨r, es, clock, D, by rw [e]; exact h.ho, ⟨by rw [e]; exact h.pd.hm, h.pd.st, h.pd.el.mono fun b hb _ => ⟨hb, by rw [e]⟩, h.pd.dr⟩, h.ne, h.dt, h.ft, h.fr, by rw [e]; exact h.fd, h.ok, h.len⟩
theorem TabAt.lt (h : TabAt seed w t l F) : t < w.heap.size := by
  obtain ⟨r, es, clock, D, h⟩ := h
  exact block_lt h.ho
theorem TabAt.cells (h : TabAt seed w t l F) : ∃ r, w.cell? ⟨t, 0, none⟩ = some (.bool true) ∧ w.cell? ⟨t, 1, none⟩ = some (.int .u64 seed) ∧ w.cell? ⟨t, 2, none⟩ = some (.map (some r)) := by
  obtain ⟨r, es, clock, D, h⟩ := h
  exact ⟨r, tabObj_cells h.ho⟩
end
theorem slnone_calls {seed : Int} {w : World} {t : Nat} {l : List (Bts × Bts)} {F : Nat → Prop} (h : TabAt seed w t l F) :
    Calls Try.prog 86 #[bp t] w fun e w' => e = .returned (.bool false) ∧ w' = w := by
  obtain ⟨r, c0, _⟩ := h.cells
  clear h
  go_enter Try.func86, Try.ntmps86
  go_wp2
  go_ret
  exact ⟨rfl, rfl⟩
theorem slallowed_calls {D1 D2 : Nat → Prop} {v1 v2 : Value} {key value : Bts} {w : World} (h1 : BV D1 w v1 key) (h2 : BV D2 w v2 value) :
    Calls Try.prog 87 #[v1, v2] w fun e w' => e = .returned (.bool (allowedK key value)) ∧ w' = w := by
  obtain ⟨a1, c1, rfl, _, _, _⟩ := h1
  obtain ⟨a2, c2, rfl, _, _, _⟩ := h2
  go_enter Try.func87, Try.ntmps87
  go_wp2
  all_goals
    go_ret
    refine ⟨ret_bool ?_, rfl⟩
    unfold allowedK
    rw [Bool.eq_iff_iff]
    simp
    try omega
theorem slNew_calls {seed : Int} {w : World} :
    Calls Try.prog 24 #[.int .u64 seed] w fun e w' => e = .returned (bp (w.heap.size + 1)) ∧ TabAt seed w' (w.heap.size + 1) [] (fun b => w.heap.size ≤ b ∧ b < w'.heap.size) ∧ Kept Noneof w w' ∧ w'.heap.size = w.heap.size + 2 := by
  have hmm := @run_makeMap Try.prog
  go_enter Try.func24, Try.ntmps24
  go_wp2
  go_ret
  have k1 := (Kept.refl Noneof w).alloc (.map #[] 0)
  have g1 := PadIn.made seed (w := w)
  generalize hw1 : w.alloc (.map #[] 0) = w1 at *
  have s1 : w1.heap.size = w.heap.size + 1 := by rw [← hw1]; simp
  have k2 := (Kept.refl Noneof w1).alloc (tabObj seed w.heap.size)
  have g2 := heap_alloc_new w1 (tabObj seed w.heap.size)
  rw [s1] at g2
  refine ⟨rfl, ⟨w.heap.size, #[], 0, fun _ => False, g2, g1.kept k2 (fun _ h => h.elim) (fun h => h), by omega, fun h => h, ?_, ?_, fun _ h => h.elim, by simp, by simp⟩, k1.tr k2, by simp [s1]⟩
  · simp [s1]
  · refine ⟨Nat.le_refl _, ?_⟩
    simp [s1]
    omega

/-! ### A new entry -/
theorem entObj_cells {w : World} {b : Nat} {x0 x1 x2 x3 : Value} (h : w.heap[b]? = some (.cells #[x0, x1, x2, x3] 138)) : w.cell? ⟨b, 0, none⟩ = some x0 ∧ w.cell? ⟨b, 1, none⟩ = some x1 ∧ w.cell? ⟨b, 2, none⟩ = some x2 ∧ w.cell? ⟨b, 3, none⟩ = some x3 ∧ ∀ j, w.frozen? ⟨b, j, none⟩ = false := by
  simp [World.cell?, World.frozen?, h]
theorem SV.still' {α : Type} {E : El α} {D : Nat → Prop} {w w' : World} {v : Value} {l : List α} (h : SV E D w v l) (k : Kept Noneof w w') (hk : 0 < E.k := by decide) : SV E D w' v l := h.kept hk k fun _ _ _ h => h
set_option maxRecDepth 100000 in
set_option maxHeartbeats 1000000 in
theorem slentry_calls {seed : Int} {w : World} {t : Nat} {D1 D2 : Nat → Prop} {kv vv : Value} {k v : Bts} (c1 : w.cell? ⟨t, 1, none⟩ = some (.int .u64 seed)) (h1 : BV D1 w kv k) (h2 : BV D2 w vv v) :
    Calls Try.prog 88 #[bp t, kv, vv] w fun e w' => ∃ kx vx, e = .returned (entV seed kx vx k) ∧ Own 5 byteEl Noneof w.heap.size w' kx k ∧ Own 5 byteEl Noneof w.heap.size w' vx v ∧ Kept Noneof w w' := by
  have HK := Lib.hid h1
  have HV := Lib.hid h2
  have B := Lib.hid (show t < w.heap.size from cell_lt c1)
  obtain ⟨a1, n1, rfl, _, _, _⟩ := h1
  obtain ⟨a2, n2, rfl, _, _, _⟩ := h2
  go_enter Try.func88, Try.ntmps88
  go_wp2_with fail
  have G := heap_alloc_new w (.cells #[.slice none 0 0, .slice none 0 0, .int .u64 0, .int .u64 0] 138)
  have k0 := (Kept.refl Noneof w).alloc (.cells #[.slice none 0 0, .slice none 0 0, .int .u64 0, .int .u64 0] 138)
  have s0 : (w.alloc (.cells #[.slice none 0 0, .slice none 0 0, .int .u64 0, .int .u64 0] 138)).heap.size = w.heap.size + 1 := by simp
  generalize w.alloc (.cells #[.slice none 0 0, .slice none 0 0, .int .u64 0, .int .u64 0] 138) = w0 at *
  replace c1 : w0.cell? ⟨t, 1, none⟩ = some (.int .u64 seed) := k0.cell (fun h => h) c1
  refine wp_region_chain 18 [1, 3, 9, 15, 17] (fun w' => w'.cell? ⟨t, 1, none⟩ = some (.int .u64 seed)) (by kernel_rfl) (by kernel_rfl) ?_ ?_
  · exact c1
  simp only [List.take_succ_cons, List.take_zero, List.drop_succ_cons, List.drop_zero]
  replace G := Lib.hid (show w0.drew.heap[w.heap.size]? = _ from G)
  have K := Lib.hid (k0.drew)
  have s0' : w0.drew.heap.size = w.heap.size + 1 := s0
  replace c1 : w0.drew.cell? ⟨t, 1, none⟩ = some (.int .u64 seed) := c1
  generalize w0.drew = wz at *
  clear k0 s0
  (refine SeqY.val (v := ?_) (by rfl) (by rfl) (fun wx hSw => ?_) ?_; rotate_left; (focus ((try dsimp only at hSw); go_simp; (try with_reducible rfl))); (try simp only [Act.put, List.setIfInBounds_toArray, List.set_cons_zero, List.set_cons_succ]))
  refine SeqY.act (by rfl) rfl (by rfl) (by rfl) (fun KK hK => ?_)
  go_simp
  refine (byClone_calls (HK.out.still' K.out)).mono ?_
  rintro e wa ⟨va, rfl, oa, ka⟩
  refine hK.out _ _ (ka.cell (fun h => h) c1) ?_
  replace c1 := ka.cell (fun h => h) c1
  have OA := Lib.hid oa
  obtain ⟨x1, x2, x3, rfl⟩ := oa.slice'
  replace G := Lib.hid (ka.obj (fun h => h) G.out)
  replace K := Lib.hid (K.out.tr ka)
  have sa := ka.size
  clear KK hK oa ka
  (try simp only [Act.put, List.setIfInBounds_toArray, List.set_cons_zero, List.set_cons_succ])
  (refine SeqY.val (v := ?_) (by rfl) (by rfl) (fun wx hSw => ?_) ?_; rotate_left; (focus ((try dsimp only at hSw); go_simp; (try with_reducible rfl))); (try simp only [Act.put, List.setIfInBounds_toArray, List.set_cons_zero, List.set_cons_succ]))
  refine SeqY.act (by rfl) rfl (by rfl) (by rfl) (fun KK hK => ?_)
  go_simp
  refine (byClone_calls (HV.out.still' K.out)).mono ?_
  rintro e wb ⟨vb, rfl, ob, kb⟩
  refine hK.out _ _ (kb.cell (fun h => h) c1) ?_
  replace c1 := kb.cell (fun h => h) c1
  have OB := Lib.hid ob
  obtain ⟨y1, y2, y3, rfl⟩ := ob.slice'
  replace OA := Lib.hid (OA.out.kept kb fun _ h => h.elim)
  replace G := Lib.hid (kb.obj (fun h => h) G.out)
  replace K := Lib.hid (K.out.tr kb)
  have sb := kb.size
  clear KK hK ob kb
  (try simp only [Act.put, List.setIfInBounds_toArray, List.set_cons_zero, List.set_cons_succ])
  iterate 5 (refine SeqY.val (v := ?_) (by rfl) (by rfl) (fun wx hSw => ?_) ?_; rotate_left; (focus ((try dsimp only at hSw); go_simp; (try with_reducible rfl))); (try simp only [Act.put, List.setIfInBounds_toArray, List.set_cons_zero, List.set_cons_succ]))
  refine SeqY.act (by rfl) rfl (by rfl) (by rfl) (fun KK hK => ?_)
  go_simp
  refine (slCoin_calls (HK.out.still' K.out)).mono ?_
  rintro e wc ⟨rfl, dc⟩
  have kc := (Kept.refl Noneof wb).drewn dc
  refine hK.out _ _ (kc.cell (fun h => h) c1) ?_
  replace c1 := kc.cell (fun h => h) c1
  replace OA := Lib.hid (OA.out.kept kc fun _ h => h.elim)
  replace OB := Lib.hid (OB.out.kept kc fun _ h => h.elim)
  replace G := Lib.hid (kc.obj (fun h => h) G.out)
  replace K := Lib.hid (K.out.tr kc)
  clear KK hK dc kc
  (try simp only [Act.put, List.setIfInBounds_toArray, List.set_cons_zero, List.set_cons_succ])
  iterate 5 (refine SeqY.val (v := ?_) (by rfl) (by rfl) (fun wx hSw => ?_) ?_; rotate_left; (focus ((try dsimp only at hSw); go_simp; (try with_reducible rfl))); (try simp only [Act.put, List.setIfInBounds_toArray, List.set_cons_zero, List.set_cons_succ]))
  refine SeqY.act (by rfl) rfl (by rfl) (by rfl) (fun KK hK => ?_)
  go_simp
  refine (slCoin_calls (HK.out.still' K.out)).mono ?_
  rintro e wd ⟨rfl, dd⟩
  have kd := (Kept.refl Noneof wc).drewn dd
  refine hK.out _ _ (kd.cell (fun h => h) c1) ?_
  replace c1 := kd.cell (fun h => h) c1
  replace OA := Lib.hid (OA.out.kept kd fun _ h => h.elim)
  replace OB := Lib.hid (OB.out.kept kd fun _ h => h.elim)
  replace G := Lib.hid (kd.obj (fun h => h) G.out)
  replace K := Lib.hid (K.out.tr kd)
  clear KK hK dd kd
  (try simp only [Act.put, List.setIfInBounds_toArray, List.set_cons_zero, List.set_cons_succ])
  (refine SeqY.val (v := ?_) (by rfl) (by rfl) (fun wx hSw => ?_) ?_; rotate_left; (focus ((try dsimp only at hSw); go_simp; (try with_reducible rfl))); (try simp only [Act.put, List.setIfInBounds_toArray, List.set_cons_zero, List.set_cons_succ]))
  obtain ⟨g0, g1, g2, g3, gf⟩ := entObj_cells G.out
  refine SeqY.act0 (by rfl) rfl (by rfl) (fun KK hK => ?_)
  go_simp
  have KT := ((((Kept.refl (fun b => b = w.heap.size) wd).setCell (p := ⟨w.heap.size, 0, none⟩) (.inl rfl) (.slice x1 x2 x3)).setCell (p := ⟨w.heap.size, 1, none⟩) (.inl rfl) (.slice y1 y2 y3)).setCell (p := ⟨w.heap.size, 2, none⟩) (.inl rfl) (.int .u64 (coin seed 1 k))).setCell (p := ⟨w.heap.size, 3, none⟩) (.inl rfl) (.int .u64 (coin seed 2 k))
  have hB := B.out
  refine hK.out _ (KT.cell (p := ⟨t, 1, none⟩) (by simp only; omega) c1) ?_
  clear KK hK g0 g1 g2 g3 gf
  (try simp only [Act.put, List.setIfInBounds_toArray, List.set_cons_zero, List.set_cons_succ])
  refine SeqY.nil ?_
  go_wp2_with fail
  have GF := setCell_obj (setCell_obj (setCell_obj (setCell_obj G.out (.slice x1 x2 x3) (j := 0)) (.slice y1 y2 y3) (j := 1)) (.int .u64 (coin seed 1 k)) (j := 2)) (.int .u64 (coin seed 2 k)) (j := 3)
  refine bodyPost_ret (results_cell_row rfl _ _ w.heap.size _ #[_, _, _, _] (0, 0) _ rfl GF Try.underlying138 rfl (by kernel_rfl)) rfl ?_
  refine ⟨_, _, rfl, (OA.out.kept KT ?_).base (by omega), (OB.out.kept KT ?_).base (by omega), K.out.trans KT fun b e => .inr (by omega)⟩
  · rintro b rfl hl
    refine ⟨fun h => h, fun h => ?_⟩
    have := (OA.out.lt _ h).1
    omega
  · rintro b rfl hl
    refine ⟨fun h => h, fun h => ?_⟩
    have := (OB.out.lt _ h).1
    omega
end Go.Proofs.Ytaopjdjbpamhhaa
/- Proved: the check of the chain law's region by bit masks: each operation's ancestors are given as a number, checked at one step each. No program is named. No condition. -/
namespace Go.Proofs.Ytaopjdjbpamhhaa
open Go Go.RowKit
set_option linter.unusedVariables false
set_option linter.unusedSimpArgs false
/-! ### The walk behind a door that no reduction opens -/
section
variable {P : Program} {ops : Array Oper} {S : World → Prop} {acts : List Nat} {Fin : Act → World → Prop} {k : Nat} {o : Oper} {rest : List Oper} {a : Act} {w : World}
structure SeqW (P : Program) (ops : Array Oper) (S : World → Prop) (acts : List Nat) (Fin : Act → World → Prop) (k : Nat) (l : List Oper) (a : Act) (w : World) : Prop where
  out : SeqY P ops S acts Fin k l a w
theorem SeqW.nil (h : Fin a w) : SeqW P ops S acts Fin k [] a w := ⟨SeqY.nil h⟩
theorem SeqW.val {v : Value} (hK : acts.contains k = false) (hw : Region.wanted o (yielded ops a.tmps) = true) (h : ∀ w, S w → (execOp a.eval o).run P w = .ok (.value v) w)
    (hn : SeqW P ops S acts Fin (k + 1) rest (a.put o.dst v) w) : SeqW P ops S acts Fin k (o :: rest) a w := ⟨SeqY.val hK hw h hn.out⟩
theorem SeqW.skip (hw : Region.wanted o (yielded ops a.tmps) = false) (hn : SeqW P ops S acts Fin (k + 1) rest (a.put o.dst undef) w) : SeqW P ops S acts Fin k (o :: rest) a w := ⟨SeqY.skip hw hn.out⟩
theorem SeqW.act {d : Tmp} (hK : acts.contains k = true) (hd : o.dst = some d) (hs : decide (d < a.tmps.size) = true) (hw : Region.wanted o (yielded ops a.tmps) = true)
    (h : ∀ K' : Act → World → Prop, Hid (∀ u w', S w' → SeqW P ops S acts Fin (k + 1) rest (a.put o.dst u) w' → K' (a.put o.dst u) w') → o.wp P a w K' (fun _ _ _ => False)) : SeqW P ops S acts Fin k (o :: rest) a w :=
  ⟨SeqY.act hK hd hs hw fun K' hK' => h K' (fun u w' h1 h2 => hK'.out u w' h1 h2.out)⟩
theorem SeqW.act0 (hK : acts.contains k = true) (hd : o.dst = none) (hw : Region.wanted o (yielded ops a.tmps) = true)
    (h : ∀ K' : Act → World → Prop, Hid (∀ w', S w' → SeqW P ops S acts Fin (k + 1) rest a w' → K' a w') → o.wp P a w K' (fun _ _ _ => False)) : SeqW P ops S acts Fin k (o :: rest) a w :=
  ⟨SeqY.act0 hK hd hw fun K' hK' => h K' (fun w' h1 h2 => hK'.out w' h1 h2.out)⟩
end
end Go.Proofs.Ytaopjdjbpamhhaa
/- Proved: contracts of the table's functions Get, Put, Drop, Len. Conditions: tables in memory; keys in other blocks than the table's. -/
namespace Go.Proofs.Ytaopjdjbpamhhaa
open Go Go.RowKit
open Go.MapKept (Stamped)
open Go.ChangeMaps (setBlock)
set_option linter.unusedVariables false
set_option linter.unusedSimpArgs false
theorem BV.sl {D : Nat → Prop} {w : World} {v : Value} {l : Bts} (h : BV D w v l) : ∃ a n c, v = .slice a n c := by
  obtain ⟨a, c, h, _⟩ := h
  exact ⟨a, _, c, h⟩
theorem tdel_none : ∀ {l : List (Bts × Bts)} {k : Bts}, tget l k = none → tdel l k = l
  | [], _, _ => rfl
  | p :: l, k, h => by
    rw [tget] at h
    split at h
    · cases h
    · rename_i hn
      rw [tdel, if_neg hn, tdel_none h]
theorem TabAt.open' {seed : Int} {w : World} {t : Nat} {l : List (Bts × Bts)} {F : Nat → Prop} (h : TabAt seed w t l F) : ∃ r es clock D, TabIn seed w t r es clock l D F ∧ ∀ b, D b → F b ∧ b < w.heap.size := by
  obtain ⟨r, es, clock, D, h⟩ := h
  exact ⟨r, es, clock, fun b => D b ∧ b < w.heap.size, ⟨h.ho, h.pd.wide (fun b hb hl => ⟨hb, hl⟩) fun hh => h.pd.dr hh.1, h.ne, fun hh => h.dt hh.1, h.ft, h.fr, fun b hb _ => h.fd b hb.1 hb.2, h.ok, h.len⟩, fun b hb => ⟨h.fd b hb.1 hb.2, hb.2⟩⟩
theorem tdel_len : ∀ (l : List (Bts × Bts)) (k : Bts), (tdel l k).length ≤ l.length
  | [], _ => Nat.le_refl _
  | p :: l, k => by
    rw [tdel]
    split
    · simp
    · have := tdel_len l k; simp only [List.length_cons]; omega
theorem tdel_mem : ∀ {l : List (Bts × Bts)} {k : Bts} {p : Bts × Bts}, p ∈ tdel l k → p ∈ l
  | q :: l, k, p, h => by
    rw [tdel] at h
    split at h
    · exact List.mem_cons_of_mem _ h
    · rcases List.mem_cons.1 h with rfl | h
      · exact List.mem_cons_self
      · exact List.mem_cons_of_mem _ (tdel_mem h)
theorem tput_len : ∀ (l : List (Bts × Bts)) (k v : Bts), (tput l k v).length = if (tget l k).isSome = true then l.length else l.length + 1
  | [], k, v => by simp [tput, tget]
  | p :: l, k, v => by
    rw [tput, tget]
    split
    · simp
    · rw [List.length_cons, tput_len l k v]
      split <;> simp
theorem tput_mem : ∀ {l : List (Bts × Bts)} {k v : Bts} {p : Bts × Bts}, p ∈ tput l k v → p = (k, v) ∨ p ∈ l
  | [], k, v, p, h => .inl (by simpa [tput] using h)
  | q :: l, k, v, p, h => by
    rw [tput] at h
    split at h
    · rcases List.mem_cons.1 h with rfl | h
      · exact .inl rfl
      · exact .inr (List.mem_cons_of_mem _ h)
    · rcases List.mem_cons.1 h with rfl | h
      · exact .inr List.mem_cons_self
      · exact (tput_mem h).imp id (List.mem_cons_of_mem _)
theorem allowedK_okP {k v : Bts} (h : allowedK k v = true) : okP (k, v) := by
  simp only [allowedK, Bool.and_eq_true, decide_eq_true_eq] at h
  exact ⟨h.1.1, h.1.2, h.2⟩
theorem len_map {w : World} {r clock : Nat} {es : Array MapEntry} (hb : w.heap[r]? = some (.map es clock)) (ty : TypeId) : (Builtin.len_ #[134] ty #[.map (some r)]).run Try.prog w = .ok (.int .i64 es.size) w := by
  have hu : Try.prog.underlying 134 = some (.map 9 138) := by kernel_rfl
  simp [Builtin.len_, run_underlying hu, Go.MapKept.run_getObj_map hb, goInt, Result.andThen]
def dropE (l : List (Bts × Bts)) (k : Bts) : Int := if (tget l k).isSome = true then 0 else 3
theorem zeroEnt (w : World) : (zeroValue 138).run Try.prog w = .ok (.agg #[.slice none 0 0, .slice none 0 0, .int .u64 0, .int .u64 0]) w := Try.zeroValue138 w
/-- The elements of what a look-up gives. -/
theorem look_parts {seed : Int} {D : Nat → Prop} {w : World} {l : List (Bts × Bts)} {k : Bts} {v : Value} (h : (tget l k = none ∧ v = .agg #[.slice none 0 0, .slice none 0 0, .int .u64 0, .int .u64 0]) ∨ ∃ x kv vv, tget l k = some x ∧ v = entV seed kv vv k ∧ BV D w kv k ∧ BV D w vv x) :
    ∃ y0 y1 y2 y3, v = .agg #[y0, y1, .int .u64 y2, .int .u64 y3] ∧ (∃ a n c, y0 = .slice a n c) ∧ (∃ a n c, y1 = .slice a n c) ∧ ∀ x, tget l k = some x → BV D w y1 x := by
  rcases h with ⟨h1, rfl⟩ | ⟨x, kv, vv, h1, rfl, h2, h3⟩
  · exact ⟨_, _, _, _, rfl, ⟨_, _, _, rfl⟩, ⟨_, _, _, rfl⟩, fun x h => by rw [h1] at h; cases h⟩
  · exact ⟨kv, vv, _, _, rfl, h2.sl, h3.sl, fun y h => by rw [h1] at h; cases h; exact h3⟩

set_option maxRecDepth 100000 in
set_option maxHeartbeats 2000000 in
theorem slGet_calls {seed : Int} {w : World} {t : Nat} {l : List (Bts × Bts)} {F D1 : Nat → Prop} {kv : Value} {k : Bts} (h : TabAt seed w t l F) (h1 : BV D1 w kv k) :
    Calls Try.prog 38 #[bp t, kv] w fun e w' => ((∃ x v', tget l k = some x ∧ e = .returned (.tuple #[v', .int .i64 0]) ∧ Own 5 byteEl Noneof w.heap.size w' v' x) ∨ (tget l k = none ∧ e = .returned (.tuple #[.slice none 0 0, .int .i64 3]))) ∧ Kept Noneof w w' := by
  (
  have H := Lib.hid h
  obtain ⟨r, es, clock, D, hi, hdw⟩ := h.open'
  have HDW := Lib.hid hdw
  clear h hdw
  have HT := Lib.hid (show t < w.heap.size from block_lt hi.ho)
  have HC := Lib.hid (tabObj_cells hi.ho).2.2
  have PD := Lib.hid hi.pd
  have HI := Lib.hid hi
  have HK := Lib.hid (SV.bd byteEl_k h1)
  obtain ⟨v, hlk, hv⟩ := hi.pd.look' (P := Try.prog) (T := 134) (K := 9) (E := 138) (by kernel_rfl) Try.underlying9 zeroEnt k
  obtain ⟨y0, y1, y2, y3, rfl, ⟨b1, b2, b3, rfl⟩, ⟨b4, b5, b6, rfl⟩, hy⟩ := look_parts hv
  have LK := Lib.hid hlk
  have HY := Lib.hid hy
  obtain ⟨a1, n1, rfl, _⟩ := h1
  clear hi hlk hv hy
  generalize hD1 : (fun b => D1 b ∧ b < w.heap.size) = D2 at HK
  have HD0 := Lib.hid (show ∀ b, D2 b → b < w.heap.size from fun b h => by rw [← hD1] at h; exact h.2)
  have HDF := Lib.hid (show ∀ b, D2 b → D1 b ∧ b < w.heap.size from fun b h => by rw [← hD1] at h; exact h)
  clear hD1)
  go_enter Try.func38, Try.ntmps38
  go_wp2_with fail
  refine (slnone_calls H.out).mono ?_
  rintro e w ⟨rfl, rfl⟩
  go_wp2
  (
  refine wp_region_chain 13 [10, 11] (fun w' => w'.cell? ⟨t, 2, none⟩ = some (.map (some r)) ∧ BV D2 w' (.slice a1 k.length n1) k ∧ w'.heap[r]? = some (.map es clock)) (by kernel_rfl) (by kernel_rfl) ?_ ?_
  · exact ⟨HC.out, HK.out.at rfl, PD.out.hm⟩
  refine SeqW.out ?_
  simp only [List.take_succ_cons, List.take_zero, List.drop_succ_cons, List.drop_zero]
  have kd := (Kept.refl Noneof w).drew
  have HK0 := Lib.hid (HK.out.still' kd)
  have PD0 := Lib.hid (PD.out.kept kd (fun _ _ _ h => h) fun h => h)
  have c2 : w.drew.cell? ⟨t, 2, none⟩ = some (.map (some r)) := HC.out
  have K0 := Lib.hid kd
  generalize w.drew = w0 at *
  clear kd
  iterate 3 (refine SeqW.val (v := ?_) (by rfl) (by rfl) (fun wx hSw => ?_) ?_; rotate_left; (focus ((try dsimp only at hSw); go_simp; (try with_reducible rfl))); (try simp only [Act.put, List.setIfInBounds_toArray, List.set_cons_zero, List.set_cons_succ]))
  (refine SeqW.val (v := ?_) (by rfl) (by rfl) (fun wx hSw => ?_) ?_; rotate_left; (focus ((try dsimp only at hSw); go_simp; (try with_reducible rfl))); (try simp only [Act.put, List.setIfInBounds_toArray, List.set_cons_zero, List.set_cons_succ]))
  (refine SeqW.val (v := ?_) (by rfl) (by rfl) (fun wx hSw => ?_) ?_; rotate_left; (focus ((try dsimp only at hSw); go_simp; (try with_reducible rfl))); (try simp only [Act.put, List.setIfInBounds_toArray, List.set_cons_zero, List.set_cons_succ]))
  (refine SeqW.val (v := ?_) (by rfl) (by rfl) (fun wx hSw => ?_) ?_; rotate_left; (focus ((try dsimp only at hSw); have hcv := conv_str (P := Try.prog) (src := 31) (dst := 9) Try.underlying31 Try.underlying5 Try.underlying9 hSw.2.1; go_simp; (try with_reducible rfl))); (try simp only [Act.put, List.setIfInBounds_toArray, List.set_cons_zero, List.set_cons_succ]))
  (refine SeqW.val (v := ?_) (by rfl) (by rfl) (fun wx hSw => ?_) ?_; rotate_left; (focus ((try dsimp only at hSw); have hlk := LK.out wx hSw.2.2; go_simp; (try with_reducible rfl))); (try simp only [Act.put, List.setIfInBounds_toArray, List.set_cons_zero, List.set_cons_succ]))
  iterate 3 (refine SeqW.val (v := ?_) (by rfl) (by rfl) (fun wx hSw => ?_) ?_; rotate_left; (focus ((try dsimp only at hSw); go_simp; (try with_reducible rfl))); (try simp only [Act.put, List.setIfInBounds_toArray, List.set_cons_zero, List.set_cons_succ]))
  refine SeqW.act (by rfl) rfl (by rfl) (by rfl) (fun K hK => ?_)
  go_simp
  have G := heap_alloc_new w0 (.cells #[.slice none 0 0, .slice none 0 0, .int .u64 0, .int .u64 0] 138)
  have ka := (Kept.refl Noneof w0).alloc (.cells #[.slice none 0 0, .slice none 0 0, .int .u64 0, .int .u64 0] 138)
  refine hK.out _ _ ⟨ka.cell (fun h => h) c2, HK0.out.still' ka, ka.obj (fun h => h) PD0.out.hm⟩ ?_
  clear K hK
  (try simp only [Act.put, List.setIfInBounds_toArray, List.set_cons_zero, List.set_cons_succ])
  have hb := block_lt PD0.out.hm
  generalize w0.alloc (.cells #[.slice none 0 0, .slice none 0 0, .int .u64 0, .int .u64 0] 138) = w1 at *
  replace c2 := ka.cell (fun h => h) c2
  have PD1 := Lib.hid (PD0.out.kept ka (fun _ _ _ h => h) fun h => h)
  have HK1 := Lib.hid (HK0.out.still' ka)
  have K1 := Lib.hid (K0.out.tr ka)
  obtain ⟨g0, g1, g2, g3, gf⟩ := entObj_cells G
  replace G := Lib.hid G
  have hz0 : w.heap.size ≤ w0.heap.size := K0.out.size
  have ht := HT.out
  refine SeqW.act0 (by rfl) rfl (by rfl) (fun K hK => ?_)
  go_simp
  have KT := Lib.hid (((((Kept.refl (fun b => b = w0.heap.size) w1).setCell (p := ⟨w0.heap.size, 0, none⟩) (.inl rfl) (.slice b1 b2 b3)).setCell (p := ⟨w0.heap.size, 1, none⟩) (.inl rfl) (.slice b4 b5 b6)).setCell (p := ⟨w0.heap.size, 2, none⟩) (.inl rfl) (.int .u64 y2)).setCell (p := ⟨w0.heap.size, 3, none⟩) (.inl rfl) (.int .u64 y3))
  have G2 := Lib.hid (setCell_obj (setCell_obj (setCell_obj (setCell_obj G.out (.slice b1 b2 b3) (j := 0)) (.slice b4 b5 b6) (j := 1)) (.int .u64 y2) (j := 2)) (.int .u64 y3) (j := 3))
  have hD0 := HD0.out
  refine hK.out _ ⟨KT.out.cell (p := ⟨t, 2, none⟩) (by simp only; omega) c2, HK1.out.kept byteEl_k KT.out (fun b h _ e => by have := hD0 b h; omega), KT.out.obj (by omega) PD1.out.hm⟩ ?_)
  (
  clear K hK
  (try simp only [Act.put, List.setIfInBounds_toArray, List.set_cons_zero, List.set_cons_succ])
  generalize ((((w1.setCell _ _).setCell _ _).setCell _ _).setCell _ _) = w2 at *
  have hb0 : ¬ w.heap.size = w0.heap.size ∨ w.heap.size = w0.heap.size := by omega
  have K2 := Lib.hid (show Kept Noneof w w2 from K1.out.trans KT.out fun b e => .inr (by omega))
  obtain ⟨e0, e1, e2, e3, ef⟩ := entObj_cells G2.out
  (refine SeqW.val (v := ?_) (by rfl) (by rfl) (fun wx hSw => ?_) ?_; rotate_left; (focus ((try dsimp only at hSw); go_simp; (try with_reducible rfl))); (try simp only [Act.put, List.setIfInBounds_toArray, List.set_cons_zero, List.set_cons_succ]))
  refine SeqW.nil ?_
  clear g0 g1 g2 g3 gf c2 PD0 HK0 K0 G)
  cases hg : tget l k with
  | none =>
    go_wp2
    go_ret2
    exact ⟨.inr ⟨hg, rfl⟩, K2.out⟩
  | some x =>
    have HX := Lib.hid ((HY.out x hg).still' K2.out)
    go_wp2_with fail
    refine (byClone_calls HX.out).mono ?_
    rintro e w3 ⟨v3, rfl, o3, k3⟩
    have O3 := Lib.hid o3
    have K3 := Lib.hid (K2.out.tr k3)
    have s2 := K2.out.size
    obtain ⟨q1, q2, q3, rfl⟩ := o3.slice'
    clear o3 k3
    go_wp2
    go_ret2
    exact ⟨.inl ⟨x, _, hg, rfl, O3.out.base s2⟩, K3.out⟩

set_option maxRecDepth 100000 in
set_option maxHeartbeats 2000000 in
theorem slDrop_calls {seed : Int} {w : World} {t : Nat} {l : List (Bts × Bts)} {F D1 : Nat → Prop} {kv : Value} {k : Bts} (h : TabAt seed w t l F) (h1 : BV D1 w kv k) (hDF : ∀ b, D1 b → ¬ F b) :
    Calls Try.prog 37 #[bp t, kv] w fun e w' => e = .returned (.int .i64 (dropE l k)) ∧ TabAt seed w' t (tdel l k) F ∧ Kept F w w' := by
  (
  have H := Lib.hid h
  obtain ⟨r, es, clock, D, hi, hdw⟩ := h.open'
  have HDW := Lib.hid hdw
  clear h hdw
  have HT := Lib.hid (show t < w.heap.size from block_lt hi.ho)
  have HC := Lib.hid (tabObj_cells hi.ho).2.2
  have PD := Lib.hid hi.pd
  have HI := Lib.hid hi
  have HK := Lib.hid (SV.bd byteEl_k h1)
  obtain ⟨v, hlk, hv⟩ := hi.pd.look' (P := Try.prog) (T := 134) (K := 9) (E := 138) (by kernel_rfl) Try.underlying9 zeroEnt k
  obtain ⟨y0, y1, y2, y3, rfl, ⟨b1, b2, b3, rfl⟩, ⟨b4, b5, b6, rfl⟩, hy⟩ := look_parts hv
  have LK := Lib.hid hlk
  have HY := Lib.hid hy
  obtain ⟨a1, n1, rfl, _⟩ := h1
  clear hi hlk hv hy
  generalize hD1 : (fun b => D1 b ∧ b < w.heap.size) = D2 at HK
  have HD0 := Lib.hid (show ∀ b, D2 b → b < w.heap.size from fun b h => by rw [← hD1] at h; exact h.2)
  have HDF := Lib.hid (show ∀ b, D2 b → D1 b ∧ b < w.heap.size from fun b h => by rw [← hD1] at h; exact h)
  clear hD1)
  go_enter Try.func37, Try.ntmps37
  go_wp2_with fail
  refine (slnone_calls H.out).mono ?_
  rintro e w ⟨rfl, rfl⟩
  go_wp2
  (
  refine wp_region_chain 13 [10, 11] (fun w' => w'.cell? ⟨t, 2, none⟩ = some (.map (some r)) ∧ BV D2 w' (.slice a1 k.length n1) k ∧ w'.heap[r]? = some (.map es clock)) (by kernel_rfl) (by kernel_rfl) ?_ ?_
  · exact ⟨HC.out, HK.out.at rfl, PD.out.hm⟩
  refine SeqW.out ?_
  simp only [List.take_succ_cons, List.take_zero, List.drop_succ_cons, List.drop_zero]
  have kd := (Kept.refl Noneof w).drew
  have HK0 := Lib.hid (HK.out.still' kd)
  have PD0 := Lib.hid (PD.out.kept kd (fun _ _ _ h => h) fun h => h)
  have c2 : w.drew.cell? ⟨t, 2, none⟩ = some (.map (some r)) := HC.out
  have K0 := Lib.hid kd
  generalize w.drew = w0 at *
  clear kd
  iterate 3 (refine SeqW.val (v := ?_) (by rfl) (by rfl) (fun wx hSw => ?_) ?_; rotate_left; (focus ((try dsimp only at hSw); go_simp; (try with_reducible rfl))); (try simp only [Act.put, List.setIfInBounds_toArray, List.set_cons_zero, List.set_cons_succ]))
  (refine SeqW.val (v := ?_) (by rfl) (by rfl) (fun wx hSw => ?_) ?_; rotate_left; (focus ((try dsimp only at hSw); go_simp; (try with_reducible rfl))); (try simp only [Act.put, List.setIfInBounds_toArray, List.set_cons_zero, List.set_cons_succ]))
  (refine SeqW.val (v := ?_) (by rfl) (by rfl) (fun wx hSw => ?_) ?_; rotate_left; (focus ((try dsimp only at hSw); go_simp; (try with_reducible rfl))); (try simp only [Act.put, List.setIfInBounds_toArray, List.set_cons_zero, List.set_cons_succ]))
  (refine SeqW.val (v := ?_) (by rfl) (by rfl) (fun wx hSw => ?_) ?_; rotate_left; (focus ((try dsimp only at hSw); have hcv := conv_str (P := Try.prog) (src := 31) (dst := 9) Try.underlying31 Try.underlying5 Try.underlying9 hSw.2.1; go_simp; (try with_reducible rfl))); (try simp only [Act.put, List.setIfInBounds_toArray, List.set_cons_zero, List.set_cons_succ]))
  (refine SeqW.val (v := ?_) (by rfl) (by rfl) (fun wx hSw => ?_) ?_; rotate_left; (focus ((try dsimp only at hSw); have hlk := LK.out wx hSw.2.2; go_simp; (try with_reducible rfl))); (try simp only [Act.put, List.setIfInBounds_toArray, List.set_cons_zero, List.set_cons_succ]))
  iterate 3 (refine SeqW.val (v := ?_) (by rfl) (by rfl) (fun wx hSw => ?_) ?_; rotate_left; (focus ((try dsimp only at hSw); go_simp; (try with_reducible rfl))); (try simp only [Act.put, List.setIfInBounds_toArray, List.set_cons_zero, List.set_cons_succ]))
  refine SeqW.act (by rfl) rfl (by rfl) (by rfl) (fun K hK => ?_)
  go_simp
  have G := heap_alloc_new w0 (.cells #[.slice none 0 0, .slice none 0 0, .int .u64 0, .int .u64 0] 138)
  have ka := (Kept.refl Noneof w0).alloc (.cells #[.slice none 0 0, .slice none 0 0, .int .u64 0, .int .u64 0] 138)
  refine hK.out _ _ ⟨ka.cell (fun h => h) c2, HK0.out.still' ka, ka.obj (fun h => h) PD0.out.hm⟩ ?_
  clear K hK
  (try simp only [Act.put, List.setIfInBounds_toArray, List.set_cons_zero, List.set_cons_succ])
  have hb := block_lt PD0.out.hm
  generalize w0.alloc (.cells #[.slice none 0 0, .slice none 0 0, .int .u64 0, .int .u64 0] 138) = w1 at *
  replace c2 := ka.cell (fun h => h) c2
  have PD1 := Lib.hid (PD0.out.kept ka (fun _ _ _ h => h) fun h => h)
  have HK1 := Lib.hid (HK0.out.still' ka)
  have K1 := Lib.hid (K0.out.tr ka)
  obtain ⟨g0, g1, g2, g3, gf⟩ := entObj_cells G
  replace G := Lib.hid G
  have hz0 : w.heap.size ≤ w0.heap.size := K0.out.size
  have ht := HT.out
  refine SeqW.act0 (by rfl) rfl (by rfl) (fun K hK => ?_)
  go_simp
  have KT := Lib.hid (((((Kept.refl (fun b => b = w0.heap.size) w1).setCell (p := ⟨w0.heap.size, 0, none⟩) (.inl rfl) (.slice b1 b2 b3)).setCell (p := ⟨w0.heap.size, 1, none⟩) (.inl rfl) (.slice b4 b5 b6)).setCell (p := ⟨w0.heap.size, 2, none⟩) (.inl rfl) (.int .u64 y2)).setCell (p := ⟨w0.heap.size, 3, none⟩) (.inl rfl) (.int .u64 y3))
  have G2 := Lib.hid (setCell_obj (setCell_obj (setCell_obj (setCell_obj G.out (.slice b1 b2 b3) (j := 0)) (.slice b4 b5 b6) (j := 1)) (.int .u64 y2) (j := 2)) (.int .u64 y3) (j := 3))
  have hD0 := HD0.out
  refine hK.out _ ⟨KT.out.cell (p := ⟨t, 2, none⟩) (by simp only; omega) c2, HK1.out.kept byteEl_k KT.out (fun b h _ e => by have := hD0 b h; omega), KT.out.obj (by omega) PD1.out.hm⟩ ?_)
  (
  clear K hK
  (try simp only [Act.put, List.setIfInBounds_toArray, List.set_cons_zero, List.set_cons_succ])
  generalize ((((w1.setCell _ _).setCell _ _).setCell _ _).setCell _ _) = w2 at *
  have hb0 : ¬ w.heap.size = w0.heap.size ∨ w.heap.size = w0.heap.size := by omega
  have K2 := Lib.hid (show Kept Noneof w w2 from K1.out.trans KT.out fun b e => .inr (by omega))
  obtain ⟨e0, e1, e2, e3, ef⟩ := entObj_cells G2.out
  (refine SeqW.val (v := ?_) (by rfl) (by rfl) (fun wx hSw => ?_) ?_; rotate_left; (focus ((try dsimp only at hSw); go_simp; (try with_reducible rfl))); (try simp only [Act.put, List.setIfInBounds_toArray, List.set_cons_zero, List.set_cons_succ]))
  refine SeqW.nil ?_
  clear g0 g1 g2 g3 gf c2 PD0 HK0 K0 G)
  have PD2 := Lib.hid (PD.out.kept K2.out (fun _ _ _ h => h) fun h => h)
  replace HK := Lib.hid (HK.out.still' K2.out)
  have cz : w2.cell? ⟨t, 2, none⟩ = some (.map (some r)) := K2.out.cell (fun h => h) HC.out
  cases hg : (tget l k).isSome
  · go_wp2
    go_ret
    refine ⟨ret_int (by simp [dropE, hg]), ?_, K2.out.mono fun _ h => h.elim⟩
    rw [tdel_none (by simpa using hg)]
    exact H.out.still K2.out
  · go_wp2
    refine wp_region_chain 7 [6] (fun w' => w'.cell? ⟨t, 2, none⟩ = some (.map (some r)) ∧ BV D2 w' (.slice a1 k.length n1) k) (by kernel_rfl) (by kernel_rfl) ?_ ?_
    · exact ⟨cz, HK.out.at rfl⟩
    refine SeqW.out ?_
    simp only [List.take_succ_cons, List.take_zero, List.drop_succ_cons, List.drop_zero]
    have kd := (Kept.refl Noneof w2).drew
    replace PD2 := Lib.hid (PD2.out.kept kd (fun _ _ _ h => h) fun h => h)
    replace HK := Lib.hid (HK.out.still' kd)
    replace cz := kd.cell (fun h => h) cz
    have K3 := Lib.hid (K2.out.tr kd)
    generalize w2.drew = w3 at *
    clear kd
    iterate 5 (refine SeqW.val (v := ?_) (by rfl) (by rfl) (fun wx hSw => ?_) ?_; rotate_left; (focus ((try dsimp only at hSw); go_simp; (try with_reducible rfl))); (try simp only [Act.put, List.setIfInBounds_toArray, List.set_cons_zero, List.set_cons_succ]))
    (refine SeqW.val (v := ?_) (by rfl) (by rfl) (fun wx hSw => ?_) ?_; rotate_left; (focus ((try dsimp only at hSw); have hcv := conv_str (P := Try.prog) (src := 31) (dst := 9) Try.underlying31 Try.underlying5 Try.underlying9 hSw.2; go_simp; (try with_reducible rfl))); (try simp only [Act.put, List.setIfInBounds_toArray, List.set_cons_zero, List.set_cons_succ]))
    obtain ⟨es', hrun, hp⟩ := PD2.out.take (P := Try.prog) (T := 134) (K := 9) (E := 138) (by kernel_rfl) Try.underlying9 k 0
    have HP := Lib.hid hp
    have KS := Lib.hid (setBlock_kept w3 r (.map es' clock))
    refine SeqW.act0 (by rfl) rfl (by rfl) (fun K hK => ?_)
    go_simp
    have hne := HI.out.ne
    refine hK.out _ ⟨KS.out.cell (p := ⟨t, 2, none⟩) hne cz, HK.out.kept byteEl_k KS.out fun b h _ e => hDF b (HDF.out b h).1 (e ▸ HI.out.fr)⟩ ?_
    clear K hK
    (try simp only [Act.put, List.setIfInBounds_toArray, List.set_cons_zero, List.set_cons_succ])
    refine SeqW.nil ?_
    generalize setBlock w3 r (.map es' clock) = w4 at *
    go_wp2
    go_ret
    refine ⟨ret_int (by simp [dropE, hg]), ⟨r, es', clock, D, KS.out.obj hne (K3.out.obj (fun h => h) HI.out.ho), HP.out, hne, HI.out.dt, HI.out.ft, HI.out.fr, fun b hb _ => (HDW.out b hb).1, fun p hp => HI.out.ok p (tdel_mem hp), Nat.le_trans (tdel_len l k) HI.out.len⟩, (K3.out.mono (T := F) fun _ h => h.elim).trans KS.out fun b e => .inl (e ▸ HI.out.fr)⟩
/-! ### Put -/
set_option maxRecDepth 100000 in
set_option maxHeartbeats 4000000 in
theorem slPut_calls {seed : Int} {w : World} {t : Nat} {l : List (Bts × Bts)} {F D1 D3 : Nat → Prop} {kv vv : Value} {k v : Bts} (h : TabAt seed w t l F) (h1 : BV D1 w kv k) (h2 : BV D3 w vv v) (hDF : ∀ b, D1 b → ¬ F b) (hal : allowedK k v = true) (hroom : (tget l k).isSome = true ∨ l.length < 100000) :
    Calls Try.prog 25 #[bp t, kv, vv] w fun e w' => e = .returned (.int .i64 0) ∧ ∃ F', TabAt seed w' t (tput l k v) F' ∧ (∀ b, F' b → F b ∨ w.heap.size ≤ b) ∧ Kept F w w' := by
  have HV := Lib.hid h2
  obtain ⟨a2, n2, rfl, _⟩ := h2
  (
  have H := Lib.hid h
  obtain ⟨r, es, clock, D, hi, hdw⟩ := h.open'
  have HDW := Lib.hid hdw
  clear h hdw
  have HT := Lib.hid (show t < w.heap.size from block_lt hi.ho)
  have HC := Lib.hid (tabObj_cells hi.ho).2.2
  have PD := Lib.hid hi.pd
  have HI := Lib.hid hi
  have HK := Lib.hid (SV.bd byteEl_k h1)
  obtain ⟨v, hlk, hv⟩ := hi.pd.look' (P := Try.prog) (T := 134) (K := 9) (E := 138) (by kernel_rfl) Try.underlying9 zeroEnt k
  obtain ⟨y0, y1, y2, y3, rfl, ⟨b1, b2, b3, rfl⟩, ⟨b4, b5, b6, rfl⟩, hy⟩ := look_parts hv
  have LK := Lib.hid hlk
  have HY := Lib.hid hy
  obtain ⟨a1, n1, rfl, _⟩ := h1
  clear hi hlk hv hy
  generalize hD1 : (fun b => D1 b ∧ b < w.heap.size) = D2 at HK
  have HD0 := Lib.hid (show ∀ b, D2 b → b < w.heap.size from fun b h => by rw [← hD1] at h; exact h.2)
  have HDF := Lib.hid (show ∀ b, D2 b → D1 b ∧ b < w.heap.size from fun b h => by rw [← hD1] at h; exact h)
  clear hD1)
  have AL := Lib.hid hal
  have RM := Lib.hid hroom
  clear hal hroom
  go_enter Try.func25, Try.ntmps25
  go_wp2_with fail
  refine (slnone_calls H.out).mono ?_
  rintro e w ⟨rfl, rfl⟩
  go_wp2_with fail
  refine (slallowed_calls HK.out HV.out).mono ?_
  rintro e w ⟨rfl, rfl⟩
  rw [AL.out]
  go_wp2
  (
  refine wp_region_chain 13 [10, 11] (fun w' => w'.cell? ⟨t, 2, none⟩ = some (.map (some r)) ∧ BV D2 w' (.slice a1 k.length n1) k ∧ w'.heap[r]? = some (.map es clock)) (by kernel_rfl) (by kernel_rfl) ?_ ?_
  · exact ⟨HC.out, HK.out.at rfl, PD.out.hm⟩
  refine SeqW.out ?_
  simp only [List.take_succ_cons, List.take_zero, List.drop_succ_cons, List.drop_zero]
  have kd := (Kept.refl Noneof w).drew
  have HK0 := Lib.hid (HK.out.still' kd)
  have PD0 := Lib.hid (PD.out.kept kd (fun _ _ _ h => h) fun h => h)
  have c2 : w.drew.cell? ⟨t, 2, none⟩ = some (.map (some r)) := HC.out
  have K0 := Lib.hid kd
  generalize w.drew = w0 at *
  clear kd
  iterate 3 (refine SeqW.val (v := ?_) (by rfl) (by rfl) (fun wx hSw => ?_) ?_; rotate_left; (focus ((try dsimp only at hSw); go_simp; (try with_reducible rfl))); (try simp only [Act.put, List.setIfInBounds_toArray, List.set_cons_zero, List.set_cons_succ]))
  (refine SeqW.val (v := ?_) (by rfl) (by rfl) (fun wx hSw => ?_) ?_; rotate_left; (focus ((try dsimp only at hSw); go_simp; (try with_reducible rfl))); (try simp only [Act.put, List.setIfInBounds_toArray, List.set_cons_zero, List.set_cons_succ]))
  (refine SeqW.val (v := ?_) (by rfl) (by rfl) (fun wx hSw => ?_) ?_; rotate_left; (focus ((try dsimp only at hSw); go_simp; (try with_reducible rfl))); (try simp only [Act.put, List.setIfInBounds_toArray, List.set_cons_zero, List.set_cons_succ]))
  (refine SeqW.val (v := ?_) (by rfl) (by rfl) (fun wx hSw => ?_) ?_; rotate_left; (focus ((try dsimp only at hSw); have hcv := conv_str (P := Try.prog) (src := 31) (dst := 9) Try.underlying31 Try.underlying5 Try.underlying9 hSw.2.1; go_simp; (try with_reducible rfl))); (try simp only [Act.put, List.setIfInBounds_toArray, List.set_cons_zero, List.set_cons_succ]))
  (refine SeqW.val (v := ?_) (by rfl) (by rfl) (fun wx hSw => ?_) ?_; rotate_left; (focus ((try dsimp only at hSw); have hlk := LK.out wx hSw.2.2; go_simp; (try with_reducible rfl))); (try simp only [Act.put, List.setIfInBounds_toArray, List.set_cons_zero, List.set_cons_succ]))
  iterate 3 (refine SeqW.val (v := ?_) (by rfl) (by rfl) (fun wx hSw => ?_) ?_; rotate_left; (focus ((try dsimp only at hSw); go_simp; (try with_reducible rfl))); (try simp only [Act.put, List.setIfInBounds_toArray, List.set_cons_zero, List.set_cons_succ]))
  refine SeqW.act (by rfl) rfl (by rfl) (by rfl) (fun K hK => ?_)
  go_simp
  have G := heap_alloc_new w0 (.cells #[.slice none 0 0, .slice none 0 0, .int .u64 0, .int .u64 0] 138)
  have ka := (Kept.refl Noneof w0).alloc (.cells #[.slice none 0 0, .slice none 0 0, .int .u64 0, .int .u64 0] 138)
  refine hK.out _ _ ⟨ka.cell (fun h => h) c2, HK0.out.still' ka, ka.obj (fun h => h) PD0.out.hm⟩ ?_
  clear K hK
  (try simp only [Act.put, List.setIfInBounds_toArray, List.set_cons_zero, List.set_cons_succ])
  have hb := block_lt PD0.out.hm
  generalize w0.alloc (.cells #[.slice none 0 0, .slice none 0 0, .int .u64 0, .int .u64 0] 138) = w1 at *
  replace c2 := ka.cell (fun h => h) c2
  have PD1 := Lib.hid (PD0.out.kept ka (fun _ _ _ h => h) fun h => h)
  have HK1 := Lib.hid (HK0.out.still' ka)
  have K1 := Lib.hid (K0.out.tr ka)
  obtain ⟨g0, g1, g2, g3, gf⟩ := entObj_cells G
  replace G := Lib.hid G
  have hz0 : w.heap.size ≤ w0.heap.size := K0.out.size
  have ht := HT.out
  refine SeqW.act0 (by rfl) rfl (by rfl) (fun K hK => ?_)
  go_simp
  have KT := Lib.hid (((((Kept.refl (fun b => b = w0.heap.size) w1).setCell (p := ⟨w0.heap.size, 0, none⟩) (.inl rfl) (.slice b1 b2 b3)).setCell (p := ⟨w0.heap.size, 1, none⟩) (.inl rfl) (.slice b4 b5 b6)).setCell (p := ⟨w0.heap.size, 2, none⟩) (.inl rfl) (.int .u64 y2)).setCell (p := ⟨w0.heap.size, 3, none⟩) (.inl rfl) (.int .u64 y3))
  have G2 := Lib.hid (setCell_obj (setCell_obj (setCell_obj (setCell_obj G.out (.slice b1 b2 b3) (j := 0)) (.slice b4 b5 b6) (j := 1)) (.int .u64 y2) (j := 2)) (.int .u64 y3) (j := 3))
  have hD0 := HD0.out
  refine hK.out _ ⟨KT.out.cell (p := ⟨t, 2, none⟩) (by simp only; omega) c2, HK1.out.kept byteEl_k KT.out (fun b h _ e => by have := hD0 b h; omega), KT.out.obj (by omega) PD1.out.hm⟩ ?_)
  (
  clear K hK
  (try simp only [Act.put, List.setIfInBounds_toArray, List.set_cons_zero, List.set_cons_succ])
  generalize ((((w1.setCell _ _).setCell _ _).setCell _ _).setCell _ _) = w2 at *
  have hb0 : ¬ w.heap.size = w0.heap.size ∨ w.heap.size = w0.heap.size := by omega
  have K2 := Lib.hid (show Kept Noneof w w2 from K1.out.trans KT.out fun b e => .inr (by omega))
  obtain ⟨e0, e1, e2, e3, ef⟩ := entObj_cells G2.out
  (refine SeqW.val (v := ?_) (by rfl) (by rfl) (fun wx hSw => ?_) ?_; rotate_left; (focus ((try dsimp only at hSw); go_simp; (try with_reducible rfl))); (try simp only [Act.put, List.setIfInBounds_toArray, List.set_cons_zero, List.set_cons_succ]))
  refine SeqW.nil ?_
  clear g0 g1 g2 g3 gf c2 PD0 HK0 K0 G)
  have PD2 := Lib.hid (PD.out.kept K2.out (fun _ _ _ h => h) fun h => h)
  replace HK := Lib.hid (HK.out.still' K2.out)
  replace HV := Lib.hid (HV.out.still' K2.out)
  have cz : w2.cell? ⟨t, 2, none⟩ = some (.map (some r)) := K2.out.cell (fun h => h) HC.out
  have cy : w2.cell? ⟨t, 1, none⟩ = some (.int .u64 seed) := K2.out.cell (fun h => h) (tabObj_cells HI.out.ho).2.1
  have hm2 := PD2.out.hm
  have hln := fun ty => len_map hm2 ty
  clear HC ht e0 e1 e2 e3 ef
  cases hg : (tget l k).isSome
  · have hlim : decide ((100000 : Int) ≤ (es.size : Int)) = false := decide_eq_false (by
      have hr := RM.out
      rw [hg] at hr
      have := PD2.out.size
      rcases hr with hr | hr
      · cases hr
      · omega)
    go_wp2_with fail
    clear hlim hm2 hln
    (
  refine wp_region_chain 11 [9, 10] (fun w' => w'.cell? ⟨t, 2, none⟩ = some (.map (some r)) ∧ BV D2 w' (.slice a1 k.length n1) k) (by kernel_rfl) (by kernel_rfl) ?_ ?_
  · exact ⟨cz, HK.out.at rfl⟩
  refine SeqW.out ?_
  simp only [List.take_succ_cons, List.take_zero, List.drop_succ_cons, List.drop_zero]
  have kd := (Kept.refl Noneof w2).drew
  replace PD2 := Lib.hid (PD2.out.kept kd (fun _ _ _ h => h) fun h => h)
  replace HK := Lib.hid (HK.out.still' kd)
  replace HV := Lib.hid (HV.out.still' kd)
  replace cz := kd.cell (fun h => h) cz
  replace cy := kd.cell (fun h => h) cy
  have K3 := Lib.hid (K2.out.tr kd)
  generalize w2.drew = w3 at *
  clear kd
  iterate 5 (refine SeqW.val (v := ?_) (by rfl) (by rfl) (fun wx hSw => ?_) ?_; rotate_left; (focus ((try dsimp only at hSw); go_simp; (try with_reducible rfl))); (try simp only [Act.put, List.setIfInBounds_toArray, List.set_cons_zero, List.set_cons_succ]))
  (refine SeqW.val (v := ?_) (by rfl) (by rfl) (fun wx hSw => ?_) ?_; rotate_left; (focus ((try dsimp only at hSw); have hcv := conv_str (P := Try.prog) (src := 31) (dst := 9) Try.underlying31 Try.underlying5 Try.underlying9 hSw.2; go_simp; (try with_reducible rfl))); (try simp only [Act.put, List.setIfInBounds_toArray, List.set_cons_zero, List.set_cons_succ]))
  iterate 3 (refine SeqW.val (v := ?_) (by rfl) (by rfl) (fun wx hSw => ?_) ?_; rotate_left; (focus ((try dsimp only at hSw); go_simp; (try with_reducible rfl))); (try simp only [Act.put, List.setIfInBounds_toArray, List.set_cons_zero, List.set_cons_succ]))
  refine SeqW.act (by rfl) rfl (by rfl) (by rfl) (fun K hK => ?_)
  go_simp
  refine (slentry_calls cy HK.out HV.out).mono ?_
  rintro e w4 ⟨kx, vx, rfl, ok, ov, k4⟩
  refine hK.out _ _ ⟨k4.cell (fun h => h) cz, HK.out.still' k4⟩ ?_
  replace cz := k4.cell (fun h => h) cz
  replace HK := Lib.hid (HK.out.still' k4)
  have K4 := Lib.hid (K3.out.tr k4)
  have hlt := block_lt PD2.out.hm
  have s3 := K3.out.size
  have PD4 := Lib.hid (show PadIn seed w4 r es clock l (fun b => D b ∨ w3.heap.size ≤ b) from (PD2.out.kept k4 (fun _ _ _ h => h) fun h => h).wide (fun b h _ => .inl h) fun h => h.elim PD2.out.dr fun h => by omega)
  have OK := Lib.hid (show BV (fun b => D b ∨ w3.heap.size ≤ b) w4 kx k from ok.sv.wide byteEl_k fun b h _ => h.elim (fun h => h.elim) .inr)
  have OV := Lib.hid (show BV (fun b => D b ∨ w3.heap.size ≤ b) w4 vx v from ov.sv.wide byteEl_k fun b h _ => h.elim (fun h => h.elim) .inr)
  obtain ⟨k1, k2, k3, rfl⟩ := ok.slice'
  obtain ⟨v1, v2, v3, rfl⟩ := ov.slice'
  obtain ⟨es', clock', hrun, hp⟩ := PD4.out.store (P := Try.prog) (T := 134) (K := 9) (E := 138) (by kernel_rfl) Try.underlying9 OK.out OV.out
  have HP := Lib.hid hp
  have KS := Lib.hid (setBlock_kept w4 r (.map es' clock'))
  clear K hK k4 ok ov hp
  (try simp only [Act.put, List.setIfInBounds_toArray, List.set_cons_zero, List.set_cons_succ])
  refine SeqW.act0 (by rfl) rfl (by rfl) (fun K hK => ?_)
  go_simp
  have hne := HI.out.ne
  refine hK.out _ ⟨KS.out.cell (p := ⟨t, 2, none⟩) hne cz, HK.out.kept byteEl_k KS.out fun b h _ e => hDF b (HDF.out b h).1 (e ▸ HI.out.fr)⟩ ?_
  clear K hK
  (try simp only [Act.put, List.setIfInBounds_toArray, List.set_cons_zero, List.set_cons_succ])
  refine SeqW.nil ?_
  generalize setBlock w4 r (.map es' clock') = w5 at *
  have K5 := Lib.hid (show Kept F w w5 from (K4.out.mono (T := F) fun _ h => h.elim).trans KS.out fun b e => .inl (e ▸ HI.out.fr))
  have s5 := KS.out.size
  go_wp2
  go_ret
  refine ⟨rfl, fun b => F b ∨ w.heap.size ≤ b, ⟨r, es', clock', fun b => D b ∨ w3.heap.size ≤ b, KS.out.obj hne (K4.out.obj (fun h => h) HI.out.ho), HP.out, hne, fun h => h.elim HI.out.dt fun h => by have := HT.out; omega, .inl HI.out.ft, .inl HI.out.fr, fun b hb _ => hb.elim (fun h => .inl (HDW.out b h).1) fun h => .inr (by omega), fun p hp => (tput_mem hp).elim (fun e => by rw [e]; exact allowedK_okP AL.out) (HI.out.ok p), ?_⟩, fun b h => h, K5.out⟩
  rw [tput_len]
  have := HI.out.len
  have hr := RM.out
  split
  · exact this
  · rename_i hn
    rcases hr with hr | hr
    · exact absurd hr hn
    · omega)
  · go_wp2_with fail
    clear hm2 hln
    (
  refine wp_region_chain 11 [9, 10] (fun w' => w'.cell? ⟨t, 2, none⟩ = some (.map (some r)) ∧ BV D2 w' (.slice a1 k.length n1) k) (by kernel_rfl) (by kernel_rfl) ?_ ?_
  · exact ⟨cz, HK.out.at rfl⟩
  refine SeqW.out ?_
  simp only [List.take_succ_cons, List.take_zero, List.drop_succ_cons, List.drop_zero]
  have kd := (Kept.refl Noneof w2).drew
  replace PD2 := Lib.hid (PD2.out.kept kd (fun _ _ _ h => h) fun h => h)
  replace HK := Lib.hid (HK.out.still' kd)
  replace HV := Lib.hid (HV.out.still' kd)
  replace cz := kd.cell (fun h => h) cz
  replace cy := kd.cell (fun h => h) cy
  have K3 := Lib.hid (K2.out.tr kd)
  generalize w2.drew = w3 at *
  clear kd
  iterate 5 (refine SeqW.val (v := ?_) (by rfl) (by rfl) (fun wx hSw => ?_) ?_; rotate_left; (focus ((try dsimp only at hSw); go_simp; (try with_reducible rfl))); (try simp only [Act.put, List.setIfInBounds_toArray, List.set_cons_zero, List.set_cons_succ]))
  (refine SeqW.val (v := ?_) (by rfl) (by rfl) (fun wx hSw => ?_) ?_; rotate_left; (focus ((try dsimp only at hSw); have hcv := conv_str (P := Try.prog) (src := 31) (dst := 9) Try.underlying31 Try.underlying5 Try.underlying9 hSw.2; go_simp; (try with_reducible rfl))); (try simp only [Act.put, List.setIfInBounds_toArray, List.set_cons_zero, List.set_cons_succ]))
  iterate 3 (refine SeqW.val (v := ?_) (by rfl) (by rfl) (fun wx hSw => ?_) ?_; rotate_left; (focus ((try dsimp only at hSw); go_simp; (try with_reducible rfl))); (try simp only [Act.put, List.setIfInBounds_toArray, List.set_cons_zero, List.set_cons_succ]))
  refine SeqW.act (by rfl) rfl (by rfl) (by rfl) (fun K hK => ?_)
  go_simp
  refine (slentry_calls cy HK.out HV.out).mono ?_
  rintro e w4 ⟨kx, vx, rfl, ok, ov, k4⟩
  refine hK.out _ _ ⟨k4.cell (fun h => h) cz, HK.out.still' k4⟩ ?_
  replace cz := k4.cell (fun h => h) cz
  replace HK := Lib.hid (HK.out.still' k4)
  have K4 := Lib.hid (K3.out.tr k4)
  have hlt := block_lt PD2.out.hm
  have s3 := K3.out.size
  have PD4 := Lib.hid (show PadIn seed w4 r es clock l (fun b => D b ∨ w3.heap.size ≤ b) from (PD2.out.kept k4 (fun _ _ _ h => h) fun h => h).wide (fun b h _ => .inl h) fun h => h.elim PD2.out.dr fun h => by omega)
  have OK := Lib.hid (show BV (fun b => D b ∨ w3.heap.size ≤ b) w4 kx k from ok.sv.wide byteEl_k fun b h _ => h.elim (fun h => h.elim) .inr)
  have OV := Lib.hid (show BV (fun b => D b ∨ w3.heap.size ≤ b) w4 vx v from ov.sv.wide byteEl_k fun b h _ => h.elim (fun h => h.elim) .inr)
  obtain ⟨k1, k2, k3, rfl⟩ := ok.slice'
  obtain ⟨v1, v2, v3, rfl⟩ := ov.slice'
  obtain ⟨es', clock', hrun, hp⟩ := PD4.out.store (P := Try.prog) (T := 134) (K := 9) (E := 138) (by kernel_rfl) Try.underlying9 OK.out OV.out
  have HP := Lib.hid hp
  have KS := Lib.hid (setBlock_kept w4 r (.map es' clock'))
  clear K hK k4 ok ov hp
  (try simp only [Act.put, List.setIfInBounds_toArray, List.set_cons_zero, List.set_cons_succ])
  refine SeqW.act0 (by rfl) rfl (by rfl) (fun K hK => ?_)
  go_simp
  have hne := HI.out.ne
  refine hK.out _ ⟨KS.out.cell (p := ⟨t, 2, none⟩) hne cz, HK.out.kept byteEl_k KS.out fun b h _ e => hDF b (HDF.out b h).1 (e ▸ HI.out.fr)⟩ ?_
  clear K hK
  (try simp only [Act.put, List.setIfInBounds_toArray, List.set_cons_zero, List.set_cons_succ])
  refine SeqW.nil ?_
  generalize setBlock w4 r (.map es' clock') = w5 at *
  have K5 := Lib.hid (show Kept F w w5 from (K4.out.mono (T := F) fun _ h => h.elim).trans KS.out fun b e => .inl (e ▸ HI.out.fr))
  have s5 := KS.out.size
  go_wp2
  go_ret
  refine ⟨rfl, fun b => F b ∨ w.heap.size ≤ b, ⟨r, es', clock', fun b => D b ∨ w3.heap.size ≤ b, KS.out.obj hne (K4.out.obj (fun h => h) HI.out.ho), HP.out, hne, fun h => h.elim HI.out.dt fun h => by have := HT.out; omega, .inl HI.out.ft, .inl HI.out.fr, fun b hb _ => hb.elim (fun h => .inl (HDW.out b h).1) fun h => .inr (by omega), fun p hp => (tput_mem hp).elim (fun e => by rw [e]; exact allowedK_okP AL.out) (HI.out.ok p), ?_⟩, fun b h => h, K5.out⟩
  rw [tput_len]
  have := HI.out.len
  have hr := RM.out
  split
  · exact this
  · rename_i hn
    rcases hr with hr | hr
    · exact absurd hr hn
    · omega)
end Go.Proofs.Ytaopjdjbpamhhaa
/- Proved: plain: what Go's stable sort does to a row, written as a function: swaps, insertion, rotation, merging. No program. No condition. -/
namespace Go.Proofs.Ytaopjdjbpamhhaa
open Go Go.RowKit
set_option linter.unusedVariables false
set_option linter.unusedSimpArgs false
/-! ### Rows as functions, and swaps in a part of them -/
section
variable {α : Type}
def swp (f : Nat → α) (i j : Nat) : Nat → α := fun k => if k = i then f j else if k = j then f i else f k
inductive Sw (a b : Nat) (f : Nat → α) : (Nat → α) → Prop
  | refl : Sw a b f f
  | step {g : Nat → α} {i j : Nat} : Sw a b f g → a ≤ i → i < b → a ≤ j → j < b → Sw a b f (swp g i j)
theorem Sw.trans {a b : Nat} {f g h : Nat → α} (x : Sw a b f g) (y : Sw a b g h) : Sw a b f h := by
  induction y with
  | refl => exact x
  | step _ h1 h2 h3 h4 ih => exact ih.step h1 h2 h3 h4
theorem Sw.mono {a b a' b' : Nat} {f g : Nat → α} (x : Sw a b f g) (ha : a' ≤ a) (hb : b ≤ b') : Sw a' b' f g := by
  induction x with
  | refl => exact .refl
  | step _ h1 h2 h3 h4 ih => exact ih.step (by omega) (by omega) (by omega) (by omega)
theorem Sw.out {a b : Nat} {f g : Nat → α} (x : Sw a b f g) : ∀ k, k < a ∨ b ≤ k → g k = f k := by
  induction x with
  | refl => exact fun _ _ => rfl
  | @step g i j _ h1 h2 h3 h4 ih =>
    intro k hk
    unfold swp
    rw [if_neg (by omega), if_neg (by omega), ih k hk]
theorem Sw.mem {a b : Nat} {f g : Nat → α} (x : Sw a b f g) : ∀ k, a ≤ k → k < b → ∃ j, a ≤ j ∧ j < b ∧ g k = f j := by
  induction x with
  | refl => exact fun k h1 h2 => ⟨k, h1, h2, rfl⟩
  | @step g i j _ h1 h2 h3 h4 ih =>
    intro k hk1 hk2
    unfold swp
    split
    · exact ih j h3 h4
    · split
      · exact ih i h1 h2
      · exact ih k hk1 hk2
/-- The row's elements are the same, in another order. -/
theorem swp_perm (f : Nat → α) {n i j : Nat} (hi : i < n) (hj : j < n) : ((List.range n).map (swp f i j)).Perm ((List.range n).map f) := by
  have e : (List.range n).map (swp f i j) = ((List.range n).map fun k => if k = i then j else if k = j then i else k).map f := by
    rw [List.map_map]
    refine List.map_congr_left fun k _ => ?_
    simp only [Function.comp_apply, swp]
    split
    · rfl
    · split <;> rfl
  rw [e]
  refine List.Perm.map f ?_
  refine (List.perm_ext_iff_of_nodup ?_ List.nodup_range).2 fun k => ?_
  · refine List.Pairwise.map _ (fun a b hab => ?_) List.nodup_range
    intro h
    split at h <;> split at h <;> (try split at h) <;> (try split at h) <;> omega
  · simp only [List.mem_map, List.mem_range]
    constructor
    · rintro ⟨x, hx, rfl⟩
      split
      · exact hj
      · split
        · exact hi
        · exact hx
    · intro hk
      by_cases h1 : k = i
      · refine ⟨j, hj, ?_⟩
        by_cases h2 : j = i
        · rw [if_pos h2]; omega
        · rw [if_neg h2, if_pos rfl, h1]
      · by_cases h2 : k = j
        · exact ⟨i, hi, by rw [if_pos rfl, h2]⟩
        · exact ⟨k, hk, by rw [if_neg h1, if_neg h2]⟩
theorem Sw.perm {n : Nat} {f g : Nat → α} (x : Sw 0 n f g) : ((List.range n).map g).Perm ((List.range n).map f) := by
  induction x with
  | refl => exact List.Perm.refl _
  | step _ h1 h2 h3 h4 ih => exact (swp_perm _ h2 h4).trans ih

/-! ### Orders -/
/-- A strict weak order. -/
structure Swo (lt : α → α → Bool) : Prop where
  irrefl : ∀ x, lt x x = false
  trans : ∀ x y z, lt x y = true → lt y z = true → lt x z = true
  ntrans : ∀ x y z, lt x y = false → lt y z = false → lt x z = false
variable {lt : α → α → Bool} {ix : α → Nat}
theorem Swo.asymm (o : Swo lt) {x y : α} (h : lt x y = true) : lt y x = false := by
  cases e : lt y x with
  | false => rfl
  | true => have := o.trans x y x h e; rw [o.irrefl] at this; cases this
/-- The order in which equal ones stand by their numbers. -/
def Lt' (lt : α → α → Bool) (ix : α → Nat) (x y : α) : Prop := lt x y = true ∨ (lt y x = false ∧ ix x < ix y)
theorem Lt'.trans (o : Swo lt) {x y z : α} (h : Lt' lt ix x y) (k : Lt' lt ix y z) : Lt' lt ix x z := by
  rcases h with h | ⟨h, i1⟩ <;> rcases k with k | ⟨k, i2⟩
  · exact .inl (o.trans x y z h k)
  · cases e : lt x z with
    | true => exact .inl e
    | false => have := o.ntrans x z y e k; rw [h] at this; cases this
  · cases e : lt x z with
    | true => exact .inl e
    | false => have := o.ntrans y x z h e; rw [k] at this; cases this
  · exact .inr ⟨o.ntrans z y x k h, by omega⟩
theorem Lt'.not (o : Swo lt) {x y : α} (h : Lt' lt ix x y) : ¬ Lt' lt ix y x := by
  intro k
  rcases h with h | ⟨h, i1⟩ <;> rcases k with k | ⟨k, i2⟩
  · rw [o.asymm h] at k; cases k
  · rw [h] at k; cases k
  · rw [h] at k; cases k
  · omega
theorem Lt'.of {x y : α} (h : lt y x = false) (i : ix x < ix y) : Lt' lt ix x y := .inr ⟨h, i⟩

/-- A part of a row is in order. -/
def Srt' (lt : α → α → Bool) (ix : α → Nat) (f : Nat → α) (a b : Nat) : Prop := ∀ i j, a ≤ i → i < j → j < b → Lt' lt ix (f i) (f j)
def Cross (ix : α → Nat) (f : Nat → α) (a m b : Nat) : Prop := ∀ i j, a ≤ i → i < m → m ≤ j → j < b → ix (f i) < ix (f j)
theorem Srt'.sub {f : Nat → α} {a b a' b' : Nat} (h : Srt' lt ix f a b) (ha : a ≤ a') (hb : b' ≤ b) : Srt' lt ix f a' b' := fun i j h1 h2 h3 => h i j (by omega) h2 (by omega)
theorem Srt'.one {f : Nat → α} {a b : Nat} (h : b ≤ a + 1) : Srt' lt ix f a b := fun i j h1 h2 h3 => by omega
theorem Srt'.congr {f g : Nat → α} {a b : Nat} (h : Srt' lt ix f a b) (e : ∀ k, a ≤ k → k < b → g k = f k) : Srt' lt ix g a b := fun i j h1 h2 h3 => by rw [e i h1 (by omega), e j (by omega) h3]; exact h i j h1 h2 h3

/-! ### Insertion -/
/-- The element that stood at i is on its way down, at j. -/
structure InsAt (lt : α → α → Bool) (ix : α → Nat) (f : Nat → α) (a i j : Nat) (g : Nat → α) : Prop where
  sw : Sw a (i + 1) f g
  aj : a ≤ j
  ji : j ≤ i
  oth : ∀ p q, a ≤ p → p < q → q ≤ i → p ≠ j → q ≠ j → Lt' lt ix (g p) (g q)
  up : ∀ q, j < q → q ≤ i → Lt' lt ix (g j) (g q)
  num : ∀ p, a ≤ p → p ≤ i → p ≠ j → ix (g p) < ix (g j)
theorem InsAt.start {f : Nat → α} {a i : Nat} (hi : a ≤ i) (h : Srt' lt ix f a i) (hn : ∀ p, a ≤ p → p < i → ix (f p) < ix (f i)) : InsAt lt ix f a i i f :=
  ⟨.refl, hi, Nat.le_refl _, fun p q h1 h2 h3 h4 h5 => h p q h1 h2 (by omega), fun q h1 h2 => by omega, fun p h1 h2 h3 => hn p h1 (by omega)⟩
theorem InsAt.next (o : Swo lt) {f g : Nat → α} {a i j : Nat} (h : InsAt lt ix f a i j g) (hj : a < j) (hl : lt (g j) (g (j - 1)) = true) : InsAt lt ix f a i (j - 1) (swp g j (j - 1)) := by
  have e1 : swp g j (j - 1) (j - 1) = g j := by unfold swp; rw [if_neg (by omega), if_pos rfl]
  have e2 : swp g j (j - 1) j = g (j - 1) := by unfold swp; rw [if_pos rfl]
  have e3 : ∀ k, k ≠ j → k ≠ j - 1 → swp g j (j - 1) k = g k := fun k h1 h2 => by unfold swp; rw [if_neg h1, if_neg h2]
  have hji := h.ji
  refine ⟨h.sw.step h.aj (by omega) (by omega) (by omega), by omega, by omega, fun p q h1 h2 h3 h4 h5 => ?_, fun q h1 h2 => ?_, fun p h1 h2 h3 => ?_⟩
  · by_cases hp : p = j
    · subst hp
      rw [e2, e3 q (by omega) h5]
      exact h.oth (p - 1) q (by omega) (by omega) h3 (by omega) (by omega)
    · rw [e3 p hp h4]
      by_cases hq : q = j
      · subst hq
        rw [e2]
        exact h.oth p (q - 1) h1 (by omega) (by omega) hp (by omega)
      · rw [e3 q hq h5]
        exact h.oth p q h1 h2 h3 hp hq
  · rw [e1]
    by_cases hq : q = j
    · subst hq
      rw [e2]
      exact .inl hl
    · rw [e3 q hq (by omega)]
      exact h.up q (by omega) h2
  · rw [e1]
    by_cases hp : p = j
    · subst hp
      rw [e2]
      exact h.num (p - 1) (by omega) (by omega) (by omega)
    · rw [e3 p hp h3]
      exact h.num p h1 h2 hp
theorem InsAt.done (o : Swo lt) {f g : Nat → α} {a i j : Nat} (h : InsAt lt ix f a i j g) (hj : a < j → lt (g j) (g (j - 1)) = false) : Srt' lt ix g a (i + 1) := by
  have hdn : ∀ p, a ≤ p → p < j → Lt' lt ix (g p) (g j) := fun p h1 h2 => by
    have h3 : Lt' lt ix (g (j - 1)) (g j) := .of (hj (by omega)) (h.num (j - 1) (by omega) (by have := h.ji; omega) (by omega))
    by_cases e : p = j - 1
    · rw [e]; exact h3
    · exact (h.oth p (j - 1) h1 (by omega) (by have := h.ji; omega) (by omega) (by omega)).trans o h3
  intro p q h1 h2 h3
  by_cases hp : p = j
  · subst hp; exact h.up q h2 (by omega)
  · by_cases hq : q = j
    · subst hq; exact hdn p h1 h2
    · exact h.oth p q h1 h2 (by omega) hp hq

/-! ### Rotation -/
/-- The parts [a, m) and [m, b) of a row, the other way round. -/
def rot (f : Nat → α) (a m b : Nat) : Nat → α := fun k => if a ≤ k ∧ k < a + (b - m) then f (k + (m - a)) else if a + (b - m) ≤ k ∧ k < b then f (k - (b - m)) else f k
/-- n places from a on and from b on are changed against one another. -/
def swr (f : Nat → α) (a b n : Nat) : Nat → α := fun k => if a ≤ k ∧ k < a + n then f (k - a + b) else if b ≤ k ∧ k < b + n then f (k - b + a) else f k
theorem swr_zero (f : Nat → α) (a b : Nat) : swr f a b 0 = f := by
  funext k
  unfold swr
  rw [if_neg (by omega), if_neg (by omega)]
theorem swr_succ (f : Nat → α) {a b n : Nat} (h : a + n < b) : swp (swr f a b n) (a + n) (b + n) = swr f a b (n + 1) := by
  funext k
  unfold swp swr
  by_cases h1 : k = a + n
  · subst h1
    rw [if_pos rfl, if_neg (by omega), if_neg (by omega), if_pos (by omega)]
    congr 1; omega
  · rw [if_neg h1]
    by_cases h2 : k = b + n
    · subst h2
      rw [if_pos rfl, if_neg (by omega), if_neg (by omega), if_neg (by omega), if_pos (by omega)]
      congr 1; omega
    · rw [if_neg h2]
      by_cases h3 : a ≤ k ∧ k < a + n
      · rw [if_pos h3, if_pos (by omega)]
      · rw [if_neg h3]
        by_cases h4 : b ≤ k ∧ k < b + n
        · rw [if_pos h4, if_neg (by omega), if_pos (by omega)]
        · rw [if_neg h4, if_neg (by omega), if_neg (by omega)]
theorem swr_sw (f : Nat → α) {a b lo hi : Nat} : ∀ n, a + n ≤ b → lo ≤ a → b + n ≤ hi → Sw lo hi f (swr f a b n)
  | 0, _, _, _ => by rw [swr_zero]; exact .refl
  | n + 1, h1, h2, h3 => by
    rw [← swr_succ f (by omega)]
    exact (swr_sw f n (by omega) h2 (by omega)).step (by omega) (by omega) (by omega) (by omega)
/-- The left part is longer: its first places are changed against the right part. -/
theorem rot_left (f : Nat → α) {m i j : Nat} (h : j < i) (hi : i ≤ m) : rot (swr f (m - i) m j) (m - (i - j)) m (m + j) = rot f (m - i) m (m + j) := by
  obtain ⟨u, rfl⟩ : ∃ u, m = u + i := ⟨m - i, by omega⟩
  obtain ⟨d, rfl⟩ : ∃ d, i = j + d := ⟨i - j, by omega⟩
  have e1 : u + (j + d) - (j + d) = u := by omega
  have e2 : u + (j + d) - (j + d - j) = u + j := by omega
  rw [e1, e2]
  funext k
  unfold rot swr
  by_cases h1 : k < u
  · repeat rw [if_neg (by omega)]
  · by_cases h2 : k < u + j
    · rw [if_neg (by omega), if_neg (by omega), if_pos (by omega), if_pos (by omega)]
      congr 1; omega
    · by_cases h3 : k < u + j + j
      · rw [if_pos (by omega)]
        by_cases h4 : k + (u + (j + d) - (u + j)) < u + (j + d)
        · omega
        · rw [if_neg (by omega), if_pos (by omega), if_neg (by omega), if_pos (by omega)]
          congr 1; omega
      · by_cases h5 : k < u + (j + d) + j
        · rw [if_neg (by omega), if_pos (by omega), if_neg (by omega), if_neg (by omega), if_neg (by omega), if_pos (by omega)]
        · repeat rw [if_neg (by omega)]
/-- The right part is longer: the left part is changed against its last places. -/
theorem rot_right (f : Nat → α) {m i j : Nat} (h : i < j) (hi : i ≤ m) : rot (swr f (m - i) (m + j - i) i) (m - i) m (m + (j - i)) = rot f (m - i) m (m + j) := by
  obtain ⟨u, rfl⟩ : ∃ u, m = u + i := ⟨m - i, by omega⟩
  obtain ⟨d, rfl⟩ : ∃ d, j = i + d := ⟨j - i, by omega⟩
  have e1 : u + i - i = u := by omega
  have e2 : u + i + (i + d) - i = u + i + d := by omega
  have e3 : u + i + (i + d - i) = u + i + d := by omega
  rw [e1, e2, e3]
  funext k
  unfold rot swr
  by_cases h1 : k < u
  · repeat rw [if_neg (by omega)]
  · by_cases h2 : k < u + d
    · rw [if_pos (by omega), if_neg (by omega), if_neg (by omega), if_pos (by omega)]
    · rw [if_neg (by omega)]
      by_cases h3 : k < u + i + d
      · rw [if_pos (by omega), if_pos (by omega)]
        by_cases h5 : k < u + (i + d)
        · rw [if_pos (by omega)]; congr 1; omega
        · rw [if_neg (by omega), if_pos (by omega)]; congr 1; omega
      · rw [if_neg (by omega), if_neg (by omega)]
        by_cases h4 : k < u + i + (i + d)
        · rw [if_pos (by omega), if_neg (by omega), if_pos (by omega)]
          congr 1; omega
        · repeat rw [if_neg (by omega)]
theorem rot_same (f : Nat → α) {m i : Nat} (hi : i ≤ m) : swr f (m - i) m i = rot f (m - i) m (m + i) := by
  obtain ⟨u, rfl⟩ : ∃ u, m = u + i := ⟨m - i, by omega⟩
  have e1 : u + i - i = u := by omega
  rw [e1]
  funext k
  unfold rot swr
  by_cases h1 : u ≤ k ∧ k < u + i
  · rw [if_pos h1, if_pos (by omega)]
    congr 1; omega
  · rw [if_neg h1]
    by_cases h2 : u + i ≤ k ∧ k < u + i + i
    · rw [if_pos h2, if_neg (by omega), if_pos (by omega)]
      congr 1; omega
    · rw [if_neg h2, if_neg (by omega), if_neg (by omega)]
end
end Go.Proofs.Ytaopjdjbpamhhaa
/- Proved: plain: the merge of Go's stable sort (SymMerge): its binary searches, its single insertions, what is left to merge behind the rotation. No program. No condition. -/
namespace Go.Proofs.Ytaopjdjbpamhhaa
open Go Go.RowKit
set_option linter.unusedVariables false
set_option linter.unusedSimpArgs false
section
variable {α : Type} {lt : α → α → Bool} {ix : α → Nat} {f : Nat → α} {a m b : Nat}
theorem Srt'.nlt (o : Swo lt) (h : Srt' lt ix f a b) {x y : Nat} (h1 : a ≤ x) (h2 : x ≤ y) (h3 : y < b) : lt (f y) (f x) = false := by
  by_cases e : x = y
  · rw [e]; exact o.irrefl _
  · rcases h x y h1 (by omega) h3 with k | ⟨k, _⟩
    · exact o.asymm k
    · exact k
/-! ### Binary search -/
/-- From lo on to hi the answer is no, then yes; the search stands between i and j. -/
structure Bin (p : Nat → Bool) (lo hi i j : Nat) : Prop where
  li : lo ≤ i
  ij : i ≤ j
  jh : j ≤ hi
  no : ∀ h, lo ≤ h → h < i → p h = false
  yes : ∀ h, j ≤ h → h < hi → p h = true
def Mono (p : Nat → Bool) (lo hi : Nat) : Prop := ∀ x y, lo ≤ x → x ≤ y → y < hi → p x = true → p y = true
theorem Bin.start {p : Nat → Bool} {lo hi : Nat} (h : lo ≤ hi) : Bin p lo hi lo hi := ⟨Nat.le_refl _, h, Nat.le_refl _, fun _ h1 h2 => by omega, fun _ h1 h2 => by omega⟩
theorem Bin.right {p : Nat → Bool} {lo hi i j h : Nat} (B : Bin p lo hi i j) (mo : Mono p lo hi) (h1 : i ≤ h) (h2 : h < j) (hp : p h = false) : Bin p lo hi (h + 1) j := by
  have := B.jh
  have := B.li
  refine ⟨by omega, by omega, B.jh, fun x h3 h4 => ?_, B.yes⟩
  cases e : p x with
  | false => rfl
  | true => rw [mo x h h3 (by omega) (by omega) e] at hp; cases hp
theorem Bin.left {p : Nat → Bool} {lo hi i j h : Nat} (B : Bin p lo hi i j) (mo : Mono p lo hi) (h1 : i ≤ h) (h2 : h < j) (hp : p h = true) : Bin p lo hi i h := by
  have := B.jh
  have := B.li
  exact ⟨B.li, h1, by omega, B.no, fun x h3 h4 => mo h x (by omega) h3 h4 hp⟩
theorem mono1 (o : Swo lt) (hr : Srt' lt ix f m b) (x : α) : Mono (fun h => !lt (f h) x) m b := by
  intro u v h1 h2 h3 h
  simp only [Bool.not_eq_true'] at h ⊢
  exact o.ntrans _ _ _ (hr.nlt o h1 h2 h3) h
theorem mono2 (o : Swo lt) (hl : Srt' lt ix f a m) (x : α) : Mono (fun h => lt x (f h)) a m := by
  intro u v h1 h2 h3 h
  cases e : lt x (f v) with
  | true => exact e
  | false => have := o.ntrans _ _ _ e (hl.nlt o h1 h2 h3); simp only at h; rw [h] at this; cases this
theorem mono3 (o : Swo lt) (hl : Srt' lt ix f a m) (hr : Srt' lt ix f m b) {p lo hi : Nat} (h1 : a ≤ lo) (h2 : hi ≤ m) (h3 : p < b + lo) (h4 : m + hi ≤ p + 1) : Mono (fun c => lt (f (p - c)) (f c)) lo hi := by
  intro u v g1 g2 g3 h
  cases e : lt (f (p - v)) (f v) with
  | true => exact e
  | false =>
    have k1 := o.ntrans _ _ _ e (hl.nlt o (x := u) (y := v) (by omega) g2 (by omega))
    have k2 := o.ntrans _ _ _ (hr.nlt o (x := p - v) (y := p - u) (by omega) (by omega) (by omega)) k1
    simp only at h
    rw [h] at k2
    cases k2

/-! ### One element is put in -/
def sh1 (f : Nat → α) (a t : Nat) : Nat → α := fun k => if a ≤ k ∧ k < a + t then f (k + 1) else if k = a + t then f a else f k
theorem sh1_zero (f : Nat → α) (a : Nat) : sh1 f a 0 = f := by
  funext k
  unfold sh1
  rw [if_neg (by omega)]
  split
  · rename_i h; rw [h]; rfl
  · rfl
theorem sh1_succ (f : Nat → α) (a t : Nat) : swp (sh1 f a t) (a + t) (a + t + 1) = sh1 f a (t + 1) := by
  funext k
  unfold swp sh1
  by_cases h1 : k = a + t
  · subst h1
    rw [if_pos rfl, if_neg (by omega), if_neg (by omega), if_pos (by omega)]
  · rw [if_neg h1]
    by_cases h2 : k = a + t + 1
    · subst h2
      rw [if_pos rfl, if_neg (by omega), if_pos rfl, if_neg (by omega), if_pos (by omega)]
    · rw [if_neg h2, if_neg h1]
      by_cases h3 : a ≤ k ∧ k < a + t
      · rw [if_pos h3, if_pos (by omega)]
      · rw [if_neg h3, if_neg (by omega), if_neg (by omega)]
theorem sh1_sw (f : Nat → α) {a b lo : Nat} (hl : lo ≤ a) : ∀ t, a + t < b → Sw lo b f (sh1 f a t)
  | 0, _ => by rw [sh1_zero]; exact .refl
  | t + 1, h => by rw [← sh1_succ]; exact (sh1_sw f hl t (by omega)).step (by omega) (by omega) (by omega) (by omega)
def sh2 (f : Nat → α) (m t : Nat) : Nat → α := fun k => if m - t < k ∧ k ≤ m then f (k - 1) else if k = m - t then f m else f k
theorem sh2_zero (f : Nat → α) (m : Nat) : sh2 f m 0 = f := by
  funext k
  unfold sh2
  rw [if_neg (by omega)]
  split
  · rename_i h; rw [h]; rfl
  · rfl
theorem sh2_succ (f : Nat → α) {m t : Nat} (h : t < m) : swp (sh2 f m t) (m - t) (m - t - 1) = sh2 f m (t + 1) := by
  funext k
  unfold swp sh2
  by_cases h1 : k = m - t
  · subst h1
    rw [if_pos rfl, if_neg (by omega), if_neg (by omega), if_pos (by omega)]
  · rw [if_neg h1]
    by_cases h2 : k = m - t - 1
    · subst h2
      rw [if_pos rfl, if_neg (by omega), if_pos rfl, if_neg (by omega), if_pos (by omega)]
    · rw [if_neg h2, if_neg h1]
      by_cases h3 : m - t < k ∧ k ≤ m
      · rw [if_pos h3, if_pos (by omega)]
      · rw [if_neg h3, if_neg (by omega), if_neg (by omega)]
theorem sh2_sw (f : Nat → α) {m b lo : Nat} (hm : m < b) : ∀ t, lo + t ≤ m → Sw lo b f (sh2 f m t)
  | 0, _ => by rw [sh2_zero]; exact .refl
  | t + 1, h => by rw [← sh2_succ f (by omega)]; exact (sh2_sw f hm t (by omega)).step (by omega) (by omega) (by omega) (by omega)
theorem sh1_srt (o : Swo lt) (hr : Srt' lt ix f (a + 1) b) (hx : Cross ix f a (a + 1) b) {i : Nat} (B : Bin (fun h => !lt (f h) (f a)) (a + 1) b i i) : Srt' lt ix (sh1 f a (i - 1 - a)) a b := by
  have b1 := B.li
  have b2 := B.jh
  have lo : ∀ h, a + 1 ≤ h → h < i → lt (f h) (f a) = true := fun h h1 h2 => by have := B.no h h1 h2; simpa using this
  have hi : ∀ h, i ≤ h → h < b → Lt' lt ix (f a) (f h) := fun h h1 h2 => .of (by have := B.yes h h1 h2; simpa using this) (hx a h (Nat.le_refl _) (by omega) (by omega) h2)
  intro p q h1 h2 h3
  unfold sh1
  by_cases hp : p < i - 1
  · rw [if_pos (by omega)]
    by_cases hq : q < i - 1
    · rw [if_pos (by omega)]; exact hr _ _ (by omega) (by omega) (by omega)
    · rw [if_neg (by omega)]
      by_cases hq : q = i - 1
      · rw [if_pos (by omega)]; exact .inl (lo _ (by omega) (by omega))
      · rw [if_neg (by omega)]; exact hr _ _ (by omega) (by omega) h3
  · rw [if_neg (by omega)]
    by_cases hp' : p = i - 1
    · rw [if_pos (by omega), if_neg (by omega), if_neg (by omega)]; exact hi q (by omega) h3
    · rw [if_neg (by omega), if_neg (by omega), if_neg (by omega)]; exact hr _ _ (by omega) h2 h3
theorem sh2_srt (o : Swo lt) (hl : Srt' lt ix f a m) (hx : Cross ix f a m (m + 1)) {i : Nat} (B : Bin (fun h => lt (f m) (f h)) a m i i) : Srt' lt ix (sh2 f m (m - i)) a (m + 1) := by
  have b1 := B.li
  have b2 := B.jh
  have lo : ∀ h, a ≤ h → h < i → Lt' lt ix (f h) (f m) := fun h h1 h2 => .of (B.no h h1 h2) (hx h m h1 (by omega) (Nat.le_refl _) (by omega))
  have hi : ∀ h, i ≤ h → h < m → lt (f m) (f h) = true := fun h h1 h2 => B.yes h h1 h2
  intro p q h1 h2 h3
  unfold sh2
  by_cases hp : p < i
  · rw [if_neg (by omega), if_neg (by omega)]
    by_cases hq : i < q
    · rw [if_pos (by omega)]; exact hl _ _ h1 (by omega) (by omega)
    · rw [if_neg (by omega)]
      by_cases hq : q = i
      · rw [if_pos (by omega)]; exact lo p h1 hp
      · rw [if_neg (by omega)]; exact hl _ _ h1 h2 (by omega)
  · by_cases hp' : p = i
    · rw [if_neg (by omega), if_pos (by omega), if_pos (by omega)]; exact .inl (hi _ (by omega) (by omega))
    · rw [if_pos (by omega), if_pos (by omega)]; exact hl _ _ (by omega) (by omega) (by omega)

/-! ### What is left to merge -/
/-- The rotation of a merge: the halves that are left, and that all of the lower half stands before the upper half. -/
structure Halves (lt : α → α → Bool) (ix : α → Nat) (h : Nat → α) (a s mid e b : Nat) : Prop where
  l1 : Srt' lt ix h a s
  r1 : Srt' lt ix h s mid
  l2 : Srt' lt ix h mid e
  r2 : Srt' lt ix h e b
  x1 : Cross ix h a s mid
  x2 : Cross ix h mid e b
  lh : ∀ i j, a ≤ i → i < mid → mid ≤ j → j < b → Lt' lt ix (h i) (h j)
theorem rot_same0 (f : Nat → α) {s m e : Nat} (h : ¬ (s < m ∧ m < e)) (h1 : s ≤ m) (h2 : m ≤ e) : rot f s m e = f := by
  funext k
  unfold rot
  by_cases h3 : s ≤ k ∧ k < s + (e - m)
  · rw [if_pos h3]; congr 1; omega
  · rw [if_neg h3]
    split
    · congr 1; omega
    · rfl
theorem halves (o : Swo lt) (hl : Srt' lt ix f a m) (hr : Srt' lt ix f m b) (hx : Cross ix f a m b) {lo hi s : Nat} (hsm : s ≤ m) (has : a ≤ s) (hsmid : s ≤ (a + b) / 2)
    (he : m + (a + b) / 2 ≤ b + s) (B : Bin (fun c => lt (f ((a + b) / 2 + m - 1 - c)) (f c)) lo hi s s) (hlo : lo = a ∨ lo + b = (a + b) / 2 + m) (hhi : hi = m ∨ hi = (a + b) / 2) (ham : a < m) (hmb : m < b) :
    Halves lt ix (rot f s m ((a + b) / 2 + m - s)) a s ((a + b) / 2) ((a + b) / 2 + m - s) b := by
  generalize hmid : (a + b) / 2 = mid at *
  generalize hE : mid + m - s = e at *
  have v1 : ∀ k, k < s → rot f s m e k = f k := fun k h => by unfold rot; rw [if_neg (by omega), if_neg (by omega)]
  have v2 : ∀ k, s ≤ k → k < mid → rot f s m e k = f (k + (m - s)) := fun k h1 h2 => by unfold rot; rw [if_pos (by omega)]
  have v3 : ∀ k, mid ≤ k → k < e → rot f s m e k = f (k - (e - m)) := fun k h1 h2 => by unfold rot; rw [if_neg (by omega), if_pos (by omega)]
  have v4 : ∀ k, e ≤ k → rot f s m e k = f k := fun k h => by unfold rot; rw [if_neg (by omega), if_neg (by omega)]
  refine ⟨fun p q h1 h2 h3 => ?_, fun p q h1 h2 h3 => ?_, fun p q h1 h2 h3 => ?_, fun p q h1 h2 h3 => ?_, fun p q h1 h2 h3 h4 => ?_, fun p q h1 h2 h3 h4 => ?_, fun p q h1 h2 h3 h4 => ?_⟩
  · rw [v1 p (by omega), v1 q h3]; exact hl p q h1 h2 (by omega)
  · rw [v2 p h1 (by omega), v2 q (by omega) h3]; exact hr _ _ (by omega) (by omega) (by omega)
  · rw [v3 p h1 (by omega), v3 q (by omega) h3]; exact hl _ _ (by omega) (by omega) (by omega)
  · rw [v4 p h1, v4 q (by omega)]; exact hr _ _ (by omega) h2 h3
  · rw [v1 p h2, v2 q h3 h4]; exact hx _ _ h1 (by omega) (by omega) (by omega)
  · rw [v3 p h1 h2, v4 q h3]; exact hx _ _ (by omega) (by omega) (by omega) h4
  · by_cases hp : p < s
    · rw [v1 p hp]
      by_cases hq : q < e
      · rw [v3 q h3 hq]; exact hl _ _ h1 (by omega) (by omega)
      · rw [v4 q (by omega)]
        refine .of ?_ (hx _ _ h1 (by omega) (by omega) h4)
        have hn := B.no (s - 1) (by omega) (by omega)
        rw [show mid + m - 1 - (s - 1) = e by omega] at hn
        have k1 := o.ntrans _ _ _ (hr.nlt o (x := e) (y := q) (by omega) (by omega) h4) hn
        exact o.ntrans _ _ _ k1 (hl.nlt o (x := p) (y := s - 1) h1 (by omega) (by omega))
    · rw [v2 p (by omega) h2]
      by_cases hq : q < e
      · rw [v3 q h3 hq]
        refine .inl ?_
        have hy := B.yes s (Nat.le_refl _) (by omega)
        cases e' : lt (f (p + (m - s))) (f (q - (e - m))) with
        | true => rfl
        | false =>
          have k1 := o.ntrans _ _ _ (hr.nlt o (x := p + (m - s)) (y := mid + m - 1 - s) (by omega) (by omega) (by omega)) e'
          have k2 := o.ntrans _ _ _ k1 (hl.nlt o (x := s) (y := q - (e - m)) has (by omega) (by omega))
          rw [hy] at k2
          cases k2
      · rw [v4 q (by omega)]; exact hr _ _ (by omega) (by omega) h4
/-- Behind the two merges that are left the whole is in order. -/
theorem Halves.join {h h1 h2 : Nat → α} {s mid e : Nat} (H : Halves lt ix h a s mid e b) (k1 : Sw a mid h h1) (s1 : Srt' lt ix h1 a mid) (k2 : Sw mid b h1 h2) (s2 : Srt' lt ix h2 mid b) : Srt' lt ix h2 a b := by
  intro p q g1 g2 g3
  by_cases hq : q < mid
  · rw [k2.out p (by omega), k2.out q (by omega)]; exact s1 p q g1 g2 hq
  · by_cases hp : p < mid
    · rw [k2.out p (by omega)]
      obtain ⟨x, x1, x2, e1⟩ := k1.mem p g1 hp
      obtain ⟨y, y1, y2, e2⟩ := k2.mem q (by omega) g3
      rw [e1, e2, k1.out y (by omega)]
      exact H.lh x y x1 x2 y1 y2
    · exact s2 p q (by omega) g2 g3
end
end Go.Proofs.Ytaopjdjbpamhhaa
/- Proved: the chain law once more, for regions whose loads must all come ahead of what changes the world ('x[i], x[j] = x[j], x[i]'): such a load (E) is run at the very world ahead. No program is named. No condition. -/
namespace Go.Proofs.Ytaopjdjbpamhhaa
open Go Go.RowKit
set_option linter.unusedVariables false
set_option linter.unusedSimpArgs false
def SpecE (P : Program) (ops : Array Oper) (S : World → Prop) (K E : Nat → Bool) (i : Nat) (o : Oper) (a : Act) (w : World) (next : Value → World → Prop) : Prop :=
  if Region.wanted o (yielded ops a.tmps) = true then
    match K i with
    | true => Res P o a w fun u w' => S w' ∧ next u w'
    | false => ∃ v, (∀ w', S w' → (E i = true → w' = w) → (execOp a.eval o).run P w' = .ok (.value v) w') ∧ next v w
  else next undef w
def SeqE (P : Program) (ops : Array Oper) (S : World → Prop) (K E : Nat → Bool) (Fin : Act → World → Prop) : List Nat → Act → World → Prop
  | [], a, w => Fin a w
  | i :: rest, a, w => ∃ o, ops[i]? = some o ∧ SpecE P ops S K E i o a w fun u w' => SeqE P ops S K E Fin rest (a.put o.dst u) w'
structure ChainEOk (ops : Array Oper) (K E : Nat → Bool) (n : Nat) : Prop where
  base : ChainOk ops K n
  early : ∀ i j, E i = true → K j = true → i < n → j < n → i < j ∧ waits ops j i = true
def chainEOkB (ops : Array Oper) (K E : Nat → Bool) (n : Nat) : Bool :=
  chainOkB ops K n && (List.range n).all fun i => (List.range n).all fun j => !E i || !K j || (decide (i < j) && waits ops j i)
theorem ChainEOk.of {ops : Array Oper} {K E : Nat → Bool} {n : Nat} (h : chainEOkB ops K E n = true) : ChainEOk ops K E n := by
  simp only [chainEOkB, Bool.and_eq_true, List.all_eq_true, List.mem_range, Bool.or_eq_true, Bool.not_eq_true', decide_eq_true_eq] at h
  refine ⟨ChainOk.of h.1, fun i j hi hj hin hjn => ?_⟩
  rcases h.2 i hin j hjn with (h | h) | h
  · rw [hi] at h; cases h
  · rw [hj] at h; cases h
  · exact h
section
variable {P : Program} {ops : Array Oper} {S : World → Prop} {K E : Nat → Bool} {n : Nat} {Fin : Act → World → Prop}
/-- A plain operation that is ready may come up first: what stands ahead of it holds no operation that changes the world, if it is to be run at the very world. -/
theorem SeqE.val (H : HeadOk ops (fun _ => .val) n) {i : Nat} {oi : Oper} (hi : i < n) (hoi : ops[i]? = some oi) {post : List Nat} : ∀ (pre : List Nat) (a : Act) (w : World), S w → (∀ k ∈ pre, k < n ∧ k ≠ i ∧ waits ops i k = false ∧ waits ops k i = false ∧ (E i = true → K k = false)) →
    (Region.wanted oi (yielded ops a.tmps) = true → K i = false) → SeqE P ops S K E Fin (pre ++ i :: post) a w →
    ∃ v, ((Region.wanted oi (yielded ops a.tmps) = true ∧ ∀ w', S w' → (E i = true → w' = w) → (execOp a.eval oi).run P w' = .ok (.value v) w') ∨ (Region.wanted oi (yielded ops a.tmps) = false ∧ v = undef)) ∧ SeqE P ops S K E Fin (pre ++ post) (a.put oi.dst v) w
  | [], a, w, hw, _, hK, h => by
    obtain ⟨o, ho, hs⟩ := h
    obtain rfl : o = oi := Option.some.inj (ho.symm.trans hoi)
    unfold SpecE at hs
    split at hs
    · rename_i hwt
      rw [hK hwt] at hs
      obtain ⟨v, h1, h2⟩ := hs
      exact ⟨v, .inl ⟨hwt, h1⟩, h2⟩
    · rename_i hwt
      exact ⟨undef, .inr ⟨by simpa using hwt, rfl⟩, hs⟩
  | k :: pre, a, w, hSw, hp, hK, h => by
    obtain ⟨ok, hok, hs⟩ := h
    obtain ⟨hkn, hki, hik, hwk, hek⟩ := hp k (by simp)
    have ap := fun v => H.apart hi hkn hoi hok hik a v
    have ak := fun v => H.apart hkn hi hok hoi hwk a v
    have ih : ∀ vk w', S w' → SeqE P ops S K E Fin (pre ++ i :: post) (a.put ok.dst vk) w' → ∃ v, ((Region.wanted oi (yielded ops a.tmps) = true ∧ ∀ w'', S w'' → (E i = true → w'' = w') → (execOp a.eval oi).run P w'' = .ok (.value v) w'') ∨ (Region.wanted oi (yielded ops a.tmps) = false ∧ v = undef)) ∧ SeqE P ops S K E Fin (pre ++ post) ((a.put oi.dst v).put ok.dst vk) w' := fun vk w' hSw' h => by
      obtain ⟨v, h1, h2⟩ := SeqE.val H hi hoi pre (a.put ok.dst vk) w' hSw' (fun k' hk' => hp k' (by simp [hk'])) (by rw [(ap vk).2]; exact hK) h
      rw [(ap vk).1, (ap vk).2] at h1
      refine ⟨v, h1, ?_⟩
      rw [Act.put_comm a v vk (fun d hd => H.dst i k oi ok d hi hkn (Ne.symm hki) hoi hok hd)]
      exact h2
    unfold SpecE at hs
    have asm : ∀ v, SpecE P ops S K E k ok (a.put oi.dst v) w (fun u w' => SeqE P ops S K E Fin (pre ++ post) ((a.put oi.dst v).put ok.dst u) w') → SeqE P ops S K E Fin (k :: pre ++ post) (a.put oi.dst v) w := fun v h => ⟨ok, hok, h⟩
    split at hs
    · rename_i hwt
      cases hKk : K k with
      | true =>
        have hEi : E i = false := by
          cases e : E i with
          | false => rfl
          | true => rw [hek e] at hKk; cases hKk
        have uniq : ∀ v v', ((Region.wanted oi (yielded ops a.tmps) = true ∧ ∀ w', S w' → (execOp a.eval oi).run P w' = .ok (.value v) w') ∨ (Region.wanted oi (yielded ops a.tmps) = false ∧ v = undef)) → ((Region.wanted oi (yielded ops a.tmps) = true ∧ ∀ w', S w' → (execOp a.eval oi).run P w' = .ok (.value v') w') ∨ (Region.wanted oi (yielded ops a.tmps) = false ∧ v' = undef)) → v = v' := by
          rintro v v' (⟨h1, h2⟩ | ⟨h1, rfl⟩) (⟨h3, h4⟩ | ⟨h3, rfl⟩)
          · have := (h2 w hSw).symm.trans (h4 w hSw)
            simpa using this
          · rw [h1] at h3; cases h3
          · rw [h1] at h3; cases h3
          · rfl
        have weak : ∀ v w', ((Region.wanted oi (yielded ops a.tmps) = true ∧ ∀ w'', S w'' → (E i = true → w'' = w') → (execOp a.eval oi).run P w'' = .ok (.value v) w'') ∨ (Region.wanted oi (yielded ops a.tmps) = false ∧ v = undef)) → ((Region.wanted oi (yielded ops a.tmps) = true ∧ ∀ w', S w' → (execOp a.eval oi).run P w' = .ok (.value v) w') ∨ (Region.wanted oi (yielded ops a.tmps) = false ∧ v = undef)) := fun v w' h => h.imp (fun h => ⟨h.1, fun w'' hs => h.2 w'' hs fun e => by rw [hEi] at e; cases e⟩) id
        rw [hKk] at hs
        obtain ⟨u0, w0, hS0, h0⟩ := hs.some
        obtain ⟨v, h1, _⟩ := ih u0 w0 hS0 h0
        have h1' := weak v w0 h1
        refine ⟨v, h1'.imp (fun h => ⟨h.1, fun w' hs _ => h.2 w' hs⟩) id, asm v ?_⟩
        unfold SpecE
        rw [(ak v).2, if_pos hwt, hKk]
        refine (Res.congr (ak v).1).2 (hs.mono fun u w' hu => ⟨hu.1, ?_⟩)
        obtain ⟨v', h3, h4⟩ := ih u w' hu.1 hu.2
        obtain rfl := uniq v v' h1' (weak v' w' h3)
        exact h4
      | false =>
        rw [hKk] at hs
        obtain ⟨vk, h3, h4⟩ := hs
        obtain ⟨v, h1, h2⟩ := ih vk w hSw h4
        refine ⟨v, h1, asm v ?_⟩
        unfold SpecE
        rw [(ak v).2, if_pos hwt, hKk]
        exact ⟨vk, by rw [(ak v).1]; exact h3, h2⟩
    · rename_i hwt
      obtain ⟨v, h1, h2⟩ := ih undef w hSw hs
      refine ⟨v, h1, asm v ?_⟩
      unfold SpecE
      rw [(ak v).2, if_neg hwt]
      exact h2

/-- An operation that changes the world may come up where only plain ones are ahead, none of which is to be run at the very world. -/
theorem SeqE.act (H : HeadOk ops (fun _ => .val) n) {i : Nat} {oi : Oper} (hi : i < n) (hoi : ops[i]? = some oi) (hKi : K i = true) {post : List Nat} : ∀ (pre : List Nat) (a : Act) (w : World), (∀ k ∈ pre, k < n ∧ k ≠ i ∧ waits ops i k = false ∧ waits ops k i = false ∧ K k = false ∧ E k = false) →
    Region.wanted oi (yielded ops a.tmps) = true → SeqE P ops S K E Fin (pre ++ i :: post) a w →
    Res P oi a w fun u w' => S w' ∧ SeqE P ops S K E Fin (pre ++ post) (a.put oi.dst u) w'
  | [], a, w, _, hwt, h => by
    obtain ⟨o, ho, hs⟩ := h
    obtain rfl : o = oi := Option.some.inj (ho.symm.trans hoi)
    unfold SpecE at hs
    rw [if_pos hwt, hKi] at hs
    exact hs
  | k :: pre, a, w, hp, hwt, h => by
    obtain ⟨ok, hok, hs⟩ := h
    obtain ⟨hkn, hki, hik, hwk, hKk, hEk⟩ := hp k (by simp)
    have ap := fun v => H.apart hi hkn hoi hok hik a v
    have ak := fun v => H.apart hkn hi hok hoi hwk a v
    have ih : ∀ vk, SeqE P ops S K E Fin (pre ++ i :: post) (a.put ok.dst vk) w → Res P oi a w fun u w' => S w' ∧ SeqE P ops S K E Fin (pre ++ post) ((a.put oi.dst u).put ok.dst vk) w' := fun vk h => by
      have := SeqE.act H hi hoi hKi pre (a.put ok.dst vk) w (fun k' hk' => hp k' (by simp [hk'])) (by rw [(ap vk).2]; exact hwt) h
      refine ((Res.congr (ap vk).1).1 this).mono fun u w' hu => ⟨hu.1, ?_⟩
      rw [Act.put_comm a u vk (fun d hd => H.dst i k oi ok d hi hkn (Ne.symm hki) hoi hok hd)]
      exact hu.2
    unfold SpecE at hs
    split at hs
    · rename_i hwk'
      rw [hKk] at hs
      obtain ⟨vk, h3, h4⟩ := hs
      refine (ih vk h4).mono fun u w' hu => ⟨hu.1, ok, hok, ?_⟩
      unfold SpecE
      rw [(ak u).2, if_pos hwk', hKk]
      exact ⟨vk, by rw [(ak u).1]; exact fun w'' hs _ => h3 w'' hs (fun e => by rw [hEk] at e; cases e), hu.2⟩
    · rename_i hwk'
      refine (ih undef hs).mono fun u w' hu => ⟨hu.1, ok, hok, ?_⟩
      unfold SpecE
      rw [(ak u).2, if_neg hwk']
      exact hu.2
theorem chainE_any (HE : ChainEOk ops K E n) {Q : Exit → Act → World → Prop} {tail : List Oper} (hFin : ∀ a w, S w → Fin a w → wpList P ops Q tail a w)
    (hT : ∀ listed, HeadInv .any ops n listed → ∀ i, i < n → listed.getD i true = false → ∀ j ∈ Region.ready .any ops listed, j < n)
    (hE : ∀ listed, HeadInv .any ops n listed → (∀ i, i < n → listed.getD i false = true) → ∀ a w, wpList P ops Q tail a w → wpAny P .any ops Q tail.length listed a w) :
    ∀ (m : Nat) (listed : Array Bool) (a : Act) (w : World), (unl n listed).length = m → HeadInv .any ops n listed → SeqE P ops S K E Fin (unl n listed) a w → S w →
      wpAny P .any ops Q (m + tail.length) listed a w := by
  have H := HE.base
  intro m
  induction m with
  | zero =>
    intro listed a w hm inv hs hSw
    rw [List.length_eq_zero_iff] at hm
    rw [hm] at hs
    have hall : ∀ i, i < n → listed.getD i false = true := fun i hi => by
      cases hl : listed.getD i false with
      | true => rfl
      | false =>
        have : i ∈ unl n listed := mem_unl.2 ⟨hi, getD_in (by rw [inv.size]; exact Nat.lt_of_lt_of_le hi H.head.le) hl⟩
        rw [hm] at this
        cases this
    rw [Nat.zero_add]
    exact hE listed inv hall a w (hFin a w hSw hs)
  | succ m ih =>
    intro listed a w hm inv hs hSw
    have hne : ∃ i0, i0 ∈ unl n listed := by
      cases hu : unl n listed with
      | nil => rw [hu] at hm; cases hm
      | cons x t => exact ⟨x, by simp⟩
    obtain ⟨i0, hi0⟩ := hne
    have hlt : ∀ j ∈ Region.ready .any ops listed, j < n := hT listed inv i0 (mem_unl.1 hi0).1 (mem_unl.1 hi0).2
    rw [show m + 1 + tail.length = (m + tail.length) + 1 by omega]
    have main : ∀ i ∈ Region.ready .any ops listed, wpOp P ops Q i (wpAny P .any ops Q (m + tail.length) (listed.setIfInBounds i true)) a w := by
      intro i hr
      have hin := hlt i hr
      obtain ⟨hun, oi, hoi, hall⟩ := mem_ready.1 hr
      have hisz : i < listed.size := by rw [inv.size]; exact Nat.lt_of_lt_of_le hin H.head.le
      obtain ⟨pre, post, hu⟩ := List.append_of_mem (mem_unl.2 ⟨hin, hun⟩)
      have hwl : ∀ k, waits ops i k = true → listed.getD k false = true := fun k hk => waitsN_listed inv.closed ops.size i (fun o ho => by
        obtain rfl : o = oi := Option.some.inj (ho.symm.trans hoi)
        exact hall) hk
      have hsort : ((unl n listed)).Pairwise (· < ·) := List.Pairwise.filter _ List.pairwise_lt_range
      rw [hu] at hsort
      have hlt' : ∀ k ∈ pre, k < i := fun k hk => (List.pairwise_append.1 hsort).2.2 k hk i (by simp)
      have hnw : ∀ k ∈ pre, waits ops i k = false := fun k hk => by
        have hku := mem_unl.1 (show k ∈ unl n listed by rw [hu]; simp [hk])
        cases hw : waits ops i k with
        | false => rfl
        | true => have h1 := hwl k hw; rw [getD_both hku.2] at h1; cases h1
      have hpre : ∀ k ∈ pre, k < n ∧ k ≠ i ∧ waits ops i k = false ∧ waits ops k i = false := fun k hk => by
        have hku := mem_unl.1 (show k ∈ unl n listed by rw [hu]; simp [hk])
        have hki := hlt' k hk
        refine ⟨hku.1, by omega, hnw k hk, ?_⟩
        cases hw : waits ops k i with
        | false => rfl
        | true => have := H.head.ord k i hku.1 hin hw; omega
      have hpreE : ∀ k ∈ pre, k < n ∧ k ≠ i ∧ waits ops i k = false ∧ waits ops k i = false ∧ (E i = true → K k = false) := fun k hk => ⟨(hpre k hk).1, (hpre k hk).2.1, (hpre k hk).2.2.1, (hpre k hk).2.2.2, fun e => by
        cases hKk : K k with
        | false => rfl
        | true => have := (HE.early i k e hKk hin (hpre k hk).1).1; have := hlt' k hk; omega⟩
      rw [hu] at hs
      have hul := unl_set hisz hu
      have hlen : (unl n (listed.setIfInBounds i true)).length = m := by
        rw [hul]
        rw [hu] at hm
        simp only [List.length_append, List.length_cons] at hm ⊢
        omega
      have go : ∀ v w', S w' → SeqE P ops S K E Fin (pre ++ post) (a.put oi.dst v) w' → wpAny P .any ops Q (m + tail.length) (listed.setIfInBounds i true) (a.put oi.dst v) w' :=
        fun v w' hS' h => ih _ _ _ hlen (inv.set hr hin) (by rw [hul]; exact h) hS'
      unfold wpOp
      simp only [hoi]
      by_cases hwt : Region.wanted oi (yielded ops a.tmps) = true
      · rw [if_pos hwt]
        refine .inl ?_
        cases hK : K i with
        | true =>
          refine (SeqE.act H.head hin hoi hK pre a w (fun k hk => ⟨(hpre k hk).1, (hpre k hk).2.1, (hpre k hk).2.2.1, (hpre k hk).2.2.2, ?_, ?_⟩) hwt hs).wp fun u w' hu => go u w' hu.1 hu.2
          · cases hKk : K k with
            | false => rfl
            | true => have := H.chain k i (hlt' k hk) hin hKk hK; rw [hnw k hk] at this; cases this
          · cases hEk : E k with
            | false => rfl
            | true => have := (HE.early k i hEk hK (hpre k hk).1 hin).2; rw [hnw k hk] at this; cases this
        | false =>
          obtain ⟨v, h1, h2⟩ := SeqE.val H.head hin hoi pre a w hSw hpreE (fun _ => hK) hs
          rcases h1 with ⟨_, h1⟩ | ⟨h1, _⟩
          · unfold Oper.wp
            rw [h1 w hSw fun _ => rfl]
            exact go v w hSw h2
          · rw [hwt] at h1; cases h1
      · rw [if_neg hwt]
        obtain ⟨v, h1, h2⟩ := SeqE.val H.head hin hoi pre a w hSw hpreE (fun h => absurd h hwt) hs
        rcases h1 with ⟨h1, _⟩ | ⟨_, rfl⟩
        · exact absurd h1 hwt
        · exact go undef w hSw h2
    refine ⟨fun h0 => ?_, main⟩
    exfalso
    have hmin : ∃ i, i ∈ unl n listed ∧ ∀ k ∈ unl n listed, i ≤ k := by
      cases hu : unl n listed with
      | nil => rw [hu] at hm; cases hm
      | cons x t =>
        refine ⟨x, by simp, fun k hk => ?_⟩
        have hsort : ((unl n listed)).Pairwise (· < ·) := List.Pairwise.filter _ List.pairwise_lt_range
        rw [hu] at hsort
        rcases List.mem_cons.1 hk with rfl | hk
        · exact Nat.le_refl _
        · exact Nat.le_of_lt ((List.pairwise_cons.1 hsort).1 k hk)
    obtain ⟨i, hi, hmin⟩ := hmin
    have hiu := mem_unl.1 hi
    have hisz : i < ops.size := Nat.lt_of_lt_of_le hiu.1 H.head.le
    have : i ∈ Region.ready .any ops listed := mem_ready.2 ⟨hiu.2, ops[i], Array.getElem?_eq_getElem hisz, fun e he hb => ?_⟩
    · rw [h0] at this; cases this
    · have hlt := H.head.edge i _ hiu.1 (Array.getElem?_eq_getElem hisz) e he hb
      cases hl : listed.getD e.on false with
      | true => rfl
      | false =>
        have := hmin e.on (mem_unl.2 ⟨by omega, getD_in (by rw [inv.size]; omega) hl⟩)
        omega

/-- The walk in the order of the text, over the operations themselves (acts: the numbers of those that change the world). -/
def SeqF (P : Program) (ops : Array Oper) (S : World → Prop) (acts ear : List Nat) (Fin : Act → World → Prop) : Nat → List Oper → Act → World → Prop
  | _, [], a, w => Fin a w
  | k, o :: rest, a, w => SpecE P ops S (fun i => acts.contains i) (fun i => ear.contains i) k o a w fun u w' => SeqF P ops S acts ear Fin (k + 1) rest (a.put o.dst u) w'
theorem SpecE.mono {i : Nat} {o : Oper} {a : Act} {w : World} {nx nx' : Value → World → Prop} (h : SpecE P ops S K E i o a w nx) (hn : ∀ u w', nx u w' → nx' u w') : SpecE P ops S K E i o a w nx' := by
  unfold SpecE at *
  split
  · rename_i hw
    rw [if_pos hw] at h
    cases hK : K i with
    | true => rw [hK] at h; exact h.mono fun u w' hu => ⟨hu.1, hn _ _ hu.2⟩
    | false => rw [hK] at h; exact ⟨h.choose, h.choose_spec.1, hn _ _ h.choose_spec.2⟩
  · rename_i hw
    rw [if_neg hw] at h
    exact hn _ _ h
theorem SeqF.seq {acts ear : List Nat} : ∀ (l : List Oper) (k : Nat) (a : Act) (w : World), (∀ j, j < l.length → l[j]? = ops[k + j]?) → SeqF P ops S acts ear Fin k l a w → SeqE P ops S (fun i => acts.contains i) (fun i => ear.contains i) Fin (List.range' k l.length) a w
  | [], k, a, w, _, h => h
  | o :: l, k, a, w, hl, h => by
    rw [List.length_cons, List.range'_succ]
    refine ⟨o, by simpa using (hl 0 (by simp)).symm, SpecE.mono h fun u w' hu => ?_⟩
    exact SeqF.seq l (k + 1) _ _ (fun j hj => by have := hl (j + 1) (by simp; omega); simpa [Nat.add_assoc, Nat.add_comm 1 j] using this) hu
def chainEB (ops : Array Oper) (acts ear : List Nat) (n : Nat) : Bool :=
  chainEOkB ops (fun i => acts.contains i) (fun i => ear.contains i) n && Region.seqB .any ops (ops.size - n) n (canon n (ops.size - n)) && (decide (n = ops.size) || (decide (n < ops.size) && Region.sinkB .any ops n && Region.chainB .any ops n))
theorem wp_region_chainE {id : Nat} {Q : Exit → Act → World → Prop} {a : Act} {w : World} {l : List Oper} (n : Nat) (acts ear : List Nat) (S : World → Prop) (hm : P.follows .mixedOrders = true)
    (hB : chainEB l.toArray acts ear n = true) (h0 : S w.drew)
    (h : SeqF P l.toArray S acts ear (fun a' w' => wpList P l.toArray Q (l.drop n) a' w') 0 (l.take n) a w.drew) : (Code.region id l.toArray true).wp P Q a w := by
  simp only [chainEB, Bool.and_eq_true, Bool.or_eq_true, decide_eq_true_eq] at hB
  obtain ⟨⟨hH, hS⟩, hE⟩ := hB
  have HE := ChainEOk.of hH
  have H := HE.base
  have hle : n ≤ l.length := by simpa using H.head.le
  have htl : (l.take n).length = n := by simp; omega
  refine wp_region_any hm ?_
  have inv0 : HeadInv .any l.toArray n (Array.replicate l.toArray.size false) :=
    ⟨by simp, fun j oj _ hl => (by rw [getD_replicate_false] at hl; cases hl), fun t _ ht => getD_in (by simpa using ht) (getD_replicate_false _ _)⟩
  have hu : unl n (Array.replicate l.toArray.size false) = List.range n := by
    unfold unl
    refine List.filter_eq_self.2 fun i hi => ?_
    rw [getD_in (by simp; have := List.mem_range.1 hi; omega) (getD_replicate_false _ _)]
    rfl
  have h' := SeqF.seq (l.take n) 0 a w.drew (fun j hj => by rw [htl] at hj; simp [hj]) h
  rw [htl, ← List.range_eq_range'] at h'
  have := chainE_any HE (Q := Q) (tail := l.drop n) (fun _ _ _ h => h) (fun listed inv i hi hun j hj => ?_) (fun listed inv hall a' w' hw => ?_) n _ a w.drew (by rw [hu]; simp) inv0 (by rw [hu]; exact h') h0
  · rw [show n + (l.drop n).length = l.toArray.size by simp; omega] at this
    exact this
  · rcases hE with hE | ⟨⟨hn, hs⟩, hc⟩
    · obtain ⟨_, oj, hoj, _⟩ := mem_ready.1 hj
      rw [hE]
      exact (Array.getElem?_eq_some_iff.1 hoj).1
    · rcases Nat.lt_or_ge j n with h1 | h1
      · exact h1
      · exact absurd hj (tail_waits hs hc hn inv _ i rfl hi hun j h1)
  · rw [canon_of H.head.le inv hall]
    refine wpAny_of_seq (l.drop n) n _ a' w' (fun j => by simp [List.getElem?_drop]) ?_ hw
    rw [show (l.drop n).length = l.toArray.size - n by simp]
    exact hS
end
/-! ### The steps of a walk -/
section
variable {P : Program} {ops : Array Oper} {S : World → Prop} {acts ear : List Nat} {Fin : Act → World → Prop} {k : Nat} {o : Oper} {rest : List Oper} {a : Act} {w : World}
structure SeqV (P : Program) (ops : Array Oper) (S : World → Prop) (acts ear : List Nat) (Fin : Act → World → Prop) (k : Nat) (l : List Oper) (a : Act) (w : World) : Prop where
  out : SeqF P ops S acts ear Fin k l a w
theorem SeqV.nil (h : Fin a w) : SeqV P ops S acts ear Fin k [] a w := ⟨h⟩
theorem SeqV.val {v : Value} (hK : acts.contains k = false) (hw : Region.wanted o (yielded ops a.tmps) = true) (h : ∀ w, S w → (execOp a.eval o).run P w = .ok (.value v) w)
    (hn : SeqV P ops S acts ear Fin (k + 1) rest (a.put o.dst v) w) : SeqV P ops S acts ear Fin k (o :: rest) a w := by
  refine ⟨?_⟩
  show SpecE _ _ _ _ _ _ _ _ _ _
  unfold SpecE
  rw [if_pos hw]
  simp only [hK]
  exact ⟨v, fun w' hs _ => h w' hs, hn.out⟩
/-- A load at the very world. -/
theorem SeqV.load {v : Value} (hK : acts.contains k = false) (hE : ear.contains k = true) (hw : Region.wanted o (yielded ops a.tmps) = true) (h : (execOp a.eval o).run P w = .ok (.value v) w)
    (hn : SeqV P ops S acts ear Fin (k + 1) rest (a.put o.dst v) w) : SeqV P ops S acts ear Fin k (o :: rest) a w := by
  refine ⟨?_⟩
  show SpecE _ _ _ _ _ _ _ _ _ _
  unfold SpecE
  rw [if_pos hw]
  simp only [hK]
  exact ⟨v, fun w' _ e => by rw [e hE]; exact h, hn.out⟩
theorem SeqV.skip (hw : Region.wanted o (yielded ops a.tmps) = false) (hn : SeqV P ops S acts ear Fin (k + 1) rest (a.put o.dst undef) w) : SeqV P ops S acts ear Fin k (o :: rest) a w := by
  refine ⟨?_⟩
  show SpecE _ _ _ _ _ _ _ _ _ _
  unfold SpecE
  rw [if_neg (by rw [hw]; simp)]
  exact hn.out
theorem SeqV.act0 (hK : acts.contains k = true) (hd : o.dst = none) (hw : Region.wanted o (yielded ops a.tmps) = true)
    (h : ∀ K' : Act → World → Prop, Hid (∀ w', S w' → SeqV P ops S acts ear Fin (k + 1) rest a w' → K' a w') → o.wp P a w K' (fun _ _ _ => False)) : SeqV P ops S acts ear Fin k (o :: rest) a w := by
  refine ⟨?_⟩
  show SpecE _ _ _ _ _ _ _ _ _ _
  unfold SpecE
  rw [if_pos hw]
  simp only [hK]
  have e : ∀ u, a.put o.dst u = a := fun u => by rw [hd]; rfl
  simp only [e]
  exact Res.of0 hd (h _ (fun w' h1 h2 => ⟨rfl, h1, h2.out⟩))
end
end Go.Proofs.Ytaopjdjbpamhhaa
