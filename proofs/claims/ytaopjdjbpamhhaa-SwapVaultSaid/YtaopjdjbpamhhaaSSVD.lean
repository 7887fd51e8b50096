/- Proved: texts of the families over slots, order and swap, joined, as far as the claim needs them. Conditions: as each theorem says. -/
import Derived.Test.YtaopjdjbpamhhaaSSVC
import Derived.Test.YtaopjdjbpamhhaaSSVA
import Derived.RangeFuncNested
import Derived.RangeFuncBound
import Derived.RangeFuncCalls
import Derived.RangeFuncLeaves
import Derived.Shelf.Abstract
import Derived.Shelf.RegionOpen
import Derived.OwnWalkIn
import Derived.TacticsInMore
import Derived.LoopNIn
import Derived.LoopIn
/- Proved: rows of bytes whose room holds zeros: bytes.Clone makes one, and a zero that is appended to one changes nothing old. Conditions: bytes in memory. -/
namespace Go.Proofs.Ytaopjdjbpamhhaa
open Go Go.RowKit
set_option linter.unusedVariables false
set_option linter.unusedSimpArgs false
def u8v (x : UInt8) : Value := .int .u8 ((x.toNat : Nat) : Int)
/-- A row of bytes whose room holds zeros. -/
def RowZ (B : Nat) (w : World) (v : Value) (l : Bts) : Prop :=
  l.length ≤ 140737488355328 ∧ ∃ b c cur, v = .slice (some ⟨b, 0, none⟩) l.length c ∧ B ≤ b ∧ l.length ≤ c ∧ w.heap[b]? = some (.cells cur 5) ∧ cur.toList = l.map u8v ++ List.replicate (c - l.length) (.int .u8 0)
section
variable {B : Nat} {w w' : World} {v : Value} {l : Bts}
theorem RowZ.bv (h : RowZ B w v l) : BV (fun b => B ≤ b ∧ b < w.heap.size) w v l := by
  obtain ⟨hl, b, c, cur, rfl, hB, hc, hg, hcur⟩ := h
  refine ⟨_, _, rfl, ⟨hc, fun h => by cases h⟩, hl, fun i hi => ⟨b, 0, [u8v l[i]], rfl, ⟨hB, block_lt hg⟩, fun j hj => ?_, rfl⟩⟩
  obtain rfl : j = 0 := by simpa using hj
  rw [cell_of_row w b _ cur _ (0, 0) hg, ← Array.getElem?_toList, hcur]
  simp [byteEl, hi, List.getElem?_append_left]
theorem RowZ.kept {S : Nat → Prop} (h : RowZ B w v l) (k : Kept S w w') (hS : ∀ b, B ≤ b → b < w.heap.size → ¬ S b) : RowZ B w' v l := by
  obtain ⟨hl, b, c, cur, rfl, hB, hc, hg, hcur⟩ := h
  exact ⟨hl, b, c, cur, rfl, hB, hc, k.obj (hS b hB (block_lt hg)) hg, hcur⟩
theorem RowZ.slice' (h : RowZ B w v l) : ∃ a n c, v = .slice a n c := by
  obtain ⟨_, b, c, cur, rfl, _⟩ := h
  exact ⟨_, _, _, rfl⟩
theorem RowZ.base {B' : Nat} (h : RowZ B w v l) (hB : B' ≤ B) : RowZ B' w v l := by
  obtain ⟨hl, b, c, cur, rfl, hb, hc, hg, hcur⟩ := h
  exact ⟨hl, b, c, cur, rfl, Nat.le_trans hB hb, hc, hg, hcur⟩
end
section
variable {P : Program} {w : World} {ops : Array Oper} {rest : List Oper} {o : Oper} {a : Act} {Q : Exit → Act → World → Prop}
end
end Go.Proofs.Ytaopjdjbpamhhaa
/- Proved: contract of swap's span.parts. Conditions: bytes in memory. -/
namespace Go.Proofs.Ytaopjdjbpamhhaa
open Go Go.RowKit
set_option linter.unusedVariables false
set_option linter.unusedSimpArgs false
theorem SeqL.act0 {P : Program} {ops : Array Oper} {Ext : World → World → Prop} {w0 : World} {K : Nat → Kd} {Fin : Act → Prop} {k : Nat} {o : Oper} {rest : List Oper} {a : Act} {Φ : World → Prop} (hK : K k = .act (fun _ => True) (fun _ w => Φ w)) (hd : o.dst = none) (hw : Region.wanted o (yielded ops a.tmps) = true)
    (h : ∀ w, Ext w0 w → (∀ j, j < k → waits ops k j = true → Held ops Ext w0 K j a w) → ∀ K' : Act → World → Prop, Hid (∀ w', Ext w w' → Φ w' → K' a w') → o.wp P a w K' (fun _ _ _ => False))
    (hn : SeqL P ops Ext w0 K Fin (k + 1) rest a) : SeqL P ops Ext w0 K Fin k (o :: rest) a := by
  refine ⟨fun _ => True, ?_, fun u _ => by rw [hd]; exact hn⟩
  unfold Spec
  rw [if_pos hw, hK]
  exact ⟨⟨undef, trivial⟩, rfl, fun w hc => (Res.of0 (R := fun w' => Ext w w' ∧ Φ w') hd (h w hc.1 hc.2 _ (fun w' hx hΦ => ⟨rfl, hx, hΦ⟩))).mono fun u w' h => ⟨trivial, h.1, h.2⟩⟩
/-- Only one block changes, once, to an object. -/
def OnceTo (b : Nat) (o : Obj) (A B : World) : Prop := Kept (fun x => x = b) A B ∧ (B.heap[b]? = A.heap[b]? ∨ B.heap[b]? = some o)
theorem OnceTo.refl (b : Nat) (o : Obj) (A : World) : OnceTo b o A A := ⟨Kept.refl _ _, .inl rfl⟩
theorem OnceTo.trans {b : Nat} {o : Obj} {A B C : World} (h : OnceTo b o A B) (k : OnceTo b o B C) : OnceTo b o A C :=
  ⟨h.1.tr k.1, by
    rcases k.2 with e | e
    · rcases h.2 with f | f
      · exact .inl (e.trans f)
      · exact .inr (e.trans f)
    · exact .inr e⟩
theorem OnceTo.of {b : Nat} {o : Obj} {A B : World} (hb : b < A.heap.size) (h : Kept Noneof A B) : OnceTo b o A B := ⟨h.mono fun _ h => h.elim, .inl (h.block b hb fun h => h)⟩

end Go.Proofs.Ytaopjdjbpamhhaa
/- Proved: contract of swap's keys. Conditions: a map in memory. -/
namespace Go.Proofs.Ytaopjdjbpamhhaa
open Go Go.RowKit Go.Shelf
set_option linter.unusedVariables false
set_option linter.unusedSimpArgs false
attribute [local go_sem] Oper.semAt_some
/-- The keys of a span. -/
def spanKeys (l : List (Bts × Bts)) (low high : Bts) (bd : Bool) : List Bts := (l.filter (inS low true high bd)).map (·.1)

end Go.Proofs.Ytaopjdjbpamhhaa
/- Proved: what the talk of a mirror holds in memory, and that it stays true while new memory is made and while its lists grow. No condition. -/
namespace Go.Proofs.Ytaopjdjbpamhhaa
open Go Go.RowKit
set_option linter.unusedVariables false
set_option linter.unusedSimpArgs false
def msgEl : El Msg where
  k := 7
  R := fun D w cs x => ∃ vl vh vp, cs = [vl, vh, .bool x.bd, .int .i64 x.size, .int .u64 x.dg, .bool x.same, vp] ∧ BV D w vl x.low ∧ BV D w vh x.high ∧ SV pairEl D w vp x.prs
  mono := fun hw ⟨vl, vh, vp, h1, h2, h3, h4⟩ => ⟨vl, vh, vp, h1, h2.mono byteEl_k hw, h3.mono byteEl_k hw, h4.mono pairEl_k hw⟩
  len := fun ⟨vl, vh, vp, h1, _⟩ => by rw [h1]; rfl
  one := fun ⟨vl, vh, vp, h1, h2, h3, h4⟩ x hx => by
    obtain ⟨a, c, rfl, _⟩ := h4
    rw [h1] at hx
    rcases List.mem_cons.1 hx with rfl | hx
    · exact h2.cell1
    · rcases List.mem_cons.1 hx with rfl | hx
      · exact h3.cell1
      · simp only [List.mem_cons, List.not_mem_nil, or_false] at hx
        rcases hx with rfl | rfl | rfl | rfl | rfl <;> rfl
/-- What a mirror's talk does not change: the variables' blocks, the nodes, the receiver. -/
structure TK where
  q2 : Nat
  q3 : Nat
  q4 : Nat
  q5 : Nat
  q6 : Nat
  q7 : Nat
  vn : Value
  m2 : Nat
  F2 : Nat → Prop
  DN : Nat → Prop
  B : Nat
  L : List ND
abbrev bp (b : Nat) : Value := .pointer (some ⟨b, 0, none⟩)
structure TalkIn (seed : Int) (u : Tr) (c : TK) (R : Nat → Prop) (vo vg vc : Value) (w : World) (ol : List Msg) (gl : List Bts) (cl : List (Bts × Bts)) : Prop where
  h2 : w.heap[c.q2]? = some (.cells #[c.vn] 166)
  h3 : w.heap[c.q3]? = some (.cells #[bp c.m2] 83)
  h4 : w.heap[c.q4]? = some (.cells #[vo] 85)
  h5 : w.heap[c.q5]? = some (.cells #[vg] 51)
  h6 : w.heap[c.q6]? = some (.cells #[vc] 65)
  h7 : w.heap[c.q7]? = some (.cells #[.func (.func 117) #[] #[bp c.q2, bp c.q3, bp c.q4, bp c.q5, bp c.q6, bp c.q7]] 168)
  hn : SV nodeEl c.DN w c.vn c.L
  hm : MapAt seed w c.m2 u c.F2
  ho : Own 97 msgEl R c.B w vo ol
  hg : Own 31 bytesEl R c.B w vg gl
  hc : Own 70 pairEl R c.B w vc cl
  lt : c.q2 < c.B ∧ c.q3 < c.B ∧ c.q4 < c.B ∧ c.q5 < c.B ∧ c.q6 < c.B ∧ c.q7 < c.B
  ne : c.q4 ≠ c.q2 ∧ c.q4 ≠ c.q3 ∧ c.q4 ≠ c.q5 ∧ c.q4 ≠ c.q6 ∧ c.q4 ≠ c.q7 ∧ c.q5 ≠ c.q2 ∧ c.q5 ≠ c.q3 ∧ c.q5 ≠ c.q6 ∧ c.q5 ≠ c.q7 ∧ c.q6 ≠ c.q2 ∧ c.q6 ≠ c.q3 ∧ c.q6 ≠ c.q7
  hD : ∀ b, c.DN b → R b ∧ b < c.B
  hF : ∀ b, c.F2 b → b < c.B ∧ b ≠ c.q4 ∧ b ≠ c.q5 ∧ b ≠ c.q6
  hR : ∀ b, R b → b < w.heap.size ∧ (b ≠ c.q4 ∧ b ≠ c.q5 ∧ b ≠ c.q6) ∧ vo.ownBlock ≠ some b ∧ vg.ownBlock ≠ some b ∧ vc.ownBlock ≠ some b
  dis : ∀ b, (vo.ownBlock = some b → vg.ownBlock ≠ some b ∧ vc.ownBlock ≠ some b) ∧ (vg.ownBlock = some b → vc.ownBlock ≠ some b)
  hB : c.B ≤ w.heap.size
  hRF : ∀ b, R b → ¬ c.F2 b
section
variable {seed : Int} {u : Tr} {c : TK} {R R' S : Nat → Prop} {vo vg vc : Value} {w w' : World} {ol : List Msg} {gl : List Bts} {cl : List (Bts × Bts)}
/-- What the talk may change. -/
def TalkS (c : TK) (vo vg vc : Value) (b : Nat) : Prop := b = c.q4 ∨ b = c.q5 ∨ b = c.q6 ∨ vo.ownBlock = some b ∨ vg.ownBlock = some b ∨ vc.ownBlock = some b
theorem TalkIn.kept (h : TalkIn seed u c R vo vg vc w ol gl cl) (k : Kept S w w') (hS : ∀ b, S b → c.B ≤ b ∧ ¬ R b ∧ vo.ownBlock ≠ some b ∧ vg.ownBlock ≠ some b ∧ vc.ownBlock ≠ some b) : TalkIn seed u c R vo vg vc w' ol gl cl := by
  have l := h.lt
  have n : ∀ b, b < c.B → ¬ S b := fun b hb hs => by have := (hS b hs).1; omega
  have kz := k.size
  exact ⟨k.obj (n _ l.1) h.h2, k.obj (n _ l.2.1) h.h3, k.obj (n _ l.2.2.1) h.h4, k.obj (n _ l.2.2.2.1) h.h5, k.obj (n _ l.2.2.2.2.1) h.h6, k.obj (n _ l.2.2.2.2.2) h.h7,
    h.hn.kept nodeEl_k k fun b hb _ => n b (h.hD b hb).2, h.hm.kept k fun b hb => n b (h.hF b hb).1,
    h.ho.kept k fun b hb _ => ⟨(hS b hb).2.1, (hS b hb).2.2.1⟩, h.hg.kept k fun b hb _ => ⟨(hS b hb).2.1, (hS b hb).2.2.2.1⟩, h.hc.kept k fun b hb _ => ⟨(hS b hb).2.1, (hS b hb).2.2.2.2⟩,
    h.lt, h.ne, h.hD, h.hF, fun b hb => ⟨by have := (h.hR b hb).1; omega, (h.hR b hb).2⟩, h.dis, by have := h.hB; omega, h.hRF⟩
/-- More blocks of data. -/
theorem TalkIn.wide (h : TalkIn seed u c R vo vg vc w ol gl cl) (hR : ∀ b, R b → R' b) (hR' : ∀ b, R' b → R b ∨ b < w.heap.size ∧ c.B ≤ b ∧ vo.ownBlock ≠ some b ∧ vg.ownBlock ≠ some b ∧ vc.ownBlock ≠ some b) : TalkIn seed u c R' vo vg vc w ol gl cl := by
  have l := h.lt
  exact ⟨h.h2, h.h3, h.h4, h.h5, h.h6, h.h7, h.hn, h.hm, h.ho.wide hR, h.hg.wide hR, h.hc.wide hR, h.lt, h.ne, fun b hb => ⟨hR b (h.hD b hb).1, (h.hD b hb).2⟩, h.hF, fun b hb => (hR' b hb).elim (h.hR b) fun k => ⟨k.1, ⟨by omega, by omega, by omega⟩, k.2.2⟩, h.dis, h.hB, fun b hb => (hR' b hb).elim (h.hRF b) fun k e => by have := (h.hF b e).1; omega⟩
/-- One more message. -/
theorem TalkIn.say {vo' : Value} {ol' : List Msg} (h : TalkIn seed u c R vo vg vc w ol gl cl) (k : Kept (fun b => vo.ownBlock = some b) w w') (ho : Own 97 msgEl R c.B w' vo' ol') (hb : ∀ b, vo'.ownBlock = some b → vo.ownBlock = some b ∨ w.heap.size ≤ b) :
    TalkIn seed u c R vo' vg vc (w'.setCell ⟨c.q4, 0, none⟩ vo') ol' gl cl := by
  have l := h.lt
  have n := h.ne
  have lo := h.ho.lt
  have lg := h.hg.lt
  have lc := h.hc.lt
  have k2 := (k.mono (T := fun b => b = c.q4 ∨ vo.ownBlock = some b) fun b h => .inr h).setCell (p := ⟨c.q4, 0, none⟩) (.inl (.inl rfl)) vo'
  have k3 := (Kept.refl (fun b => b = c.q4) w').setCell (p := ⟨c.q4, 0, none⟩) (.inl rfl) vo'
  have no : ∀ b, b < c.B → vo.ownBlock ≠ some b := fun b hb e => by have := (lo b e).1; omega
  have h4 := k.obj (no _ l.2.2.1) h.h4
  have nq : ∀ b, b < c.B → b ≠ c.q4 → ¬ (b = c.q4 ∨ vo.ownBlock = some b) := fun b hb hn e => e.elim hn (no b hb)
  have nR : ∀ b, R b → ¬ (b = c.q4 ∨ vo.ownBlock = some b) := fun b hb e => by have := h.hR b hb; exact e.elim this.2.1.1 this.2.2.1
  have kz := k2.size
  have fresh : ∀ b, vo'.ownBlock = some b → vg.ownBlock ≠ some b ∧ vc.ownBlock ≠ some b := fun b e => by
    rcases hb b e with e | e
    · exact (h.dis b).1 e
    · exact ⟨fun f => by have := (lg b f).2; omega, fun f => by have := (lc b f).2; omega⟩
  refine ⟨k2.obj (nq _ l.1 (fun e => n.1 e.symm)) h.h2, k2.obj (nq _ l.2.1 (fun e => n.2.1 e.symm)) h.h3, setCell_obj h4 _, k2.obj (nq _ l.2.2.2.1 (fun e => n.2.2.1 e.symm)) h.h5, k2.obj (nq _ l.2.2.2.2.1 (fun e => n.2.2.2.1 e.symm)) h.h6, k2.obj (nq _ l.2.2.2.2.2 (fun e => n.2.2.2.2.1 e.symm)) h.h7,
    h.hn.kept nodeEl_k k2 fun b hb _ => nR b (h.hD b hb).1, h.hm.kept k2 fun b hb => nq b (h.hF b hb).1 (h.hF b hb).2.1, ho.kept k3 fun b hb _ => ⟨fun e => (h.hR b e).2.1.1 hb, fun e => by have := (ho.lt b e).1; have : b = c.q4 := hb; omega⟩,
    h.hg.kept k2 fun b hb _ => ⟨fun e => nR b e hb, fun e => ?_⟩, h.hc.kept k2 fun b hb _ => ⟨fun e => nR b e hb, fun e => ?_⟩, h.lt, h.ne, h.hD, h.hF, fun b hb' => ?_, fun b => ⟨fresh b, (h.dis b).2⟩, by have := h.hB; omega, h.hRF⟩
  · rcases hb with rfl | e'
    · have := (lg _ e).1; omega
    · exact ((h.dis b).1 e').1 e
  · rcases hb with rfl | e'
    · have := (lc _ e).1; omega
    · exact ((h.dis b).1 e').2 e
  · have := h.hR b hb'
    refine ⟨by omega, this.2.1, fun e => ?_, this.2.2.2⟩
    rcases hb b e with e | e
    · exact this.2.2.1 e
    · omega
/-- Keys that go. -/
theorem TalkIn.go {vg' : Value} {gl' : List Bts} (h : TalkIn seed u c R vo vg vc w ol gl cl) (k : Kept (fun b => vg.ownBlock = some b) w w') (hg : Own 31 bytesEl R c.B w' vg' gl') (hb : ∀ b, vg'.ownBlock = some b → vg.ownBlock = some b ∨ w.heap.size ≤ b) :
    TalkIn seed u c R vo vg' vc (w'.setCell ⟨c.q5, 0, none⟩ vg') ol gl' cl := by
  have l := h.lt
  have n := h.ne
  have lo := h.ho.lt
  have lg := h.hg.lt
  have lc := h.hc.lt
  have k2 := (k.mono (T := fun b => b = c.q5 ∨ vg.ownBlock = some b) fun b h => .inr h).setCell (p := ⟨c.q5, 0, none⟩) (.inl (.inl rfl)) vg'
  have k3 := (Kept.refl (fun b => b = c.q5) w').setCell (p := ⟨c.q5, 0, none⟩) (.inl rfl) vg'
  have no : ∀ b, b < c.B → vg.ownBlock ≠ some b := fun b hb e => by have := (lg b e).1; omega
  have h5 := k.obj (no _ l.2.2.2.1) h.h5
  have nq : ∀ b, b < c.B → b ≠ c.q5 → ¬ (b = c.q5 ∨ vg.ownBlock = some b) := fun b hb hn e => e.elim hn (no b hb)
  have nR : ∀ b, R b → ¬ (b = c.q5 ∨ vg.ownBlock = some b) := fun b hb e => by have := h.hR b hb; exact e.elim this.2.1.2.1 this.2.2.2.1
  have kz := k2.size
  have fresh : ∀ b, vg'.ownBlock = some b → vo.ownBlock ≠ some b ∧ vc.ownBlock ≠ some b := fun b e => by
    rcases hb b e with e | e
    · exact ⟨fun f => ((h.dis b).1 f).1 e, (h.dis b).2 e⟩
    · exact ⟨fun f => by have := (lo b f).2; omega, fun f => by have := (lc b f).2; omega⟩
  refine ⟨k2.obj (nq _ l.1 (fun e => n.2.2.2.2.2.1 e.symm)) h.h2, k2.obj (nq _ l.2.1 (fun e => n.2.2.2.2.2.2.1 e.symm)) h.h3, k2.obj (nq _ l.2.2.1 n.2.2.1) h.h4, setCell_obj h5 _, k2.obj (nq _ l.2.2.2.2.1 (fun e => n.2.2.2.2.2.2.2.1 e.symm)) h.h6, k2.obj (nq _ l.2.2.2.2.2 (fun e => n.2.2.2.2.2.2.2.2.1 e.symm)) h.h7,
    h.hn.kept nodeEl_k k2 fun b hb _ => nR b (h.hD b hb).1, h.hm.kept k2 fun b hb => nq b (h.hF b hb).1 (h.hF b hb).2.2.1,
    h.ho.kept k2 fun b hb _ => ⟨fun e => nR b e hb, fun e => ?_⟩, hg.kept k3 fun b hb _ => ⟨fun e => (h.hR b e).2.1.2.1 hb, fun e => by have := (hg.lt b e).1; have : b = c.q5 := hb; omega⟩, h.hc.kept k2 fun b hb _ => ⟨fun e => nR b e hb, fun e => ?_⟩, h.lt, h.ne, h.hD, h.hF, fun b hb' => ?_, fun b => ⟨fun e => ⟨fun f => (fresh b f).1 e, ((h.dis b).1 e).2⟩, fun e => (fresh b e).2⟩, by have := h.hB; omega, h.hRF⟩
  · rcases hb with rfl | e'
    · have := (lo _ e).1; omega
    · exact ((h.dis b).1 e).1 e'
  · rcases hb with rfl | e'
    · have := (lc _ e).1; omega
    · exact (h.dis b).2 e' e
  · have := h.hR b hb'
    refine ⟨by omega, this.2.1, this.2.2.1, fun e => ?_, this.2.2.2.2⟩
    rcases hb b e with e | e
    · exact this.2.2.2.1 e
    · omega
/-- Pairs that come. -/
theorem TalkIn.come {vc' : Value} {cl' : List (Bts × Bts)} (h : TalkIn seed u c R vo vg vc w ol gl cl) (k : Kept (fun b => vc.ownBlock = some b) w w') (hc : Own 70 pairEl R c.B w' vc' cl') (hb : ∀ b, vc'.ownBlock = some b → vc.ownBlock = some b ∨ w.heap.size ≤ b) :
    TalkIn seed u c R vo vg vc' (w'.setCell ⟨c.q6, 0, none⟩ vc') ol gl cl' := by
  have l := h.lt
  have n := h.ne
  have lo := h.ho.lt
  have lg := h.hg.lt
  have lc := h.hc.lt
  have k2 := (k.mono (T := fun b => b = c.q6 ∨ vc.ownBlock = some b) fun b h => .inr h).setCell (p := ⟨c.q6, 0, none⟩) (.inl (.inl rfl)) vc'
  have k3 := (Kept.refl (fun b => b = c.q6) w').setCell (p := ⟨c.q6, 0, none⟩) (.inl rfl) vc'
  have no : ∀ b, b < c.B → vc.ownBlock ≠ some b := fun b hb e => by have := (lc b e).1; omega
  have h6 := k.obj (no _ l.2.2.2.2.1) h.h6
  have nq : ∀ b, b < c.B → b ≠ c.q6 → ¬ (b = c.q6 ∨ vc.ownBlock = some b) := fun b hb hn e => e.elim hn (no b hb)
  have nR : ∀ b, R b → ¬ (b = c.q6 ∨ vc.ownBlock = some b) := fun b hb e => by have := h.hR b hb; exact e.elim this.2.1.2.2 this.2.2.2.2
  have kz := k2.size
  have fresh : ∀ b, vc'.ownBlock = some b → vo.ownBlock ≠ some b ∧ vg.ownBlock ≠ some b := fun b e => by
    rcases hb b e with e | e
    · exact ⟨fun f => ((h.dis b).1 f).2 e, fun f => (h.dis b).2 f e⟩
    · exact ⟨fun f => by have := (lo b f).2; omega, fun f => by have := (lg b f).2; omega⟩
  refine ⟨k2.obj (nq _ l.1 (fun e => n.2.2.2.2.2.2.2.2.2.1 e.symm)) h.h2, k2.obj (nq _ l.2.1 (fun e => n.2.2.2.2.2.2.2.2.2.2.1 e.symm)) h.h3, k2.obj (nq _ l.2.2.1 n.2.2.2.1) h.h4, k2.obj (nq _ l.2.2.2.1 n.2.2.2.2.2.2.2.1) h.h5, setCell_obj h6 _, k2.obj (nq _ l.2.2.2.2.2 (fun e => n.2.2.2.2.2.2.2.2.2.2.2 e.symm)) h.h7,
    h.hn.kept nodeEl_k k2 fun b hb _ => nR b (h.hD b hb).1, h.hm.kept k2 fun b hb => nq b (h.hF b hb).1 (h.hF b hb).2.2.2,
    h.ho.kept k2 fun b hb _ => ⟨fun e => nR b e hb, fun e => ?_⟩, h.hg.kept k2 fun b hb _ => ⟨fun e => nR b e hb, fun e => ?_⟩, hc.kept k3 fun b hb _ => ⟨fun e => (h.hR b e).2.1.2.2 hb, fun e => by have := (hc.lt b e).1; have : b = c.q6 := hb; omega⟩, h.lt, h.ne, h.hD, h.hF, fun b hb' => ?_, fun b => ⟨fun e => ⟨((h.dis b).1 e).1, fun f => (fresh b f).1 e⟩, fun e f => (fresh b f).2 e⟩, by have := h.hB; omega, h.hRF⟩
  · rcases hb with rfl | e'
    · have := (lo _ e).1; omega
    · exact ((h.dis b).1 e).2 e'
  · rcases hb with rfl | e'
    · have := (lg _ e).1; omega
    · exact (h.dis b).2 e e'
  · have := h.hR b hb'
    refine ⟨by omega, this.2.1, this.2.2.1, this.2.2.2.1, fun e => ?_⟩
    rcases hb b e with e | e
    · exact this.2.2.2.2 e
    · omega
end
end Go.Proofs.Ytaopjdjbpamhhaa
