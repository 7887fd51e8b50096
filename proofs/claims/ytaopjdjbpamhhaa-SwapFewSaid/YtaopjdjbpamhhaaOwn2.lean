/- Proved: append to a row of the call's own that is full: nothing that was there changes. No program is named. No condition. -/
import Derived.Test.YtaopjdjbpamhhaaOwn
import Derived.Test.YtaopjdjbpamhhaaGrow
import Derived.Deep.Upon
namespace Go.Proofs.Ytaopjdjbpamhhaa
open Go Go.RowKit
set_option linter.unusedVariables false
set_option linter.unusedSimpArgs false
section
variable {α : Type} {E : El α} {P : Program} {w : World} {ops : Array Oper} {o : Oper} {a : Act} {Q : Exit → Act → World → Prop}
theorem wp_app_fullc {K : Act → World → Prop} (s x : Operand) (t : TypeId) (ho : o.op = .call { callee := .builtin .append, args := #[s, x], argTypes := #[t, t] })
    {e : TypeId} {bytes : Nat} {z : Value} (T : SlT P t e E.k bytes z) {D D' : Nat → Prop} {B : Nat} (v : Value) (l : List α) (hs : a.eval s = v) (hown : Own e E D B w v l) (hfull : ∀ p n c, v = .slice (some p) n c → c = n)
    (ao : Option Addr) (c : Nat) (m : List α) (hx : a.eval x = .slice ao m.length c) (hc : m.length ≤ c) (hn : ao = none → c = 0) (news : List Value) (h1 : Cells E D' w news m) (h2 : ∀ j u, news[j]? = some u → ∃ p, ao = some p ∧ w.cell? (p.add j) = some u)
    (hD : ∀ b, D' b → b < w.heap.size → D b ∧ v.ownBlock ≠ some b) (hbytes : (l.length + m.length) * bytes ≤ 140737488355328) (hb1 : 0 < bytes) (hbase : B ≤ w.heap.size)
    (h : ∀ v' w', Own e E D B w' v' (l ++ m) → Kept Noneof w w' → (∀ b, v'.ownBlock = some b → v.ownBlock = some b ∨ w.heap.size ≤ b) → K (a.put o.dst v') w') : o.wp P a w K Q := by
  by_cases hm0 : m = []
  · subst hm0
    obtain ⟨hl, D0, h0, xs, ⟨k1, k2⟩, k3⟩ := hown
    obtain ⟨i, hi, hz, hsize, hby, hzs⟩ := T.hi
    have hsrc : Src P i.size t (.slice ao 0 c) 0 [] w := by
      cases ao with
      | none => exact Src.ofNil w T.ht c
      | some ad => exact Src.ofSlice w T.ht ad 0 c [] (by simp) (fun j u hu => by simp at hu) (by simp)
    have hrun : (Builtin.append_ #[t, t] o.type #[v, .slice ao 0 c]).run P w = .ok v w := by
      rcases k2 with ⟨rfl, _⟩ | ⟨g, cap, cur, rfl, _, _, hle, _⟩
      · exact run_append_nothing w t t o.type e i T.ht hi none 0 0 (Nat.le_refl _) _ hsrc
      · exact run_append_nothing w t t o.type e i T.ht hi (some ⟨g, 0, none⟩) l.length cap hle _ hsrc
    unfold Oper.wp
    simp only [execOp, ho, resolve, invoke, builtin, Sem.run_bind, Sem.run_pure, Result.andThen_ok, List.map_toArray, List.map_cons, List.map_nil, hs, hx, List.length_nil, hrun]
    refine h v w ?_ (Kept.refl _ _) (fun b hb => .inl hb)
    rw [List.append_nil]
    exact ⟨hl, D0, h0, xs, ⟨k1, k2⟩, k3⟩
  · have hpos : 0 < m.length := List.length_pos_iff.2 hm0
    obtain ⟨hl, D0, h0, xs, hrow, k3⟩ := hown
    rcases hrow.2 with ⟨rfl, hn0⟩ | ⟨g, cap, cur, rfl, hg, hh, hle, hcm, hcs, ht⟩
    · exact wp_app s x t ho T _ l hs ⟨hl, D0, h0, xs, hrow, k3⟩ ao c m hx hc hn news h1 h2 hD hbytes hb1 hbase fun v' w' q1 q2 q3 _ => h v' w' q1 (q2.mono fun k hk => by cases hk) q3
    · obtain rfl := hfull _ _ _ rfl
      obtain ⟨i, hi, hz, hsize, hby, hzs⟩ := T.hi
      have hlen : l.length + m.length ≤ 140737488355328 := Nat.le_trans (Nat.le_mul_of_pos_right _ hb1) hbytes
      obtain ⟨ad, rfl⟩ : ∃ ad, ao = some ad := by
        cases ao with
        | none => have := hn rfl; omega
        | some ad => exact ⟨ad, rfl⟩
      have hcl := h1.length
      have hxl := hrow.1
      have hr := run_append_grow (P := P) w t o.type e i z T.ht hi hz ⟨g, 0, none⟩ l.length l.length xs (by rw [hsize]; exact hxl) (hrow.cells (g := g) rfl) ad m.length c news (by rw [hsize]; exact hcl) (fun j u hu => by
        obtain ⟨p, hp, hc'⟩ := h2 j u hu
        obtain rfl := Option.some.inj hp
        exact hc') (by omega) (by omega) (growslice_fits (by omega) (by rw [hby]; exact hbytes))
      have hge := grownCap_ge w (l.length + m.length) l.length e
      have hcm' : grownCap w (l.length + m.length) l.length e ≤ maxLen := grownCap_le_maxLen w (l.length + m.length) l.length e (by unfold maxLen; omega)
      unfold Oper.wp
      simp only [execOp, ho, resolve, invoke, builtin, Sem.run_bind, Sem.run_pure, Result.andThen_ok, List.map_toArray, List.map_cons, List.map_nil, hs, hx, hr]
      have kk : Kept Noneof w (w.drew.alloc (.cells (xs.toArray ++ news.toArray ++ Builtin.zeroCells z.cells (grownCap w (l.length + m.length) l.length e - (l.length + m.length))) e)) := ((Kept.refl _ w).drew).alloc _
      refine h _ _ ⟨by simpa using hlen, fun b => D b ∧ b < w.heap.size, ?_, xs ++ news, ⟨by simp [hxl, hcl, Nat.add_mul], .inr ⟨w.heap.size, _, _, by rw [List.length_append], hbase, heap_alloc_new w.drew _, by rw [List.length_append]; exact hge, hcm', ?_, ?_⟩⟩, ?_⟩ kk ?_
      · intro b hb
        refine ⟨hb.1, by have := kk.size; omega, ?_⟩
        simp only [Value.ownBlock, ne_eq, Option.some.injEq]
        have : w.drew.heap.size = w.heap.size := rfl
        omega
      · simp only [Array.size_append, List.size_toArray, size_zeroCells, hzs, hxl, hcl, ← Nat.add_mul]
        congr 1
        omega
      · simp only [Array.toList_append, List.append_assoc, List.length_append]
        rw [← List.append_assoc, show (l.length + m.length) * E.k = (xs ++ news).length by rw [List.length_append, hxl, hcl, Nat.add_mul]]
        exact List.take_left
      · refine Cells.append (k3.mono fun b hb hlt => ⟨⟨(h0 b hb).1, hlt⟩, kk.block b hlt fun h => h⟩) (h1.mono fun b hb hlt => ⟨⟨(hD b hb hlt).1, hlt⟩, kk.block b hlt fun h => h⟩)
      · intro b hb
        simp only [Value.ownBlock, Option.some.injEq] at hb
        exact .inr (by rw [← hb]; exact Nat.le_refl _)
theorem wp_app_full {K : Act → World → Prop} (s x : Operand) (t : TypeId) (ho : o.op = .call { callee := .builtin .append, args := #[s, x], argTypes := #[t, t] })
    {e : TypeId} {bytes : Nat} {z : Value} (T : SlT P t e E.k bytes z) {D D' : Nat → Prop} {B : Nat} (v : Value) (l : List α) (hs : a.eval s = v) (hown : Own e E D B w v l) (hfull : ∀ p n c, v = .slice (some p) n c → c = n)
    (vx : Value) (m : List α) (hx : a.eval x = vx) (hm : SV E D' w vx m)
    (hD : ∀ b, D' b → b < w.heap.size → D b ∧ v.ownBlock ≠ some b) (hbytes : (l.length + m.length) * bytes ≤ 140737488355328) (hb1 : 0 < bytes) (hbase : B ≤ w.heap.size)
    (h : ∀ v' w', Own e E D B w' v' (l ++ m) → Kept Noneof w w' → (∀ b, v'.ownBlock = some b → v.ownBlock = some b ∨ w.heap.size ≤ b) → K (a.put o.dst v') w') : o.wp P a w K Q := by
  obtain ⟨ao, c, rfl, ⟨hc, hn⟩, _, hr⟩ := hm
  obtain ⟨news, h1, h2⟩ := hr.cells
  exact wp_app_fullc s x t ho T v l hs hown hfull ao c m hx hc hn news h1 h2 hD hbytes hb1 hbase h
theorem wp_app_full_bytes {K : Act → World → Prop} (s x : Operand) (t : TypeId) (ho : o.op = .call { callee := .builtin .append, args := #[s, x], argTypes := #[t, t] })
    {e : TypeId} {z : Value} (T : SlT P t e 1 1 z) {D' : Nat → Prop} {B : Nat} (v : Value) (l : Bts) (hs : a.eval s = v) (hown : Own e byteEl Noneof B w v l) (hfull : ∀ p n c, v = .slice (some p) n c → c = n)
    (vx : Value) (m : Bts) (hx : a.eval x = vx) (hm : SV byteEl D' w vx m)
    (hbytes : l.length + m.length ≤ 140737488355328) (hbase : B ≤ w.heap.size)
    (h : ∀ v' w', Own e byteEl Noneof B w' v' (l ++ m) → Kept Noneof w w' → (∀ b, v'.ownBlock = some b → v.ownBlock = some b ∨ w.heap.size ≤ b) → K (a.put o.dst v') w') : o.wp P a w K Q := by
  obtain ⟨ao, c, rfl, ⟨hc, hn⟩, _, hr⟩ := hm
  obtain ⟨news, h1, h2⟩ := hr.cells
  exact wp_app_fullc (E := byteEl) s x t ho T v l hs hown hfull ao c m hx hc hn news (h1.bytes (D' := Noneof)) h2 (fun _ h => h.elim) (by omega) (by decide) hbase h
/-- append of one element, whose cells lie in a block of their own. -/
theorem wp_app_one {K : Act → World → Prop} (s x : Operand) (t : TypeId) (ho : o.op = .call { callee := .builtin .append, args := #[s, x], argTypes := #[t, t] })
    {e : TypeId} {bytes : Nat} {z : Value} (T : SlT P t e E.k bytes z) {D D' : Nat → Prop} {B : Nat} (v : Value) (l : List α) (hs : a.eval s = v) (hown : Own e E D B w v l)
    (g : Nat) (cs : List Value) (y : α) (hx : a.eval x = .slice (some ⟨g, 0, none⟩) 1 1) (hg : ∃ e' f, w.heap[g]? = some (.cells cs.toArray e' f)) (hm : E.R D' w cs y) (hD : ∀ b, D' b → b < w.heap.size → D b ∧ v.ownBlock ≠ some b) (hbytes : (l.length + 1) * bytes ≤ 140737488355328) (hb1 : 0 < bytes) (hbase : B ≤ w.heap.size)
    (h : ∀ v' w', Own e E D B w' v' (l ++ [y]) → Kept (fun k => v.ownBlock = some k) w w' → (∀ b, v'.ownBlock = some b → v.ownBlock = some b ∨ w.heap.size ≤ b) → K (a.put o.dst v') w') : o.wp P a w K Q := by
  obtain ⟨e', f, hg⟩ := hg
  refine wp_app s x t ho T v l hs hown _ 1 [y] hx (by simp) (fun h => by cases h) cs (Cells.single hm) (fun j u hu => ⟨_, rfl, ?_⟩) hD hbytes hb1 hbase fun v' w' k1 k2 k3 _ => h v' w' k1 k2 k3
  rw [Addr.add_lit, Nat.zero_add]
  simp [World.cell?, hg, hu]
end
end Go.Proofs.Ytaopjdjbpamhhaa
