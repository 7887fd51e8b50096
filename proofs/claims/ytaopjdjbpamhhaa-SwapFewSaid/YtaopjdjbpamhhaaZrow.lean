/- Proved: rows of bytes whose room holds zeros: bytes.Clone makes one, and a zero that is appended to one changes nothing old. Conditions: bytes in memory. -/
import Derived.Test.YtaopjdjbpamhhaaMap2
namespace Go.Proofs.Ytaopjdjbpamhhaa
open Go Go.RowKit
set_option linter.unusedVariables false
set_option linter.unusedSimpArgs false

def u8v (x : UInt8) : Value := .int .u8 ((x.toNat : Nat) : Int)
/-- A row of bytes whose room holds zeros. -/
def RowZ (B : Nat) (w : World) (v : Value) (l : Bts) : Prop :=
  l.length ≤ 140737488355328 ∧ ∃ b c cur, v = .slice (some ⟨b, 0, none⟩) l.length c ∧ B ≤ b ∧ l.length ≤ c ∧ w.heap[b]? = some (.cells cur 5) ∧ cur.toList = l.map u8v ++ List.replicate (c - l.length) (.int .u8 0)
theorem cells_u8 {D : Nat → Prop} {w : World} : ∀ {m : Bts} {xs : List Value}, Cells byteEl D w xs m → xs = m.map u8v
  | [], _, h => h
  | x :: l, _, ⟨cs, ys, h1, h2, h3⟩ => by
    have h2 : cs = [u8v x] := h2
    rw [h1, h2, cells_u8 h3]; rfl
theorem zeroCells_u8 (n : Nat) : (Builtin.zeroCells (Value.int .u8 0).cells n).toList = List.replicate n (.int .u8 0) := by
  refine List.ext_getElem (by simp [Builtin.zeroCells, Value.cells]) fun i h1 h2 => ?_
  simp [Builtin.zeroCells, Value.cells, Nat.mod_one]
section
variable {B : Nat} {w w' : World} {v : Value} {l : Bts}
theorem RowZ.bv (h : RowZ B w v l) : BV (fun b => B ≤ b ∧ b < w.heap.size) w v l := by
  obtain ⟨hl, b, c, cur, rfl, hB, hc, hg, hcur⟩ := h
  refine ⟨_, _, rfl, ⟨hc, fun h => by cases h⟩, hl, fun i hi => ⟨b, 0, [u8v l[i]], rfl, ⟨hB, block_lt hg⟩, fun j hj => ?_, rfl⟩⟩
  obtain rfl : j = 0 := by simpa using hj
  rw [cell_of_row w b _ cur _ (0, 0) hg, ← Array.getElem?_toList, hcur]
  simp [byteEl, hi, List.getElem?_append_left]
theorem RowZ.kept {S : Nat → Prop} (h : RowZ B w v l) (k : Kept S w w') (hS : ∀ b, B ≤ b → b < w.heap.size → ¬ S b) : RowZ B w' v l := by
  obtain ⟨hl, b, c, cur, rfl, hB, hc, hg, hcur⟩ := h
  exact ⟨hl, b, c, cur, rfl, hB, hc, k.obj (hS b hB (block_lt hg)) hg, hcur⟩
theorem RowZ.slice' (h : RowZ B w v l) : ∃ a n c, v = .slice a n c := by
  obtain ⟨_, b, c, cur, rfl, _⟩ := h
  exact ⟨_, _, _, rfl⟩
theorem RowZ.base {B' : Nat} (h : RowZ B w v l) (hB : B' ≤ B) : RowZ B' w v l := by
  obtain ⟨hl, b, c, cur, rfl, hb, hc, hg, hcur⟩ := h
  exact ⟨hl, b, c, cur, rfl, Nat.le_trans hB hb, hc, hg, hcur⟩
theorem RowZ.lit (w : World) : RowZ w.heap.size (w.alloc (.cells #[] 5)) (.slice (some ⟨w.heap.size, 0, none⟩) 0 0) [] :=
  ⟨by simp, w.heap.size, 0, #[], rfl, Nat.le_refl _, Nat.le_refl _, heap_alloc_new w _, rfl⟩
end
section
variable {P : Program} {w : World} {ops : Array Oper} {rest : List Oper} {o : Oper} {a : Act} {Q : Exit → Act → World → Prop}
theorem wp_app_z {K : Act → World → Prop} (s x : Operand) (t : TypeId) (ho : o.op = .call { callee := .builtin .append, args := #[s, x], argTypes := #[t, t] })
    (T : SlT P t 5 1 1 (.int .u8 0)) {D' : Nat → Prop} {B : Nat} (v : Value) (l : Bts) (hs : a.eval s = v) (hown : RowZ B w v l)
    (vx : Value) (m : Bts) (hx : a.eval x = vx) (hm : SV byteEl D' w vx m) (hm1 : m ≠ []) (hroom : ∀ p c, v = .slice p l.length c → l.length + m.length ≤ c → m = [0]) (hbytes : l.length + m.length ≤ 140737488355328) (hbase : B ≤ w.heap.size)
    (h : ∀ v' w', RowZ B w' v' (l ++ m) → Kept Noneof w w' → K (a.put o.dst v') w') : o.wp P a w K Q := by
  obtain ⟨hl, b, c, cur, rfl, hB, hc, hg, hcur⟩ := hown
  obtain ⟨ao, cx, rfl, ⟨hcx, hn⟩, hml, hr⟩ := hm
  obtain ⟨news, h1, h2⟩ := hr.cells
  have hnews := cells_u8 h1
  subst hnews
  obtain ⟨i, hi, hz, hsize, hby, hzs⟩ := T.hi
  have hpos : 0 < m.length := List.length_pos_iff.2 hm1
  obtain ⟨ad, rfl⟩ : ∃ ad, ao = some ad := by
    cases ao with
    | none => have := hn rfl; omega
    | some ad => exact ⟨ad, rfl⟩
  have hcells : ∀ j u, (m.map u8v)[j]? = some u → w.cell? (ad.add j) = some u := fun j u hu => by
    obtain ⟨p, hp, hc'⟩ := h2 j u hu
    obtain rfl := Option.some.inj hp
    exact hc'
  have hcs : cur.size = c := by
    have := congrArg List.length hcur
    simp at this
    omega
  by_cases hr0 : l.length + m.length ≤ c
  · have hm0 := hroom _ _ rfl hr0
    subst hm0
    have hr := run_append_room (P := P) w t o.type 5 i T.ht hi b l.length c cur hg ad 1 cx ([0].map u8v) (by simp [hsize]) hcells h1.one (by simpa using hr0) (by simp at hr0 ⊢; rw [hsize]; omega)
    have hsame : (cur.toList.take (l.length * i.size) ++ [0].map u8v ++ cur.toList.drop (l.length * i.size + ([0].map u8v).length)) = cur.toList := by
      rw [hsize, Nat.mul_one, hcur]
      obtain ⟨n, hn⟩ : ∃ n, c - l.length = n + 1 := ⟨c - l.length - 1, by simp at hr0; omega⟩
      rw [hn, List.replicate_succ, List.take_left' (by simp), List.drop_append]
      simp [u8v]
    rw [hsame] at hr
    have hk : Kept Noneof w (w.setRow b cur.toList.toArray) := ⟨rfl, rfl, rfl, by simp [World.setRow], fun k hk _ => by
      by_cases e : k = b
      · subst e
        rw [setRow_heap w k cur cur.toList.toArray _ _ hg, hg]
      · exact setRow_other w b k _ e⟩
    unfold Oper.wp
    simp only [execOp, ho, resolve, invoke, builtin, Sem.run_bind, Sem.run_pure, Result.andThen_ok, List.map_toArray, List.map_cons, List.map_nil, hs, hx, List.length_cons, List.length_nil, Nat.zero_add, hr]
    refine h _ _ ⟨by simpa using hbytes, b, c, cur, by simp, hB, by simpa using hr0, hk.obj (fun h => h) hg, ?_⟩ hk
    rw [hcur]
    obtain ⟨n, hn⟩ : ∃ n, c - l.length = n + 1 := ⟨c - l.length - 1, by simp at hr0; omega⟩
    have : c - (l ++ [0]).length = n := by simp; omega
    rw [hn, this, List.replicate_succ]
    simp [u8v]
  · have hr := run_append_grow (P := P) w t o.type 5 i (.int .u8 0) T.ht hi hz ⟨b, 0, none⟩ l.length c (l.map u8v) (by simp [hsize]) (fun j u hu => by
      rw [Addr.add_lit, Nat.zero_add, cell_of_row w b _ cur _ (0, 0) hg, ← Array.getElem?_toList, hcur, List.getElem?_append_left (by have := (List.getElem?_eq_some_iff.1 hu).1; exact this)]
      exact hu) ad m.length cx (m.map u8v) (by simp [hsize]) hcells (by omega) (by omega) (growslice_fits (by omega) (by rw [hby]; omega))
    have hge := grownCap_ge w (l.length + m.length) c 5
    unfold Oper.wp
    simp only [execOp, ho, resolve, invoke, builtin, Sem.run_bind, Sem.run_pure, Result.andThen_ok, List.map_toArray, List.map_cons, List.map_nil, hs, hx, hr]
    refine h _ _ ⟨by simpa using hbytes, w.heap.size, _, _, by rw [List.length_append], hbase, by rw [List.length_append]; exact hge, heap_alloc_new w.drew _, ?_⟩ (((Kept.refl _ w).drew).alloc _)
    rw [Array.toList_append, zeroCells_u8]
    simp
theorem wl_app_z (hgd : o.guard = none) (s x : Operand) (t : TypeId) (ho : o.op = .call { callee := .builtin .append, args := #[s, x], argTypes := #[t, t] })
    (T : SlT P t 5 1 1 (.int .u8 0)) {D' : Nat → Prop} {B : Nat} (v : Value) (l : Bts) (hs : a.eval s = v) (hown : RowZ B w v l)
    (vx : Value) (m : Bts) (hx : a.eval x = vx) (hm : SV byteEl D' w vx m) (hm1 : m ≠ []) (hroom : ∀ p c, v = .slice p l.length c → l.length + m.length ≤ c → m = [0]) (hbytes : l.length + m.length ≤ 140737488355328) (hbase : B ≤ w.heap.size)
    (h : ∀ v' w', RowZ B w' v' (l ++ m) → Kept Noneof w w' → wpList P ops Q rest (a.put o.dst v') w') : wpList P ops Q (o :: rest) a w :=
  wpList_plain hgd fun _ hK => wp_app_z s x t ho T v l hs hown vx m hx hm hm1 hroom hbytes hbase fun v' w' k1 k2 => hK _ _ (h v' w' k1 k2)
end
set_option maxHeartbeats 400000 in
theorem byClone_zero {D : Nat → Prop} {v : Value} {l : Bts} {w : World} (h : BV D w v l) (hl : l ≠ []) :
    Calls Try.prog 95 #[v] w fun e w' => ∃ v', e = .returned v' ∧ RowZ w.heap.size w' v' l ∧ Kept Noneof w w' := by
  have HS := Lib.hid h
  have HL := Lib.hid hl
  obtain ⟨a, c, rfl, ⟨hc, hn⟩, m, hr⟩ := h
  have heq := fun (wx : World) => Lib.run_eql_slice_nil (P := Try.prog) wx 31 5 a l.length c 0 0 tBytes.ht
  cases a with
  | none =>
    refine absurd ?_ hl
    cases l with
    | nil => rfl
    | cons x t => obtain ⟨b, o, cs, h1, _⟩ := hr 0 (by simp); cases h1
  | some p =>
    clear hr hn hl
    go_enter Try.func95, Try.ntmps95
    have HR := Lib.hid (show ∀ q d, (.slice (some ⟨w.heap.size, 0, none⟩) 0 0 : Value) = .slice q ([] : Bts).length d → ([] : Bts).length + l.length ≤ d → l = [0] from fun q d h1 h2 => by
      simp only [Value.slice.injEq] at h1
      obtain ⟨_, _, rfl⟩ := h1
      have := List.length_pos_iff.2 HL.out
      simp only [List.length_nil] at h2
      omega)
    have hm : ([] : Bts).length + l.length ≤ 140737488355328 := by simpa using m
    go_wp2_with (at_builtin; refine wl_app_z rfl (.tmp 5) (.tmp 6) _ rfl tBytes _ [] rfl (RowZ.lit w) _ l rfl (HS.out.kept byteEl_k ((Kept.refl Noneof w).alloc _) fun _ _ _ h => h) HL.out HR.out hm (by simp) ?_)
    intro x3 w3 o3 e3
    go_wp2
    obtain ⟨a3, n3, c3, rfl⟩ := o3.slice'
    go_ret
    exact ⟨_, rfl, by simpa using o3, ((Kept.refl Noneof w).alloc _).trans e3 fun b hb => hb.elim⟩
end Go.Proofs.Ytaopjdjbpamhhaa
