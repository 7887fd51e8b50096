/- Proved: texts of the families over slots, order and swap, joined: laws of memory and regions, contracts of functions, plain facts. Conditions: as each theorem says. -/
import Derived.Test.YtaopjdjbpamhhaaPkC
/- Proved: rows of bytes whose room holds zeros: bytes.Clone makes one, and a zero that is appended to one changes nothing old. Conditions: bytes in memory. -/
namespace Go.Proofs.Ytaopjdjbpamhhaa
open Go Go.RowKit
set_option linter.unusedVariables false
set_option linter.unusedSimpArgs false

def u8v (x : UInt8) : Value := .int .u8 ((x.toNat : Nat) : Int)
/-- A row of bytes whose room holds zeros. -/
def RowZ (B : Nat) (w : World) (v : Value) (l : Bts) : Prop :=
  l.length ≤ 140737488355328 ∧ ∃ b c cur, v = .slice (some ⟨b, 0, none⟩) l.length c ∧ B ≤ b ∧ l.length ≤ c ∧ w.heap[b]? = some (.cells cur 5) ∧ cur.toList = l.map u8v ++ List.replicate (c - l.length) (.int .u8 0)
theorem cells_u8 {D : Nat → Prop} {w : World} : ∀ {m : Bts} {xs : List Value}, Cells byteEl D w xs m → xs = m.map u8v
  | [], _, h => h
  | x :: l, _, ⟨cs, ys, h1, h2, h3⟩ => by
    have h2 : cs = [u8v x] := h2
    rw [h1, h2, cells_u8 h3]; rfl
theorem zeroCells_u8 (n : Nat) : (Builtin.zeroCells (Value.int .u8 0).cells n).toList = List.replicate n (.int .u8 0) := by
  refine List.ext_getElem (by simp [Builtin.zeroCells, Value.cells]) fun i h1 h2 => ?_
  simp [Builtin.zeroCells, Value.cells, Nat.mod_one]
section
variable {B : Nat} {w w' : World} {v : Value} {l : Bts}
theorem RowZ.bv (h : RowZ B w v l) : BV (fun b => B ≤ b ∧ b < w.heap.size) w v l := by
  obtain ⟨hl, b, c, cur, rfl, hB, hc, hg, hcur⟩ := h
  refine ⟨_, _, rfl, ⟨hc, fun h => by cases h⟩, hl, fun i hi => ⟨b, 0, [u8v l[i]], rfl, ⟨hB, block_lt hg⟩, fun j hj => ?_, rfl⟩⟩
  obtain rfl : j = 0 := by simpa using hj
  rw [cell_of_row w b _ cur _ (0, 0) hg, ← Array.getElem?_toList, hcur]
  simp [byteEl, hi, List.getElem?_append_left]
theorem RowZ.kept {S : Nat → Prop} (h : RowZ B w v l) (k : Kept S w w') (hS : ∀ b, B ≤ b → b < w.heap.size → ¬ S b) : RowZ B w' v l := by
  obtain ⟨hl, b, c, cur, rfl, hB, hc, hg, hcur⟩ := h
  exact ⟨hl, b, c, cur, rfl, hB, hc, k.obj (hS b hB (block_lt hg)) hg, hcur⟩
theorem RowZ.slice' (h : RowZ B w v l) : ∃ a n c, v = .slice a n c := by
  obtain ⟨_, b, c, cur, rfl, _⟩ := h
  exact ⟨_, _, _, rfl⟩
theorem RowZ.base {B' : Nat} (h : RowZ B w v l) (hB : B' ≤ B) : RowZ B' w v l := by
  obtain ⟨hl, b, c, cur, rfl, hb, hc, hg, hcur⟩ := h
  exact ⟨hl, b, c, cur, rfl, Nat.le_trans hB hb, hc, hg, hcur⟩
theorem RowZ.lit (w : World) : RowZ w.heap.size (w.alloc (.cells #[] 5)) (.slice (some ⟨w.heap.size, 0, none⟩) 0 0) [] :=
  ⟨by simp, w.heap.size, 0, #[], rfl, Nat.le_refl _, Nat.le_refl _, heap_alloc_new w _, rfl⟩
end
section
variable {P : Program} {w : World} {ops : Array Oper} {rest : List Oper} {o : Oper} {a : Act} {Q : Exit → Act → World → Prop}
theorem wp_app_z {K : Act → World → Prop} (s x : Operand) (t : TypeId) (ho : o.op = .call { callee := .builtin .append, args := #[s, x], argTypes := #[t, t] })
    (T : SlT P t 5 1 1 (.int .u8 0)) {D' : Nat → Prop} {B : Nat} (v : Value) (l : Bts) (hs : a.eval s = v) (hown : RowZ B w v l)
    (vx : Value) (m : Bts) (hx : a.eval x = vx) (hm : SV byteEl D' w vx m) (hm1 : m ≠ []) (hroom : ∀ p c, v = .slice p l.length c → l.length + m.length ≤ c → m = [0]) (hbytes : l.length + m.length ≤ 140737488355328) (hbase : B ≤ w.heap.size)
    (h : ∀ v' w', RowZ B w' v' (l ++ m) → Kept Noneof w w' → K (a.put o.dst v') w') : o.wp P a w K Q := by
  obtain ⟨hl, b, c, cur, rfl, hB, hc, hg, hcur⟩ := hown
  obtain ⟨ao, cx, rfl, ⟨hcx, hn⟩, hml, hr⟩ := hm
  obtain ⟨news, h1, h2⟩ := hr.cells
  have hnews := cells_u8 h1
  subst hnews
  obtain ⟨i, hi, hz, hsize, hby, hzs⟩ := T.hi
  have hpos : 0 < m.length := List.length_pos_iff.2 hm1
  obtain ⟨ad, rfl⟩ : ∃ ad, ao = some ad := by
    cases ao with
    | none => have := hn rfl; omega
    | some ad => exact ⟨ad, rfl⟩
  have hcells : ∀ j u, (m.map u8v)[j]? = some u → w.cell? (ad.add j) = some u := fun j u hu => by
    obtain ⟨p, hp, hc'⟩ := h2 j u hu
    obtain rfl := Option.some.inj hp
    exact hc'
  have hcs : cur.size = c := by
    have := congrArg List.length hcur
    simp at this
    omega
  by_cases hr0 : l.length + m.length ≤ c
  · have hm0 := hroom _ _ rfl hr0
    subst hm0
    have hr := run_append_room (P := P) w t o.type 5 i T.ht hi b l.length c cur hg ad 1 cx ([0].map u8v) (by simp [hsize]) hcells h1.one (by simpa using hr0) (by simp at hr0 ⊢; rw [hsize]; omega)
    have hsame : (cur.toList.take (l.length * i.size) ++ [0].map u8v ++ cur.toList.drop (l.length * i.size + ([0].map u8v).length)) = cur.toList := by
      rw [hsize, Nat.mul_one, hcur]
      obtain ⟨n, hn⟩ : ∃ n, c - l.length = n + 1 := ⟨c - l.length - 1, by simp at hr0; omega⟩
      rw [hn, List.replicate_succ, List.take_left' (by simp), List.drop_append]
      simp [u8v]
    rw [hsame] at hr
    have hk : Kept Noneof w (w.setRow b cur.toList.toArray) := ⟨rfl, rfl, rfl, by simp [World.setRow], fun k hk _ => by
      by_cases e : k = b
      · subst e
        rw [setRow_heap w k cur cur.toList.toArray _ _ hg, hg]
      · exact setRow_other w b k _ e⟩
    unfold Oper.wp
    simp only [execOp, ho, resolve, invoke, builtin, Sem.run_bind, Sem.run_pure, Result.andThen_ok, List.map_toArray, List.map_cons, List.map_nil, hs, hx, List.length_cons, List.length_nil, Nat.zero_add, hr]
    refine h _ _ ⟨by simpa using hbytes, b, c, cur, by simp, hB, by simpa using hr0, hk.obj (fun h => h) hg, ?_⟩ hk
    rw [hcur]
    obtain ⟨n, hn⟩ : ∃ n, c - l.length = n + 1 := ⟨c - l.length - 1, by simp at hr0; omega⟩
    have : c - (l ++ [0]).length = n := by simp; omega
    rw [hn, this, List.replicate_succ]
    simp [u8v]
  · have hr := run_append_grow (P := P) w t o.type 5 i (.int .u8 0) T.ht hi hz ⟨b, 0, none⟩ l.length c (l.map u8v) (by simp [hsize]) (fun j u hu => by
      rw [Addr.add_lit, Nat.zero_add, cell_of_row w b _ cur _ (0, 0) hg, ← Array.getElem?_toList, hcur, List.getElem?_append_left (by have := (List.getElem?_eq_some_iff.1 hu).1; exact this)]
      exact hu) ad m.length cx (m.map u8v) (by simp [hsize]) hcells (by omega) (by omega) (growslice_fits (by omega) (by rw [hby]; omega))
    have hge := grownCap_ge w (l.length + m.length) c 5
    unfold Oper.wp
    simp only [execOp, ho, resolve, invoke, builtin, Sem.run_bind, Sem.run_pure, Result.andThen_ok, List.map_toArray, List.map_cons, List.map_nil, hs, hx, hr]
    refine h _ _ ⟨by simpa using hbytes, w.heap.size, _, _, by rw [List.length_append], hbase, by rw [List.length_append]; exact hge, heap_alloc_new w.drew _, ?_⟩ (((Kept.refl _ w).drew).alloc _)
    rw [Array.toList_append, zeroCells_u8]
    simp
theorem wl_app_z (hgd : o.guard = none) (s x : Operand) (t : TypeId) (ho : o.op = .call { callee := .builtin .append, args := #[s, x], argTypes := #[t, t] })
    (T : SlT P t 5 1 1 (.int .u8 0)) {D' : Nat → Prop} {B : Nat} (v : Value) (l : Bts) (hs : a.eval s = v) (hown : RowZ B w v l)
    (vx : Value) (m : Bts) (hx : a.eval x = vx) (hm : SV byteEl D' w vx m) (hm1 : m ≠ []) (hroom : ∀ p c, v = .slice p l.length c → l.length + m.length ≤ c → m = [0]) (hbytes : l.length + m.length ≤ 140737488355328) (hbase : B ≤ w.heap.size)
    (h : ∀ v' w', RowZ B w' v' (l ++ m) → Kept Noneof w w' → wpList P ops Q rest (a.put o.dst v') w') : wpList P ops Q (o :: rest) a w :=
  wpList_plain hgd fun _ hK => wp_app_z s x t ho T v l hs hown vx m hx hm hm1 hroom hbytes hbase fun v' w' k1 k2 => hK _ _ (h v' w' k1 k2)
end
set_option maxHeartbeats 400000 in
theorem byClone_zero {D : Nat → Prop} {v : Value} {l : Bts} {w : World} (h : BV D w v l) (hl : l ≠ []) :
    Calls Try.prog 95 #[v] w fun e w' => ∃ v', e = .returned v' ∧ RowZ w.heap.size w' v' l ∧ Kept Noneof w w' := by
  have HS := Lib.hid h
  have HL := Lib.hid hl
  obtain ⟨a, c, rfl, ⟨hc, hn⟩, m, hr⟩ := h
  have heq := fun (wx : World) => Lib.run_eql_slice_nil (P := Try.prog) wx 31 5 a l.length c 0 0 tBytes.ht
  cases a with
  | none =>
    refine absurd ?_ hl
    cases l with
    | nil => rfl
    | cons x t => obtain ⟨b, o, cs, h1, _⟩ := hr 0 (by simp); cases h1
  | some p =>
    clear hr hn hl
    go_enter Try.func95, Try.ntmps95
    have HR := Lib.hid (show ∀ q d, (.slice (some ⟨w.heap.size, 0, none⟩) 0 0 : Value) = .slice q ([] : Bts).length d → ([] : Bts).length + l.length ≤ d → l = [0] from fun q d h1 h2 => by
      simp only [Value.slice.injEq] at h1
      obtain ⟨_, _, rfl⟩ := h1
      have := List.length_pos_iff.2 HL.out
      simp only [List.length_nil] at h2
      omega)
    have hm : ([] : Bts).length + l.length ≤ 140737488355328 := by simpa using m
    go_wp2_with (at_builtin; refine wl_app_z rfl (.tmp 5) (.tmp 6) _ rfl tBytes _ [] rfl (RowZ.lit w) _ l rfl (HS.out.kept byteEl_k ((Kept.refl Noneof w).alloc _) fun _ _ _ h => h) HL.out HR.out hm (by simp) ?_)
    intro x3 w3 o3 e3
    go_wp2
    obtain ⟨a3, n3, c3, rfl⟩ := o3.slice'
    go_ret
    exact ⟨_, rfl, by simpa using o3, ((Kept.refl Noneof w).alloc _).trans e3 fun b hb => hb.elim⟩
end Go.Proofs.Ytaopjdjbpamhhaa
/- Proved: contracts of swap's span.has and span.parts. Conditions: bytes in memory. -/
namespace Go.Proofs.Ytaopjdjbpamhhaa
open Go Go.RowKit
set_option linter.unusedVariables false
set_option linter.unusedSimpArgs false

set_option maxHeartbeats 1000000 in
theorem swspan_has_calls {D1 D2 D3 : Nat → Prop} {lo hi kv : Value} {low high key : Bts} {bd : Bool} {w : World} (h1 : BV D1 w lo low) (h2 : BV D2 w hi high) (h3 : BV D3 w kv key) :
    Calls Try.prog 162 #[.agg #[lo, hi, .bool bd], kv] w fun e w' => e = .returned (.bool (inS low true high bd (key, []))) ∧ Kept Noneof w w' := by
  have H1 := Lib.hid h1
  have H2 := Lib.hid h2
  have H3 := Lib.hid h3
  obtain ⟨a1, c1, rfl, _⟩ := h1
  obtain ⟨a2, c2, rfl, _⟩ := h2
  obtain ⟨a3, c3, rfl, _⟩ := h3
  have e1 : decide (0 ≤ cmpS key low) = !decide (cmpB key low < 0) := by
    by_cases h : cmpB key low < 0
    · have := cmpS_lt h; simp [h]; omega
    · have := cmpS_ge h; simp [h, this]
  have e2 : decide (cmpS key high < 0) = decide (cmpB key high < 0) := by
    by_cases h : cmpB key high < 0
    · have := cmpS_lt h; simp [h, this]
    · have := cmpS_ge h; simp [h]; omega
  have E1 := Lib.hid e1
  have E2 := Lib.hid e2
  clear e1 e2
  go_enter Try.func162, Try.ntmps162
  go_wp2_with fail
  have G1 := heap_alloc_new w (.cells #[.slice a1 low.length c1, .slice a2 high.length c2, .bool bd] 170)
  have K1 := Lib.hid ((Kept.refl Noneof w).alloc (.cells #[.slice a1 low.length c1, .slice a2 high.length c2, .bool bd] 170))
  generalize w.alloc (.cells #[.slice a1 low.length c1, .slice a2 high.length c2, .bool bd] 170) = w1 at *
  have d1 : w1.cell? ⟨w.heap.size, 1, none⟩ = some (.slice a2 high.length c2) := by simp [World.cell?, G1]
  have d2 : w1.cell? ⟨w.heap.size, 2, none⟩ = some (.bool bd) := by simp [World.cell?, G1]
  clear G1
  refine (byCompare_calls (H3.out.kept byteEl_k K1.out fun _ _ _ h => h) (H1.out.kept byteEl_k K1.out fun _ _ _ h => h)).mono ?_
  rintro e w2 ⟨rfl, rfl⟩
  by_cases hc : cmpB key low < 0
  · have t1 : decide (0 ≤ cmpS key low) = false := by rw [E1.out]; simp [hc]
    go_wp2
    go_ret
    exact ⟨by simp [inS, hc], K1.out⟩
  · have t1 : decide (0 ≤ cmpS key low) = true := by rw [E1.out]; simp [hc]
    cases bd with
    | false =>
      go_wp2
      go_ret
      exact ⟨by simp [inS, hc], K1.out⟩
    | true =>
      go_wp2_with fail
      refine (byCompare_calls (H3.out.kept byteEl_k K1.out fun _ _ _ h => h) (H2.out.kept byteEl_k K1.out fun _ _ _ h => h)).mono ?_
      rintro e w2 ⟨rfl, rfl⟩
      have t2 := E2.out
      go_wp2
      go_ret
      exact ⟨by simp [inS, hc], K1.out⟩

end Go.Proofs.Ytaopjdjbpamhhaa
/- Proved: contract of swap's span.parts. Conditions: bytes in memory. -/
namespace Go.Proofs.Ytaopjdjbpamhhaa
open Go Go.RowKit
set_option linter.unusedVariables false
set_option linter.unusedSimpArgs false

theorem SeqL.act0 {P : Program} {ops : Array Oper} {Ext : World → World → Prop} {w0 : World} {K : Nat → Kd} {Fin : Act → Prop} {k : Nat} {o : Oper} {rest : List Oper} {a : Act} {Φ : World → Prop} (hK : K k = .act (fun _ => True) (fun _ w => Φ w)) (hd : o.dst = none) (hw : Region.wanted o (yielded ops a.tmps) = true)
    (h : ∀ w, Ext w0 w → (∀ j, j < k → waits ops k j = true → Held ops Ext w0 K j a w) → ∀ K' : Act → World → Prop, Hid (∀ w', Ext w w' → Φ w' → K' a w') → o.wp P a w K' (fun _ _ _ => False))
    (hn : SeqL P ops Ext w0 K Fin (k + 1) rest a) : SeqL P ops Ext w0 K Fin k (o :: rest) a := by
  refine ⟨fun _ => True, ?_, fun u _ => by rw [hd]; exact hn⟩
  unfold Spec
  rw [if_pos hw, hK]
  exact ⟨⟨undef, trivial⟩, rfl, fun w hc => (Res.of0 (R := fun w' => Ext w w' ∧ Φ w') hd (h w hc.1 hc.2 _ (fun w' hx hΦ => ⟨rfl, hx, hΦ⟩))).mono fun u w' h => ⟨trivial, h.1, h.2⟩⟩
theorem results_cell_row2 {P : Program} {fn : Func} {p q : Tmp} {ty : TypeId} (h : fn.results = #[.cell p ty, .cell q ty]) (tmps : Array Value) (w : World) (g g' : Nat) (t t' : TypeId) (cs cs' : Array Value) (fr fr' : Nat × Nat) (d : TypeDesc)
    (hp : tmps.getD p undef = .pointer (some ⟨g, 0, none⟩)) (hg : w.heap[g]? = some (.cells cs t fr)) (hq : tmps.getD q undef = .pointer (some ⟨g', 0, none⟩)) (hg' : w.heap[g']? = some (.cells cs' t' fr'))
    (hu : P.underlying ty = some d) (hd : (match d with | .struct _ | .array _ _ => true | _ => false) = true) (hi : (P.info? ty).map (·.size) = some cs.size) (hi' : (P.info? ty).map (·.size) = some cs'.size) :
    (results fn tmps).run P w = .ok (.tuple #[.agg cs, .agg cs']) w := by
  have hp' : tmps[p]?.getD undef = .pointer (some ⟨g, 0, none⟩) := by simpa using hp
  have hq' : tmps[q]?.getD undef = .pointer (some ⟨g', 0, none⟩) := by simpa using hq
  simp [results, h, hp', hq', asAddr, Sem.run_bind, Result.andThen, run_loadVar_row w g t ty cs fr d hg hu hd hi, run_loadVar_row w g' t' ty cs' fr' d hg' hu hd hi']

/-- Only one block changes, once, to an object. -/
def OnceTo (b : Nat) (o : Obj) (A B : World) : Prop := Kept (fun x => x = b) A B ∧ (B.heap[b]? = A.heap[b]? ∨ B.heap[b]? = some o)
theorem OnceTo.refl (b : Nat) (o : Obj) (A : World) : OnceTo b o A A := ⟨Kept.refl _ _, .inl rfl⟩
theorem OnceTo.trans {b : Nat} {o : Obj} {A B C : World} (h : OnceTo b o A B) (k : OnceTo b o B C) : OnceTo b o A C :=
  ⟨h.1.tr k.1, by
    rcases k.2 with e | e
    · rcases h.2 with f | f
      · exact .inl (e.trans f)
      · exact .inr (e.trans f)
    · exact .inr e⟩
theorem OnceTo.of {b : Nat} {o : Obj} {A B : World} (hb : b < A.heap.size) (h : Kept Noneof A B) : OnceTo b o A B := ⟨h.mono fun _ h => h.elim, .inl (h.block b hb fun h => h)⟩

theorem bv_zero {B g : Nat} {w : World} {t : TypeId} (h : w.heap[g]? = some (.cells #[.int .u8 0] t)) (hB : B ≤ g) : BV (fun b => B ≤ b) w (.slice (some ⟨g, 0, none⟩) 1 1) [0] := by
  refine ⟨_, _, rfl, ⟨by simp, fun h => by cases h⟩, by simp, fun i hi => ?_⟩
  obtain rfl : i = 0 := by simpa using hi
  refine ⟨g, 0, [.int .u8 0], rfl, hB, fun j hj => ?_, rfl⟩
  obtain rfl : j = 0 := by simpa using hj
  simp [World.cell?, h, byteEl]

set_option maxRecDepth 100000 in
set_option maxHeartbeats 2000000 in
theorem swspan_parts_calls {D1 D2 D3 : Nat → Prop} {lo hi kv : Value} {low high key : Bts} {bd : Bool} {w : World} (h1 : BV D1 w lo low) (h2 : BV D2 w hi high) (h3 : BV D3 w kv key) (hk : 1 ≤ key.length ∧ key.length ≤ 1000) :
    Calls Try.prog 120 #[.agg #[lo, hi, .bool bd], kv] w fun e w' => ∃ nv, e = .returned (.tuple #[.agg #[lo, kv, .bool true], .agg #[nv, hi, .bool bd]]) ∧ BV (fun b => w.heap.size ≤ b) w' nv (key ++ [0]) ∧ Kept Noneof w w' := by
  have H3 := Lib.hid h3
  have HK := Lib.hid hk
  obtain ⟨a1, c1, rfl, _⟩ := h1
  obtain ⟨a2, c2, rfl, _⟩ := h2
  obtain ⟨a3, c3, rfl, _⟩ := h3
  clear hk
  go_enter Try.func120, Try.ntmps120
  go_wp2_with fail
  have G0 := heap_alloc_new w (.cells #[.slice a1 low.length c1, .slice a2 high.length c2, .bool bd] 170)
  have K0 := (Kept.refl Noneof w).alloc (.cells #[.slice a1 low.length c1, .slice a2 high.length c2, .bool bd] 170)
  have s0 : (w.alloc (.cells #[.slice a1 low.length c1, .slice a2 high.length c2, .bool bd] 170)).heap.size = w.heap.size + 1 := by simp
  generalize w.alloc (.cells #[.slice a1 low.length c1, .slice a2 high.length c2, .bool bd] 170) = wa at *
  have G4 := heap_alloc_new wa (.cells #[.slice none 0 0, .slice none 0 0, .bool false] 170)
  have K4 := (Kept.refl Noneof wa).alloc (.cells #[.slice none 0 0, .slice none 0 0, .bool false] 170)
  have s4 : (wa.alloc (.cells #[.slice none 0 0, .slice none 0 0, .bool false] 170)).heap.size = w.heap.size + 2 := by simp [s0]
  generalize wa.alloc (.cells #[.slice none 0 0, .slice none 0 0, .bool false] 170) = wb at *
  have G5 := heap_alloc_new wb (.cells #[.slice none 0 0, .slice none 0 0, .bool false] 170)
  have K5 := (Kept.refl Noneof wb).alloc (.cells #[.slice none 0 0, .slice none 0 0, .bool false] 170)
  have s5 : (wb.alloc (.cells #[.slice none 0 0, .slice none 0 0, .bool false] 170)).heap.size = w.heap.size + 3 := by simp [s4]
  generalize wb.alloc (.cells #[.slice none 0 0, .slice none 0 0, .bool false] 170) = w1 at *
  have G0 := Lib.hid (K5.obj (fun h => h) (K4.obj (fun h => h) G0))
  have G4 := Lib.hid (K5.obj (fun h => h) G4)
  have G5 := Lib.hid G5
  have K1 := Lib.hid ((K0.trans K4 fun _ h => h.elim).trans K5 fun _ h => h.elim)
  have e0 : wa.heap.size = w.heap.size + 1 := s0
  have e4 : wb.heap.size = w.heap.size + 2 := s4
  rw [e0] at G4
  rw [e4] at G5
  clear K0 K4 K5 s0 s4 e0 e4
  obtain ⟨F4, hF4⟩ : ∃ F4 : Obj, F4 = .cells #[.slice a1 low.length c1, .slice a3 key.length c3, .bool true] 170 := ⟨_, rfl⟩
  refine wp_region_grow 14 [(5, .act IsSlice fun u wx => RowZ w1.heap.size wx u key), (6, .act IsSlice fun u wx => BV (fun b => w1.heap.size ≤ b) wx u [0]), (7, .act IsSlice fun u wx => RowZ w1.heap.size wx u (key ++ [0])), (13, .act (fun _ => True) fun _ wx => wx.heap[w.heap.size + 1]? = some F4)] (OnceTo (w.heap.size + 1) F4) (OnceTo.refl _ _) OnceTo.trans (OnceTo.of (by omega) (Kept.drew1 _ _)) (by kernel_rfl) (by kernel_rfl) (by kernel_rfl) ?_
  simp only [List.take_succ_cons, List.take_zero, List.drop_succ_cons, List.drop_zero]
  have hS : ∀ w', OnceTo (w.heap.size + 1) F4 w1 w' → w'.cell? ⟨w.heap.size, 0, none⟩ = some (.slice a1 low.length c1) ∧ w'.cell? ⟨w.heap.size, 1, none⟩ = some (.slice a2 high.length c2) ∧ w'.cell? ⟨w.heap.size, 2, none⟩ = some (.bool bd) := fun w' k => by
    have := k.1.obj (p := w.heap.size) (by omega) G0.out
    simp [World.cell?, this]
  iterate 5 (refine SeqL.val (v := ?_) hS rfl (by rfl) (fun wx hSw => ?_) ?_; rotate_left; (focus ((try dsimp only at hSw); go_simp; (try with_reducible rfl))); (try simp only [Act.put, List.setIfInBounds_toArray, List.set_cons_zero, List.set_cons_succ]))
  refine SeqL.act rfl rfl (by rfl) (by rfl) isSlice (fun wx hx hh K hK => ?_) (fun u1 hu1 => ?_)
  · go_simp
    refine (byClone_zero (H3.out.kept byteEl_k (K1.out.trans (T := fun b => b = w.heap.size + 1) hx.1 fun b h => .inr (by omega)) fun _ _ _ h => h) (fun e => by have := HK.out; rw [e] at this; simp at this)).mono ?_
    rintro e w2 ⟨v', rfl, o1, k1⟩
    exact hK.out v' w2 o1.slice' (OnceTo.of (by have := hx.1.size; omega) k1) (o1.base hx.1.size)
  obtain ⟨b1, n1', c1', rfl⟩ := hu1
  (try simp only [Act.put, List.setIfInBounds_toArray, List.set_cons_zero, List.set_cons_succ])
  refine SeqL.act rfl rfl (by rfl) (by rfl) isSlice (fun wx hx hh K hK => ?_) (fun u1 hu1 => ?_)
  · go_simp
    have gz := heap_alloc_new wx (.cells #[.int .u8 0] 5)
    refine hK.out _ _ ⟨_, _, _, rfl⟩ (OnceTo.of (by have := hx.1.size; omega) ((Kept.refl _ _).alloc _)) (bv_zero gz hx.1.size)
  obtain ⟨b2, n2', c2', rfl⟩ := hu1
  (try simp only [Act.put, List.setIfInBounds_toArray, List.set_cons_zero, List.set_cons_succ])
  refine SeqL.act rfl rfl (by rfl) (by rfl) isSlice (fun wx hx hh K hK => ?_) (fun u1 hu1 => ?_)
  · obtain ⟨wy, _, o5, hxy⟩ := hh 5 (by decide) (by kernel_rfl) _ _ _ rfl rfl
    obtain ⟨wz, _, o6, hxz⟩ := hh 6 (by decide) (by kernel_rfl) _ _ _ rfl rfl
    refine wp_app_z (.tmp 11) (.tmp 12) _ rfl tBytes _ key rfl (RowZ.kept o5 hxy.1 fun b h1 _ h2 => by omega) _ [0] rfl (SV.kept byteEl_k o6 hxz.1 fun b h1 _ h2 => by have : w1.heap.size ≤ b := h1; omega) (by simp) (fun _ _ _ _ => rfl) (by have := HK.out; simp; omega) hx.1.size ?_
    rintro v' w' o4 k4
    exact hK.out _ _ o4.slice' (OnceTo.of (by have := hx.1.size; omega) k4) o4
  obtain ⟨b4, n4', c4', rfl⟩ := hu1
  (try simp only [Act.put, List.setIfInBounds_toArray, List.set_cons_zero, List.set_cons_succ])
  iterate 5 (refine SeqL.val (v := ?_) hS rfl (by rfl) (fun wx hSw => ?_) ?_; rotate_left; (focus ((try dsimp only at hSw); go_simp; (try with_reducible rfl))); (try simp only [Act.put, List.setIfInBounds_toArray, List.set_cons_zero, List.set_cons_succ]))
  refine SeqL.act0 rfl rfl (by rfl) (fun wx hx hh K hK => ?_) ?_
  · have G : ∃ x0 x1 x2, wx.heap[w.heap.size + 1]? = some (.cells #[x0, x1, x2] 170) := by
      rcases hx.2 with e | e
      · exact ⟨_, _, _, e.trans G4.out⟩
      · exact ⟨_, _, _, by rw [e, hF4]⟩
    obtain ⟨x0, x1, x2, G⟩ := G
    have f0 : wx.cell? ⟨w.heap.size + 1, 0, none⟩ = some x0 := by simp [World.cell?, G]
    have f1 : wx.cell? ⟨w.heap.size + 1, 1, none⟩ = some x1 := by simp [World.cell?, G]
    have f2 : wx.cell? ⟨w.heap.size + 1, 2, none⟩ = some x2 := by simp [World.cell?, G]
    have ff : ∀ j, wx.frozen? ⟨w.heap.size + 1, j, none⟩ = false := fun j => by simp [World.frozen?, G]
    go_simp
    have GF := setCell_obj (setCell_obj (setCell_obj G (.slice a1 low.length c1) (j := 0)) (.slice a3 key.length c3) (j := 1)) (.bool true) (j := 2)
    have KF := (((Kept.refl (fun x => x = w.heap.size + 1) wx).setCell (p := ⟨w.heap.size + 1, 0, none⟩) (.inl rfl) (.slice a1 low.length c1)).setCell (p := ⟨w.heap.size + 1, 1, none⟩) (.inl rfl) (.slice a3 key.length c3)).setCell (p := ⟨w.heap.size + 1, 2, none⟩) (.inl rfl) (.bool true)
    refine hK.out _ ⟨KF, .inr ?_⟩ ?_
    · rw [hF4]; exact GF
    · rw [hF4]; exact GF
  refine SeqL.nil fun wz hz hh => ?_
  obtain ⟨wa, _, oa, ka⟩ := hh 7 (by decide) _ _ _ rfl rfl
  obtain ⟨wb, _, ob, kb⟩ := hh 13 (by decide) _ _ _ rfl rfl
  have GZ := Lib.hid (show wz.heap[w.heap.size + 1]? = some (.cells #[.slice a1 low.length c1, .slice a3 key.length c3, .bool true] 170) by
    rcases kb.2 with e | e
    · rw [e, ← hF4]; exact ob
    · rw [e, hF4])
  have OA := Lib.hid (show RowZ w1.heap.size wz (.slice b4 n4' c4') (key ++ [0]) from RowZ.kept oa ka.1 fun b h1 _ h2 => by omega)
  have G5z := Lib.hid (hz.1.obj (p := w.heap.size + 2) (by omega) G5.out)
  have KZ := Lib.hid (K1.out.trans (T := fun b => b = w.heap.size + 1) hz.1 fun b h => .inr (by omega))
  clear hh hS oa ob ka kb hz
  have f0 : wz.cell? ⟨w.heap.size + 2, 0, none⟩ = some (.slice none 0 0) := by simp [World.cell?, G5z.out]
  have f1 : wz.cell? ⟨w.heap.size + 2, 1, none⟩ = some (.slice none 0 0) := by simp [World.cell?, G5z.out]
  have f2 : wz.cell? ⟨w.heap.size + 2, 2, none⟩ = some (.bool false) := by simp [World.cell?, G5z.out]
  have ff : ∀ j, wz.frozen? ⟨w.heap.size + 2, j, none⟩ = false := fun j => by simp [World.frozen?, G5z.out]
  go_wp2
  have KS := (((Kept.refl (fun x => x = w.heap.size + 2) wz).setCell (p := ⟨w.heap.size + 2, 0, none⟩) (.inl rfl) (.slice b4 n4' c4')).setCell (p := ⟨w.heap.size + 2, 1, none⟩) (.inl rfl) (.slice a2 high.length c2)).setCell (p := ⟨w.heap.size + 2, 2, none⟩) (.inl rfl) (.bool bd)
  have GF := setCell_obj (setCell_obj (setCell_obj G5z.out (.slice b4 n4' c4') (j := 0)) (.slice a2 high.length c2) (j := 1)) (.bool bd) (j := 2)
  have GZ' := KS.obj (p := w.heap.size + 1) (by omega) GZ.out
  generalize ((wz.setCell ⟨w.heap.size + 2, 0, none⟩ (.slice b4 n4' c4')).setCell ⟨w.heap.size + 2, 1, none⟩ (.slice a2 high.length c2)).setCell ⟨w.heap.size + 2, 2, none⟩ (.bool bd) = wf at *
  refine bodyPost_ret (results_cell_row2 rfl _ _ (w.heap.size + 1) (w.heap.size + 2) _ _ _ _ (0, 0) (0, 0) _ rfl GZ' rfl GF Try.underlying170 rfl (by kernel_rfl) (by kernel_rfl)) rfl ?_
  exact ⟨_, rfl, ((OA.out.bv).kept byteEl_k KS fun b h _ e => by have : w1.heap.size ≤ b := h.1; omega).wide byteEl_k fun b h _ => by omega, KZ.out.trans KS fun b h => .inr (by omega)⟩
end Go.Proofs.Ytaopjdjbpamhhaa
/- Proved: contract of swap's keys. Conditions: a map in memory. -/
namespace Go.Proofs.Ytaopjdjbpamhhaa
open Go Go.RowKit Go.Shelf
set_option linter.unusedVariables false
set_option linter.unusedSimpArgs false
attribute [local go_sem] Oper.semAt_some

/-- The keys of a span. -/
def spanKeys (l : List (Bts × Bts)) (low high : Bts) (bd : Bool) : List Bts := (l.filter (inS low true high bd)).map (·.1)

theorem wpIn_app {F : Fence} {n : Nat} {P : Program} {w : World} {o : Oper} {a : Act} {Q : Exit → Act → World → Prop} {K : Act → World → Prop} (s x : Operand) (t : TypeId) (ho : o.op = .call { callee := .builtin .append, args := #[s, x], argTypes := #[t, t] })
    (h : o.wp P a w K (fun _ _ _ => False)) : o.wpIn F n P a w K Q := by
  unfold Oper.wp at h
  unfold Oper.wpIn
  refine ⟨by simp [Oper.about, ho, resolve, Target.leads, Sem.run_pure], ?_⟩
  rw [Oper.semAt_plain F _ _ (by rw [ho]; intro c hc'; cases hc')]
  simp only [execOp, ho, resolve, invoke, builtin, Sem.run_bind, Sem.run_pure, Result.andThen_ok, List.map_toArray, List.map_cons, List.map_nil] at h ⊢
  generalize (Builtin.append_ #[t, t] o.type #[a.eval s, a.eval x]).run P w = r at *
  cases r with
  | ok v w' => exact h
  | halt e w' => cases e <;> exact h.elim
theorem spanKeys_snoc (l : List (Bts × Bts)) (p : Bts × Bts) (low high : Bts) (bd : Bool) : spanKeys (l ++ [p]) low high bd = if inS low true high bd (p.1, []) = true then spanKeys l low high bd ++ [p.1] else spanKeys l low high bd := by
  have e : inS low true high bd p = inS low true high bd (p.1, []) := rfl
  unfold spanKeys
  rw [List.filter_append, List.map_append, ← e]
  cases h : inS low true high bd p <;> simp [h]

theorem spanKeys_prefix {L : List (Bts × Bts)} {pre : List AllE} {x : AllE} {low high : Bts} (hs : Srt L) (hp : (pre ++ [x]).map (fun x => x.2.2) <+: L) (hx : ¬ cmpB x.2.2.1 high < 0) : spanKeys ((pre ++ [x]).map (fun x => x.2.2)) low high true = spanKeys L low high true := by
  obtain ⟨r, rfl⟩ := hp
  have h0 : r.filter (inS low true high true) = [] := by
    refine List.filter_eq_nil_iff.2 fun p hp => ?_
    have h1 : cmpB x.2.2.1 p.1 < 0 := (List.pairwise_append.1 hs).2.2 x.2.2 (by simp) p hp
    have : ¬ cmpB p.1 high < 0 := fun e => hx (cmpB_trans h1 e)
    simp [inS, this]
  unfold spanKeys
  rw [List.filter_append, h0, List.append_nil]

set_option maxRecDepth 100000 in
set_option maxHeartbeats 4000000 in
theorem swkeys_calls {seed : Int} {w : World} {m : Nat} {t : Tr} {F D1 D2 : Nat → Prop} {lo hi : Value} {low high : Bts} {bd : Bool} (h : MapAt seed w m t F) (hs : t.size ≤ 1000000) (hg : Srt t.pairs) (h1 : BV D1 w lo low) (h2 : BV D2 w hi high) :
    Calls Try.prog 119 #[.pointer (some ⟨m, 0, none⟩), .agg #[lo, hi, .bool bd]] w fun e w' => ∃ v', e = .returned v' ∧ Own 31 bytesEl (fun b => w.heap.size ≤ b) w.heap.size w' v' (spanKeys t.pairs low high bd) ∧ Kept Noneof w w' := by
  have H := Lib.hid h
  have H1 := Lib.hid h1
  have H2 := Lib.hid h2
  have HG := Lib.hid hg
  have SZ := Lib.hid hs
  obtain ⟨a1, c1, rfl, _⟩ := h1
  obtain ⟨a2, c2, rfl, _⟩ := h2
  clear h hs hg
  refine (callsIn_wide (n := 9)).1 ?_
  refine callsIn_of_wp_marks Try.func119 rfl trivial ?_ rfl
  simp only [Try.ntmps119, List.size_toArray, List.length_cons, List.length_nil, Nat.reduceAdd, Nat.reduceSub, Array.replicate_succ, Array.replicate_zero, List.push_toArray, List.append_toArray, List.nil_append, List.cons_append]
  gi_wp2
  have G0 := heap_alloc_new w (.cells #[.slice a1 low.length c1, .slice a2 high.length c2, .bool bd] 170)
  have K0 := (Kept.refl Noneof w).alloc (.cells #[.slice a1 low.length c1, .slice a2 high.length c2, .bool bd] 170)
  have s0 : (w.alloc (.cells #[.slice a1 low.length c1, .slice a2 high.length c2, .bool bd] 170)).heap.size = w.heap.size + 1 := by simp
  generalize w.alloc (.cells #[.slice a1 low.length c1, .slice a2 high.length c2, .bool bd] 170) = wa at *
  have G1 := heap_alloc_new wa (.cells #[.slice none 0 0] 51)
  have K1 := (Kept.refl Noneof wa).alloc (.cells #[.slice none 0 0] 51)
  have s1 : (wa.alloc (.cells #[.slice none 0 0] 51)).heap.size = w.heap.size + 2 := by simp [s0]
  generalize wa.alloc (.cells #[.slice none 0 0] 51) = wb at *
  rw [s0] at G1
  have G0 := K1.obj (fun h => h) G0
  refine ⟨trivial, callsIn_wide.2 ((orAll_calls (m := m)).mono ?_)⟩
  rintro e w3 ⟨rfl, b3, k3, z3⟩
  rw [s1] at b3 z3
  have G0 := Lib.hid (k3.obj (fun h => h) G0)
  have G1 := Lib.hid (k3.obj (fun h => h) G1)
  have K3 := Lib.hid ((K0.trans K1 fun _ h => h.elim).trans k3 fun _ h => h.elim)
  have B3 := Lib.hid b3
  have Z3 := Lib.hid z3
  have s1' : wb.heap.size = w.heap.size + 2 := s1
  clear K0 K1 k3 b3 z3 s0
  gi_wp2
  refine range_rel (by decide) (gf := 186) (lb := #[.pointer (some ⟨w.heap.size + 2, 0, none⟩)]) (by simp [Act.eval, s1']) (enters_of Try.func186 (by kernel_rfl) rfl) (encs := fun x : AllE => #[x.1, x.2.1]) (fun _ => rfl)
    (fun W k hsz => orAll_1_iter ((H.out.kept (K3.out) fun _ _ h => h).kept k fun _ _ h => h) SZ.out (k.cell (fun h => h) B3.out) hsz Z3.out)
    (fun N pre W => (∃ v, W.heap[w.heap.size + 1]? = some (.cells #[v] 51) ∧ Own 31 bytesEl (fun b => w3.heap.size + 2 ≤ b ∧ b < N) N W v (spanKeys (pre.map (fun x => x.2.2)) low high bd)) ∧ Kept (fun b => b = w.heap.size + 1) w3 W ∧ N ≤ W.heap.size)
    (fun N pre W => ((∃ v, W.heap[w.heap.size + 1]? = some (.cells #[v] 51) ∧ Own 31 bytesEl (fun b => w3.heap.size + 2 ≤ b ∧ b < N) N W v (spanKeys (pre.map (fun x => x.2.2)) low high bd)) ∧ Kept (fun b => b = w.heap.size + 1) w3 W ∧ N ≤ W.heap.size) ∧ ∃ pre' x, pre = pre' ++ [x] ∧ bd = true ∧ ¬ cmpB x.2.2.1 high < 0)
    ?hI ?hIx ?hRx ?h0 (fun x => { tmps := #[.pointer (some ⟨m, 0, none⟩), .agg #[.slice a1 low.length c1, .slice a2 high.length c2, .bool bd], undef, .pointer (some ⟨w.heap.size, 0, none⟩), .slice none 0 0, .pointer (some ⟨w.heap.size + 1, 0, none⟩), x.1, .pointer (some ⟨m, 0, none⟩), .func (.func 186) #[] #[.pointer (some ⟨w.heap.size + 2, 0, none⟩)], x.1, x.2.1, undef, undef, undef, undef, undef, undef, undef, undef, undef, undef, undef, undef, undef, undef, undef, undef, undef], defers := [] }) ?assign ?body ?done ?stop
  case hI =>
    rintro N pre W W' hN ⟨⟨v, ho, hown⟩, kW, hNW⟩ k
    have ks := k.size
    have z := Z3.out
    have lo := hown.lt
    exact ⟨⟨v, k.obj (by omega) ho, hown.kept k fun b hb _ => ⟨fun hd => by omega, fun e => by have := (lo b e).1; omega⟩⟩, kW.trans k fun n h => .inr (by omega), by omega⟩
  case hIx =>
    rintro N pre W W' hN ⟨⟨⟨v, ho, hown⟩, kW, hNW⟩, hx⟩ k
    have ks := k.size
    have z := Z3.out
    have lo := hown.lt
    exact ⟨⟨⟨v, k.obj (by omega) ho, hown.kept k fun b hb _ => ⟨fun hd => by omega, fun e => by have := (lo b e).1; omega⟩⟩, kW.trans k fun n h => .inr (by omega), by omega⟩, hx⟩
  case hRx =>
    rintro N x W W' hN ⟨h1, h2⟩ k
    exact ⟨h1.kept byteEl_k k fun b hb _ e => by omega, h2.kept byteEl_k k fun b hb _ e => by omega⟩
  case h0 =>
    intro W k hs
    exact ⟨⟨_, k.obj (fun h => h) G1.out, Own.nil _ _ _ _ _⟩, k.mono (fun _ h => h.elim), Nat.le_refl _⟩
  case assign =>
    intro x W K hK
    gi_wp2
    exact hK
  case body =>
    rintro N pre ⟨kv, vv, key, val⟩ W hN hM ⟨⟨v, ho, hown⟩, kW, hNW⟩ ⟨hx1, hx2⟩
    have hx1 : BV (fun b => w3.heap.size + 2 ≤ b ∧ b < N) W kv key := hx1
    have HX := Lib.hid hx1
    obtain ⟨a3, c3, rfl, _⟩ := hx1
    dsimp only
    have OW := Lib.hid hown
    obtain ⟨a4, n4, c4, rfl⟩ := hown.slice'
    have HO := Lib.hid ho
    have KW := Lib.hid kW
    clear hx2 hown
    have d0 : W.cell? ⟨w.heap.size, 0, none⟩ = some (.slice a1 low.length c1) := by have := kW.obj (p := w.heap.size) (by omega) G0.out; simp [World.cell?, this]
    have d1 : W.cell? ⟨w.heap.size, 1, none⟩ = some (.slice a2 high.length c2) := by have := kW.obj (p := w.heap.size) (by omega) G0.out; simp [World.cell?, this]
    have d2 : W.cell? ⟨w.heap.size, 2, none⟩ = some (.bool bd) := by have := kW.obj (p := w.heap.size) (by omega) G0.out; simp [World.cell?, this]
    have g0 : W.cell? ⟨w.heap.size + 1, 0, none⟩ = some (.slice a4 n4 c4) := by simp [World.cell?, ho]
    clear ho kW
    have KZ := Lib.hid (K3.out.trans KW.out fun n h => .inr (by have := Z3.out; omega))
    cases bd with
    | false =>
      gi_wp2
      refine ⟨trivial, ?_⟩
      gi_wp2
      (
      refine ⟨trivial, CallsIn.inRound _ (callsIn_wide.2 ((swspan_has_calls (H1.out.kept byteEl_k KZ.out fun _ _ _ h => h) (H2.out.kept byteEl_k KZ.out fun _ _ _ h => h) HX.out).mono ?_))⟩
      rintro e W2 ⟨rfl, k2⟩
      have O2 := Lib.hid (OW.out.kept k2 fun _ h => h.elim)
      have HO2 := Lib.hid (k2.obj (fun h => h) HO.out)
      have X2 := Lib.hid (HX.out.kept byteEl_k k2 fun _ _ _ h => h)
      have KW2 := Lib.hid (KW.out.trans k2 fun _ h => h.elim)
      have hgo := spanKeys_snoc (pre.map (fun x => x.2.2)) (key, val) low high false
      have hmap : (pre ++ [((Value.slice a3 key.length c3, vv, key, val) : AllE)]).map (fun x => x.2.2) = pre.map (fun x => x.2.2) ++ [(key, val)] := by simp
      have z := Z3.out
      cases hin : inS low true high false (key, [])
      · rw [hin, if_neg (by decide)] at hgo
        gi_wp2
        exact ⟨k2.mono fun _ h => h.elim, ⟨_, HO2.out, by rw [hmap, hgo]; exact O2.out⟩, KW2.out, by have := k2.size; omega⟩
      · rw [hin, if_pos rfl] at hgo
        have g2 : W2.cell? ⟨w.heap.size + 1, 0, none⟩ = some (.slice a4 n4 c4) := by simp [World.cell?, HO2.out]
        have gA : ∀ o, (W2.alloc o).cell? ⟨w.heap.size + 1, 0, none⟩ = some (.slice a4 n4 c4) := fun o => ((Kept.refl Noneof W2).alloc o).cell (p := ⟨w.heap.size + 1, 0, none⟩) (fun h => h) g2
        have hlen : (spanKeys (pre.map (fun x => x.2.2)) low high false).length ≤ pre.length := by
          unfold spanKeys
          rw [List.length_map]
          exact Nat.le_trans (List.length_filter_le _ _) (by simp)
        have G3 := heap_alloc_new W2 (.cells #[.slice a3 key.length c3] 31)
        have k3 := (Kept.refl Noneof W2).alloc (.cells #[.slice a3 key.length c3] 31)
        have O3 := Lib.hid (O2.out.kept k3 fun _ h => h.elim)
        have X3 := Lib.hid (X2.out.kept byteEl_k k3 fun _ _ _ h => h)
        have HO3 := Lib.hid (k3.obj (fun h => h) HO2.out)
        have lo := Lib.hid O3.out.lt
        have hsz : N ≤ W2.heap.size := by have := k2.size; omega
        have hb : (spanKeys (pre.map (fun x => x.2.2)) low high false).length + 1 ≤ 2000000 := by have := SZ.out; have := Tr.pairs_len t; omega
        have HB := Lib.hid hb
        gi_wp2_with (gi_at_builtin; refine wpListIn_plain rfl fun K hK => wpIn_app (.tmp 23) (.tmp 25) _ rfl (wp_app_one (E := bytesEl) (.tmp 23) (.tmp 25) _ rfl tRows (D' := fun b => w3.heap.size + 2 ≤ b ∧ b < N) (.slice a4 n4 c4) _ rfl O3.out W2.heap.size [.slice a3 key.length c3] key rfl ⟨_, _, G3⟩ ⟨_, rfl, X3.out⟩ (fun x h _ => ⟨h, fun e => by have := (lo.out x e).1; omega⟩) (by omega) (by decide) (by simp; omega) ?_))
        rintro v4 w4 o4 k4 _
        obtain ⟨a5, n5, c5, rfl⟩ := o4.slice'
        refine hK _ _ ?_
        have ne : ¬ (.slice a4 n4 c4 : Value).ownBlock = some (w.heap.size + 1) := fun e => by have := (lo.out _ e).1; omega
        have h4 := k4.obj (p := w.heap.size + 1) ne HO3.out
        have g4 : w4.cell? ⟨w.heap.size + 1, 0, none⟩ = some (.slice a4 n4 c4) := by simp [World.cell?, h4]
        have f4 : w4.frozen? ⟨w.heap.size + 1, 0, none⟩ = false := by simp [World.frozen?, h4]
        have lo4 := Lib.hid lo.out
        have s4 := k4.size
        clear hK
        gi_wp2
        have kS := (Kept.refl (fun b => b = w.heap.size + 1) w4).setCell (p := ⟨w.heap.size + 1, 0, none⟩) (.inl rfl) (.slice a5 n5 c5)
        have s5 := kS.size
        have k24 : Kept (fun b => N ≤ b) W2 w4 := (k3.mono fun _ h => h.elim).trans k4 fun b e => .inl (lo4.out b e).1
        have k04 : Kept (fun b => N ≤ b) W w4 := (k2.mono fun _ h => h.elim).tr k24
        refine ⟨(k04.mono fun b h => .inr h).trans kS fun b h => .inl (.inl (by omega)), ⟨_, setCell_obj h4 _, ?_⟩, (KW.out.trans k04 fun b h => .inr (by omega)).tr kS, ?_⟩
        · rw [hmap, hgo]
          exact o4.kept kS fun b h _ => ⟨fun hd => by omega, fun e => by have := (o4.lt b e).1; omega⟩
        · have := k2.size
          simp only [World.size_alloc] at s4
          omega)
    | true =>
      gi_wp2
      refine ⟨trivial, CallsIn.inRound _ (callsIn_wide.2 ((byCompare_calls HX.out (H2.out.kept byteEl_k KZ.out fun _ _ _ h => h)).mono ?_))⟩
      rintro e W1 ⟨rfl, hW1⟩
      have hW1 := hW1.symm
      subst hW1
      by_cases hh : cmpB key high < 0
      · have t1 : decide (0 ≤ cmpS key high) = false := by have := cmpS_lt hh; simp; omega
        gi_wp2
        (
      refine ⟨trivial, CallsIn.inRound _ (callsIn_wide.2 ((swspan_has_calls (H1.out.kept byteEl_k KZ.out fun _ _ _ h => h) (H2.out.kept byteEl_k KZ.out fun _ _ _ h => h) HX.out).mono ?_))⟩
      rintro e W2 ⟨rfl, k2⟩
      have O2 := Lib.hid (OW.out.kept k2 fun _ h => h.elim)
      have HO2 := Lib.hid (k2.obj (fun h => h) HO.out)
      have X2 := Lib.hid (HX.out.kept byteEl_k k2 fun _ _ _ h => h)
      have KW2 := Lib.hid (KW.out.trans k2 fun _ h => h.elim)
      have hgo := spanKeys_snoc (pre.map (fun x => x.2.2)) (key, val) low high true
      have hmap : (pre ++ [((Value.slice a3 key.length c3, vv, key, val) : AllE)]).map (fun x => x.2.2) = pre.map (fun x => x.2.2) ++ [(key, val)] := by simp
      have z := Z3.out
      cases hin : inS low true high true (key, [])
      · rw [hin, if_neg (by decide)] at hgo
        gi_wp2
        exact ⟨k2.mono fun _ h => h.elim, ⟨_, HO2.out, by rw [hmap, hgo]; exact O2.out⟩, KW2.out, by have := k2.size; omega⟩
      · rw [hin, if_pos rfl] at hgo
        have g2 : W2.cell? ⟨w.heap.size + 1, 0, none⟩ = some (.slice a4 n4 c4) := by simp [World.cell?, HO2.out]
        have gA : ∀ o, (W2.alloc o).cell? ⟨w.heap.size + 1, 0, none⟩ = some (.slice a4 n4 c4) := fun o => ((Kept.refl Noneof W2).alloc o).cell (p := ⟨w.heap.size + 1, 0, none⟩) (fun h => h) g2
        have hlen : (spanKeys (pre.map (fun x => x.2.2)) low high true).length ≤ pre.length := by
          unfold spanKeys
          rw [List.length_map]
          exact Nat.le_trans (List.length_filter_le _ _) (by simp)
        have G3 := heap_alloc_new W2 (.cells #[.slice a3 key.length c3] 31)
        have k3 := (Kept.refl Noneof W2).alloc (.cells #[.slice a3 key.length c3] 31)
        have O3 := Lib.hid (O2.out.kept k3 fun _ h => h.elim)
        have X3 := Lib.hid (X2.out.kept byteEl_k k3 fun _ _ _ h => h)
        have HO3 := Lib.hid (k3.obj (fun h => h) HO2.out)
        have lo := Lib.hid O3.out.lt
        have hsz : N ≤ W2.heap.size := by have := k2.size; omega
        have hb : (spanKeys (pre.map (fun x => x.2.2)) low high true).length + 1 ≤ 2000000 := by have := SZ.out; have := Tr.pairs_len t; omega
        have HB := Lib.hid hb
        gi_wp2_with (gi_at_builtin; refine wpListIn_plain rfl fun K hK => wpIn_app (.tmp 23) (.tmp 25) _ rfl (wp_app_one (E := bytesEl) (.tmp 23) (.tmp 25) _ rfl tRows (D' := fun b => w3.heap.size + 2 ≤ b ∧ b < N) (.slice a4 n4 c4) _ rfl O3.out W2.heap.size [.slice a3 key.length c3] key rfl ⟨_, _, G3⟩ ⟨_, rfl, X3.out⟩ (fun x h _ => ⟨h, fun e => by have := (lo.out x e).1; omega⟩) (by omega) (by decide) (by simp; omega) ?_))
        rintro v4 w4 o4 k4 _
        obtain ⟨a5, n5, c5, rfl⟩ := o4.slice'
        refine hK _ _ ?_
        have ne : ¬ (.slice a4 n4 c4 : Value).ownBlock = some (w.heap.size + 1) := fun e => by have := (lo.out _ e).1; omega
        have h4 := k4.obj (p := w.heap.size + 1) ne HO3.out
        have g4 : w4.cell? ⟨w.heap.size + 1, 0, none⟩ = some (.slice a4 n4 c4) := by simp [World.cell?, h4]
        have f4 : w4.frozen? ⟨w.heap.size + 1, 0, none⟩ = false := by simp [World.frozen?, h4]
        have lo4 := Lib.hid lo.out
        have s4 := k4.size
        clear hK
        gi_wp2
        have kS := (Kept.refl (fun b => b = w.heap.size + 1) w4).setCell (p := ⟨w.heap.size + 1, 0, none⟩) (.inl rfl) (.slice a5 n5 c5)
        have s5 := kS.size
        have k24 : Kept (fun b => N ≤ b) W2 w4 := (k3.mono fun _ h => h.elim).trans k4 fun b e => .inl (lo4.out b e).1
        have k04 : Kept (fun b => N ≤ b) W w4 := (k2.mono fun _ h => h.elim).tr k24
        refine ⟨(k04.mono fun b h => .inr h).trans kS fun b h => .inl (.inl (by omega)), ⟨_, setCell_obj h4 _, ?_⟩, (KW.out.trans k04 fun b h => .inr (by omega)).tr kS, ?_⟩
        · rw [hmap, hgo]
          exact o4.kept kS fun b h _ => ⟨fun hd => by omega, fun e => by have := (o4.lt b e).1; omega⟩
        · have := k2.size
          simp only [World.size_alloc] at s4
          omega)
      · have t1 : decide (0 ≤ cmpS key high) = true := by have := cmpS_ge hh; simp; omega
        have HH := Lib.hid hh
        clear hh
        gi_wp2
        have hgo := spanKeys_snoc (pre.map (fun x => x.2.2)) (key, val) low high true
        rw [if_neg (by simp [inS, HH.out])] at hgo
        refine ⟨rfl, Kept.refl _ _, ⟨⟨_, HO.out, ?_⟩, KW.out, hNW⟩, pre, _, _, _, ⟨_, rfl⟩, by have := HH.out; omega⟩
        have hmap : (pre ++ [((Value.slice a3 key.length c3, vv, key, val) : AllE)]).map (fun x => x.2.2) = pre.map (fun x => x.2.2) ++ [(key, val)] := by simp
        rw [hmap, hgo]
        exact OW.out
  case done =>
    rintro N xs W hN hS ⟨⟨v, ho, hown⟩, kW, hNW⟩ hd
    have z := Z3.out
    have g0 : W.cell? ⟨w.heap.size + 1, 0, none⟩ = some v := by simp [World.cell?, ho]
    have OW := Lib.hid hown
    obtain ⟨a4, n4, c4, rfl⟩ := hown.slice'
    gi_wp2
    have lo := hown.lt
    have kP := (Kept.refl (fun b => b = w3.heap.size) W).putObj (.inl rfl) (.deferred none)
    have KF := K3.out.trans (kW.trans kP fun n h => .inr (by omega)) (T := fun b => b = w.heap.size + 1) fun n h => .inr (by omega)
    refine ⟨by simp, .inl ⟨_, _, rfl, run_takeDeferred hd, ?_⟩⟩
    refine ⟨_, results_tmp rfl _ _ _, _, rfl, ?_, KF⟩
    have := (OW.out.kept kP fun b hb _ => ⟨fun hd => by omega, fun e => by have := (lo b e).1; omega⟩)
    rw [hS] at this
    exact (this.wide fun b hb => by omega).base (by omega)
  case stop =>
    rintro N pre W hN hS ⟨⟨⟨v, ho, hown⟩, kW, hNW⟩, pre', x, rfl, rfl, hx⟩ hd
    have HX := Lib.hid hx
    clear hx
    have z := Z3.out
    have g0 : W.cell? ⟨w.heap.size + 1, 0, none⟩ = some v := by simp [World.cell?, ho]
    have OW := Lib.hid hown
    obtain ⟨a4, n4, c4, rfl⟩ := hown.slice'
    gi_wp2
    have lo := hown.lt
    have kP := (Kept.refl (fun b => b = w3.heap.size) W).putObj (.inl rfl) (.deferred none)
    have KF := K3.out.trans (kW.trans kP fun n h => .inr (by omega)) (T := fun b => b = w.heap.size + 1) fun n h => .inr (by omega)
    refine ⟨by simp, .inl ⟨_, _, rfl, run_takeDeferred hd, ?_⟩⟩
    refine ⟨_, results_tmp rfl _ _ _, _, rfl, ?_, KF⟩
    have := (OW.out.kept kP fun b hb _ => ⟨fun hd => by omega, fun e => by have := (lo b e).1; omega⟩)
    rw [spanKeys_prefix HG.out hS (by have := HX.out; omega)] at this
    exact (this.wide fun b hb => by omega).base (by omega)
end Go.Proofs.Ytaopjdjbpamhhaa
/- Proved: what the talk of a mirror holds in memory, and that it stays true while new memory is made and while its lists grow. No condition. -/
namespace Go.Proofs.Ytaopjdjbpamhhaa
open Go Go.RowKit
set_option linter.unusedVariables false
set_option linter.unusedSimpArgs false

def msgEl : El Msg where
  k := 7
  R := fun D w cs x => ∃ vl vh vp, cs = [vl, vh, .bool x.bd, .int .i64 x.size, .int .u64 x.dg, .bool x.same, vp] ∧ BV D w vl x.low ∧ BV D w vh x.high ∧ SV pairEl D w vp x.prs
  mono := fun hw ⟨vl, vh, vp, h1, h2, h3, h4⟩ => ⟨vl, vh, vp, h1, h2.mono byteEl_k hw, h3.mono byteEl_k hw, h4.mono pairEl_k hw⟩
  len := fun ⟨vl, vh, vp, h1, _⟩ => by rw [h1]; rfl
  one := fun ⟨vl, vh, vp, h1, h2, h3, h4⟩ x hx => by
    obtain ⟨a, c, rfl, _⟩ := h4
    rw [h1] at hx
    rcases List.mem_cons.1 hx with rfl | hx
    · exact h2.cell1
    · rcases List.mem_cons.1 hx with rfl | hx
      · exact h3.cell1
      · simp only [List.mem_cons, List.not_mem_nil, or_false] at hx
        rcases hx with rfl | rfl | rfl | rfl | rfl <;> rfl
theorem msgEl_k : 0 < msgEl.k := by decide
theorem tMsgs : SlT Try.prog 85 97 7 104 (.agg #[.slice none 0 0, .slice none 0 0, .bool false, .int .i64 0, .int .u64 0, .bool false, .slice none 0 0]) := SlT.of (by kernel_rfl) (by kernel_rfl) rfl (by decide)

/-- What a mirror's talk does not change: the variables' blocks, the nodes, the receiver. -/
structure TK where
  q2 : Nat
  q3 : Nat
  q4 : Nat
  q5 : Nat
  q6 : Nat
  q7 : Nat
  vn : Value
  m2 : Nat
  F2 : Nat → Prop
  DN : Nat → Prop
  B : Nat
  L : List ND
abbrev bp (b : Nat) : Value := .pointer (some ⟨b, 0, none⟩)
structure TalkIn (seed : Int) (u : Tr) (c : TK) (R : Nat → Prop) (vo vg vc : Value) (w : World) (ol : List Msg) (gl : List Bts) (cl : List (Bts × Bts)) : Prop where
  h2 : w.heap[c.q2]? = some (.cells #[c.vn] 166)
  h3 : w.heap[c.q3]? = some (.cells #[bp c.m2] 83)
  h4 : w.heap[c.q4]? = some (.cells #[vo] 85)
  h5 : w.heap[c.q5]? = some (.cells #[vg] 51)
  h6 : w.heap[c.q6]? = some (.cells #[vc] 65)
  h7 : w.heap[c.q7]? = some (.cells #[.func (.func 117) #[] #[bp c.q2, bp c.q3, bp c.q4, bp c.q5, bp c.q6, bp c.q7]] 168)
  hn : SV nodeEl c.DN w c.vn c.L
  hm : MapAt seed w c.m2 u c.F2
  ho : Own 97 msgEl R c.B w vo ol
  hg : Own 31 bytesEl R c.B w vg gl
  hc : Own 70 pairEl R c.B w vc cl
  lt : c.q2 < c.B ∧ c.q3 < c.B ∧ c.q4 < c.B ∧ c.q5 < c.B ∧ c.q6 < c.B ∧ c.q7 < c.B
  ne : c.q4 ≠ c.q2 ∧ c.q4 ≠ c.q3 ∧ c.q4 ≠ c.q5 ∧ c.q4 ≠ c.q6 ∧ c.q4 ≠ c.q7 ∧ c.q5 ≠ c.q2 ∧ c.q5 ≠ c.q3 ∧ c.q5 ≠ c.q6 ∧ c.q5 ≠ c.q7 ∧ c.q6 ≠ c.q2 ∧ c.q6 ≠ c.q3 ∧ c.q6 ≠ c.q7
  hD : ∀ b, c.DN b → R b ∧ b < c.B
  hF : ∀ b, c.F2 b → b < c.B ∧ b ≠ c.q4 ∧ b ≠ c.q5 ∧ b ≠ c.q6
  hR : ∀ b, R b → b < w.heap.size ∧ (b ≠ c.q4 ∧ b ≠ c.q5 ∧ b ≠ c.q6) ∧ vo.ownBlock ≠ some b ∧ vg.ownBlock ≠ some b ∧ vc.ownBlock ≠ some b
  dis : ∀ b, (vo.ownBlock = some b → vg.ownBlock ≠ some b ∧ vc.ownBlock ≠ some b) ∧ (vg.ownBlock = some b → vc.ownBlock ≠ some b)
  hB : c.B ≤ w.heap.size
  hRF : ∀ b, R b → ¬ c.F2 b
section
variable {seed : Int} {u : Tr} {c : TK} {R R' S : Nat → Prop} {vo vg vc : Value} {w w' : World} {ol : List Msg} {gl : List Bts} {cl : List (Bts × Bts)}
/-- What the talk may change. -/
def TalkS (c : TK) (vo vg vc : Value) (b : Nat) : Prop := b = c.q4 ∨ b = c.q5 ∨ b = c.q6 ∨ vo.ownBlock = some b ∨ vg.ownBlock = some b ∨ vc.ownBlock = some b
theorem TalkIn.kept (h : TalkIn seed u c R vo vg vc w ol gl cl) (k : Kept S w w') (hS : ∀ b, S b → c.B ≤ b ∧ ¬ R b ∧ vo.ownBlock ≠ some b ∧ vg.ownBlock ≠ some b ∧ vc.ownBlock ≠ some b) : TalkIn seed u c R vo vg vc w' ol gl cl := by
  have l := h.lt
  have n : ∀ b, b < c.B → ¬ S b := fun b hb hs => by have := (hS b hs).1; omega
  have kz := k.size
  exact ⟨k.obj (n _ l.1) h.h2, k.obj (n _ l.2.1) h.h3, k.obj (n _ l.2.2.1) h.h4, k.obj (n _ l.2.2.2.1) h.h5, k.obj (n _ l.2.2.2.2.1) h.h6, k.obj (n _ l.2.2.2.2.2) h.h7,
    h.hn.kept nodeEl_k k fun b hb _ => n b (h.hD b hb).2, h.hm.kept k fun b hb => n b (h.hF b hb).1,
    h.ho.kept k fun b hb _ => ⟨(hS b hb).2.1, (hS b hb).2.2.1⟩, h.hg.kept k fun b hb _ => ⟨(hS b hb).2.1, (hS b hb).2.2.2.1⟩, h.hc.kept k fun b hb _ => ⟨(hS b hb).2.1, (hS b hb).2.2.2.2⟩,
    h.lt, h.ne, h.hD, h.hF, fun b hb => ⟨by have := (h.hR b hb).1; omega, (h.hR b hb).2⟩, h.dis, by have := h.hB; omega, h.hRF⟩
theorem TalkIn.kept0 (h : TalkIn seed u c R vo vg vc w ol gl cl) (k : Kept Noneof w w') : TalkIn seed u c R vo vg vc w' ol gl cl := h.kept k fun _ h => h.elim
/-- More blocks of data. -/
theorem TalkIn.wide (h : TalkIn seed u c R vo vg vc w ol gl cl) (hR : ∀ b, R b → R' b) (hR' : ∀ b, R' b → R b ∨ b < w.heap.size ∧ c.B ≤ b ∧ vo.ownBlock ≠ some b ∧ vg.ownBlock ≠ some b ∧ vc.ownBlock ≠ some b) : TalkIn seed u c R' vo vg vc w ol gl cl := by
  have l := h.lt
  exact ⟨h.h2, h.h3, h.h4, h.h5, h.h6, h.h7, h.hn, h.hm, h.ho.wide hR, h.hg.wide hR, h.hc.wide hR, h.lt, h.ne, fun b hb => ⟨hR b (h.hD b hb).1, (h.hD b hb).2⟩, h.hF, fun b hb => (hR' b hb).elim (h.hR b) fun k => ⟨k.1, ⟨by omega, by omega, by omega⟩, k.2.2⟩, h.dis, h.hB, fun b hb => (hR' b hb).elim (h.hRF b) fun k e => by have := (h.hF b e).1; omega⟩
/-- One more message. -/
theorem TalkIn.say {vo' : Value} {ol' : List Msg} (h : TalkIn seed u c R vo vg vc w ol gl cl) (k : Kept (fun b => vo.ownBlock = some b) w w') (ho : Own 97 msgEl R c.B w' vo' ol') (hb : ∀ b, vo'.ownBlock = some b → vo.ownBlock = some b ∨ w.heap.size ≤ b) :
    TalkIn seed u c R vo' vg vc (w'.setCell ⟨c.q4, 0, none⟩ vo') ol' gl cl := by
  have l := h.lt
  have n := h.ne
  have lo := h.ho.lt
  have lg := h.hg.lt
  have lc := h.hc.lt
  have k2 := (k.mono (T := fun b => b = c.q4 ∨ vo.ownBlock = some b) fun b h => .inr h).setCell (p := ⟨c.q4, 0, none⟩) (.inl (.inl rfl)) vo'
  have k3 := (Kept.refl (fun b => b = c.q4) w').setCell (p := ⟨c.q4, 0, none⟩) (.inl rfl) vo'
  have no : ∀ b, b < c.B → vo.ownBlock ≠ some b := fun b hb e => by have := (lo b e).1; omega
  have h4 := k.obj (no _ l.2.2.1) h.h4
  have nq : ∀ b, b < c.B → b ≠ c.q4 → ¬ (b = c.q4 ∨ vo.ownBlock = some b) := fun b hb hn e => e.elim hn (no b hb)
  have nR : ∀ b, R b → ¬ (b = c.q4 ∨ vo.ownBlock = some b) := fun b hb e => by have := h.hR b hb; exact e.elim this.2.1.1 this.2.2.1
  have kz := k2.size
  have fresh : ∀ b, vo'.ownBlock = some b → vg.ownBlock ≠ some b ∧ vc.ownBlock ≠ some b := fun b e => by
    rcases hb b e with e | e
    · exact (h.dis b).1 e
    · exact ⟨fun f => by have := (lg b f).2; omega, fun f => by have := (lc b f).2; omega⟩
  refine ⟨k2.obj (nq _ l.1 (fun e => n.1 e.symm)) h.h2, k2.obj (nq _ l.2.1 (fun e => n.2.1 e.symm)) h.h3, setCell_obj h4 _, k2.obj (nq _ l.2.2.2.1 (fun e => n.2.2.1 e.symm)) h.h5, k2.obj (nq _ l.2.2.2.2.1 (fun e => n.2.2.2.1 e.symm)) h.h6, k2.obj (nq _ l.2.2.2.2.2 (fun e => n.2.2.2.2.1 e.symm)) h.h7,
    h.hn.kept nodeEl_k k2 fun b hb _ => nR b (h.hD b hb).1, h.hm.kept k2 fun b hb => nq b (h.hF b hb).1 (h.hF b hb).2.1, ho.kept k3 fun b hb _ => ⟨fun e => (h.hR b e).2.1.1 hb, fun e => by have := (ho.lt b e).1; have : b = c.q4 := hb; omega⟩,
    h.hg.kept k2 fun b hb _ => ⟨fun e => nR b e hb, fun e => ?_⟩, h.hc.kept k2 fun b hb _ => ⟨fun e => nR b e hb, fun e => ?_⟩, h.lt, h.ne, h.hD, h.hF, fun b hb' => ?_, fun b => ⟨fresh b, (h.dis b).2⟩, by have := h.hB; omega, h.hRF⟩
  · rcases hb with rfl | e'
    · have := (lg _ e).1; omega
    · exact ((h.dis b).1 e').1 e
  · rcases hb with rfl | e'
    · have := (lc _ e).1; omega
    · exact ((h.dis b).1 e').2 e
  · have := h.hR b hb'
    refine ⟨by omega, this.2.1, fun e => ?_, this.2.2.2⟩
    rcases hb b e with e | e
    · exact this.2.2.1 e
    · omega
/-- Keys that go. -/
theorem TalkIn.go {vg' : Value} {gl' : List Bts} (h : TalkIn seed u c R vo vg vc w ol gl cl) (k : Kept (fun b => vg.ownBlock = some b) w w') (hg : Own 31 bytesEl R c.B w' vg' gl') (hb : ∀ b, vg'.ownBlock = some b → vg.ownBlock = some b ∨ w.heap.size ≤ b) :
    TalkIn seed u c R vo vg' vc (w'.setCell ⟨c.q5, 0, none⟩ vg') ol gl' cl := by
  have l := h.lt
  have n := h.ne
  have lo := h.ho.lt
  have lg := h.hg.lt
  have lc := h.hc.lt
  have k2 := (k.mono (T := fun b => b = c.q5 ∨ vg.ownBlock = some b) fun b h => .inr h).setCell (p := ⟨c.q5, 0, none⟩) (.inl (.inl rfl)) vg'
  have k3 := (Kept.refl (fun b => b = c.q5) w').setCell (p := ⟨c.q5, 0, none⟩) (.inl rfl) vg'
  have no : ∀ b, b < c.B → vg.ownBlock ≠ some b := fun b hb e => by have := (lg b e).1; omega
  have h5 := k.obj (no _ l.2.2.2.1) h.h5
  have nq : ∀ b, b < c.B → b ≠ c.q5 → ¬ (b = c.q5 ∨ vg.ownBlock = some b) := fun b hb hn e => e.elim hn (no b hb)
  have nR : ∀ b, R b → ¬ (b = c.q5 ∨ vg.ownBlock = some b) := fun b hb e => by have := h.hR b hb; exact e.elim this.2.1.2.1 this.2.2.2.1
  have kz := k2.size
  have fresh : ∀ b, vg'.ownBlock = some b → vo.ownBlock ≠ some b ∧ vc.ownBlock ≠ some b := fun b e => by
    rcases hb b e with e | e
    · exact ⟨fun f => ((h.dis b).1 f).1 e, (h.dis b).2 e⟩
    · exact ⟨fun f => by have := (lo b f).2; omega, fun f => by have := (lc b f).2; omega⟩
  refine ⟨k2.obj (nq _ l.1 (fun e => n.2.2.2.2.2.1 e.symm)) h.h2, k2.obj (nq _ l.2.1 (fun e => n.2.2.2.2.2.2.1 e.symm)) h.h3, k2.obj (nq _ l.2.2.1 n.2.2.1) h.h4, setCell_obj h5 _, k2.obj (nq _ l.2.2.2.2.1 (fun e => n.2.2.2.2.2.2.2.1 e.symm)) h.h6, k2.obj (nq _ l.2.2.2.2.2 (fun e => n.2.2.2.2.2.2.2.2.1 e.symm)) h.h7,
    h.hn.kept nodeEl_k k2 fun b hb _ => nR b (h.hD b hb).1, h.hm.kept k2 fun b hb => nq b (h.hF b hb).1 (h.hF b hb).2.2.1,
    h.ho.kept k2 fun b hb _ => ⟨fun e => nR b e hb, fun e => ?_⟩, hg.kept k3 fun b hb _ => ⟨fun e => (h.hR b e).2.1.2.1 hb, fun e => by have := (hg.lt b e).1; have : b = c.q5 := hb; omega⟩, h.hc.kept k2 fun b hb _ => ⟨fun e => nR b e hb, fun e => ?_⟩, h.lt, h.ne, h.hD, h.hF, fun b hb' => ?_, fun b => ⟨fun e => ⟨fun f => (fresh b f).1 e, ((h.dis b).1 e).2⟩, fun e => (fresh b e).2⟩, by have := h.hB; omega, h.hRF⟩
  · rcases hb with rfl | e'
    · have := (lo _ e).1; omega
    · exact ((h.dis b).1 e).1 e'
  · rcases hb with rfl | e'
    · have := (lc _ e).1; omega
    · exact (h.dis b).2 e' e
  · have := h.hR b hb'
    refine ⟨by omega, this.2.1, this.2.2.1, fun e => ?_, this.2.2.2.2⟩
    rcases hb b e with e | e
    · exact this.2.2.2.1 e
    · omega
/-- Pairs that come. -/
theorem TalkIn.come {vc' : Value} {cl' : List (Bts × Bts)} (h : TalkIn seed u c R vo vg vc w ol gl cl) (k : Kept (fun b => vc.ownBlock = some b) w w') (hc : Own 70 pairEl R c.B w' vc' cl') (hb : ∀ b, vc'.ownBlock = some b → vc.ownBlock = some b ∨ w.heap.size ≤ b) :
    TalkIn seed u c R vo vg vc' (w'.setCell ⟨c.q6, 0, none⟩ vc') ol gl cl' := by
  have l := h.lt
  have n := h.ne
  have lo := h.ho.lt
  have lg := h.hg.lt
  have lc := h.hc.lt
  have k2 := (k.mono (T := fun b => b = c.q6 ∨ vc.ownBlock = some b) fun b h => .inr h).setCell (p := ⟨c.q6, 0, none⟩) (.inl (.inl rfl)) vc'
  have k3 := (Kept.refl (fun b => b = c.q6) w').setCell (p := ⟨c.q6, 0, none⟩) (.inl rfl) vc'
  have no : ∀ b, b < c.B → vc.ownBlock ≠ some b := fun b hb e => by have := (lc b e).1; omega
  have h6 := k.obj (no _ l.2.2.2.2.1) h.h6
  have nq : ∀ b, b < c.B → b ≠ c.q6 → ¬ (b = c.q6 ∨ vc.ownBlock = some b) := fun b hb hn e => e.elim hn (no b hb)
  have nR : ∀ b, R b → ¬ (b = c.q6 ∨ vc.ownBlock = some b) := fun b hb e => by have := h.hR b hb; exact e.elim this.2.1.2.2 this.2.2.2.2
  have kz := k2.size
  have fresh : ∀ b, vc'.ownBlock = some b → vo.ownBlock ≠ some b ∧ vg.ownBlock ≠ some b := fun b e => by
    rcases hb b e with e | e
    · exact ⟨fun f => ((h.dis b).1 f).2 e, fun f => (h.dis b).2 f e⟩
    · exact ⟨fun f => by have := (lo b f).2; omega, fun f => by have := (lg b f).2; omega⟩
  refine ⟨k2.obj (nq _ l.1 (fun e => n.2.2.2.2.2.2.2.2.2.1 e.symm)) h.h2, k2.obj (nq _ l.2.1 (fun e => n.2.2.2.2.2.2.2.2.2.2.1 e.symm)) h.h3, k2.obj (nq _ l.2.2.1 n.2.2.2.1) h.h4, k2.obj (nq _ l.2.2.2.1 n.2.2.2.2.2.2.2.1) h.h5, setCell_obj h6 _, k2.obj (nq _ l.2.2.2.2.2 (fun e => n.2.2.2.2.2.2.2.2.2.2.2 e.symm)) h.h7,
    h.hn.kept nodeEl_k k2 fun b hb _ => nR b (h.hD b hb).1, h.hm.kept k2 fun b hb => nq b (h.hF b hb).1 (h.hF b hb).2.2.2,
    h.ho.kept k2 fun b hb _ => ⟨fun e => nR b e hb, fun e => ?_⟩, h.hg.kept k2 fun b hb _ => ⟨fun e => nR b e hb, fun e => ?_⟩, hc.kept k3 fun b hb _ => ⟨fun e => (h.hR b e).2.1.2.2 hb, fun e => by have := (hc.lt b e).1; have : b = c.q6 := hb; omega⟩, h.lt, h.ne, h.hD, h.hF, fun b hb' => ?_, fun b => ⟨fun e => ⟨((h.dis b).1 e).1, fun f => (fresh b f).1 e⟩, fun e f => (fresh b f).2 e⟩, by have := h.hB; omega, h.hRF⟩
  · rcases hb with rfl | e'
    · have := (lo _ e).1; omega
    · exact ((h.dis b).1 e).2 e'
  · rcases hb with rfl | e'
    · have := (lg _ e).1; omega
    · exact (h.dis b).2 e e'
  · have := h.hR b hb'
    refine ⟨by omega, this.2.1, this.2.2.1, this.2.2.2.1, fun e => ?_⟩
    rcases hb b e with e | e
    · exact this.2.2.2.2 e
    · omega
end
/-- Where a tree's nodes stand in a list. -/
def NodesAt (seed : Int) (L : List ND) : Tr → Int → Prop
  | .nil, at' => at' = -1
  | .nd l k v r, at' => ∃ pre post, L = pre ++ (Tr.nd l k v r).nodes seed pre.length ++ post ∧ at' = pre.length
theorem NodesAt.kids {seed : Int} {L : List ND} {l r : Tr} {k v : Bts} {at' : Int} (h : NodesAt seed L (.nd l k v r) at') : ∃ i : Nat, at' = i ∧ i < L.length ∧ L[i]? = some (ndOf seed l k v r i) ∧ NodesAt seed L l (ndOf seed l k v r i).left ∧ NodesAt seed L r (ndOf seed l k v r i).right := by
  obtain ⟨pre, post, rfl, rfl⟩ := h
  refine ⟨pre.length, rfl, by simp [Tr.nodes], by simp [Tr.nodes], ?_, ?_⟩
  · cases l with
    | nil => simp [ndOf, Tr.size, NodesAt]
    | nd l' k' v' r' =>
      refine ⟨pre ++ [ndOf seed (.nd l' k' v' r') k v r pre.length], r.nodes seed (pre.length + 1 + ((Tr.nd l' k' v' r').size : Nat)) ++ post, ?_, ?_⟩
      · rw [Tr.nodes]; simp
      · simp [ndOf, Tr.size]
  · cases r with
    | nil => simp [ndOf, Tr.size, NodesAt]
    | nd l' k' v' r' =>
      refine ⟨pre ++ ndOf seed l k v (.nd l' k' v' r') pre.length :: l.nodes seed (pre.length + 1), post, ?_, ?_⟩
      · have e : ((pre ++ ndOf seed l k v (.nd l' k' v' r') pre.length :: l.nodes seed (pre.length + 1)).length : Int) = pre.length + 1 + l.size := by simp [Tr.nodes_len]; omega
        rw [e, Tr.nodes]
        simp
      · have e : ((pre ++ ndOf seed l k v (.nd l' k' v' r') pre.length :: l.nodes seed (pre.length + 1)).length : Int) = pre.length + 1 + l.size := by simp [Tr.nodes_len]; omega
        rw [e]
        simp [ndOf, Tr.size]
end Go.Proofs.Ytaopjdjbpamhhaa
