/- Proved: texts of the family over order and swap, joined: laws of memory and regions, contracts of functions, plain facts. Conditions: as each theorem says. -/
import Derived.Test.YtaopjdjbpamhhaaPkC
import Derived.LaidEqlPtr
import Derived.Deep.Slices
import Derived.Shelf.Bytes.SlJoin
/- Proved: rows of bytes whose room holds zeros: bytes.Clone makes one, and a zero that is appended to one changes nothing old. Conditions: bytes in memory. -/
namespace Go.Proofs.Ytaopjdjbpamhhaa
open Go Go.RowKit
set_option linter.unusedVariables false
set_option linter.unusedSimpArgs false

def u8v (x : UInt8) : Value := .int .u8 ((x.toNat : Nat) : Int)
/-- A row of bytes whose room holds zeros. -/
def RowZ (B : Nat) (w : World) (v : Value) (l : Bts) : Prop :=
  l.length ≤ 140737488355328 ∧ ∃ b c cur, v = .slice (some ⟨b, 0, none⟩) l.length c ∧ B ≤ b ∧ l.length ≤ c ∧ w.heap[b]? = some (.cells cur 5) ∧ cur.toList = l.map u8v ++ List.replicate (c - l.length) (.int .u8 0)
theorem cells_u8 {D : Nat → Prop} {w : World} : ∀ {m : Bts} {xs : List Value}, Cells byteEl D w xs m → xs = m.map u8v
  | [], _, h => h
  | x :: l, _, ⟨cs, ys, h1, h2, h3⟩ => by
    have h2 : cs = [u8v x] := h2
    rw [h1, h2, cells_u8 h3]; rfl
theorem zeroCells_u8 (n : Nat) : (Builtin.zeroCells (Value.int .u8 0).cells n).toList = List.replicate n (.int .u8 0) := by
  refine List.ext_getElem (by simp [Builtin.zeroCells, Value.cells]) fun i h1 h2 => ?_
  simp [Builtin.zeroCells, Value.cells, Nat.mod_one]
section
variable {B : Nat} {w w' : World} {v : Value} {l : Bts}
theorem RowZ.bv (h : RowZ B w v l) : BV (fun b => B ≤ b ∧ b < w.heap.size) w v l := by
  obtain ⟨hl, b, c, cur, rfl, hB, hc, hg, hcur⟩ := h
  refine ⟨_, _, rfl, ⟨hc, fun h => by cases h⟩, hl, fun i hi => ⟨b, 0, [u8v l[i]], rfl, ⟨hB, block_lt hg⟩, fun j hj => ?_, rfl⟩⟩
  obtain rfl : j = 0 := by simpa using hj
  rw [cell_of_row w b _ cur _ (0, 0) hg, ← Array.getElem?_toList, hcur]
  simp [byteEl, hi, List.getElem?_append_left]
theorem RowZ.kept {S : Nat → Prop} (h : RowZ B w v l) (k : Kept S w w') (hS : ∀ b, B ≤ b → b < w.heap.size → ¬ S b) : RowZ B w' v l := by
  obtain ⟨hl, b, c, cur, rfl, hB, hc, hg, hcur⟩ := h
  exact ⟨hl, b, c, cur, rfl, hB, hc, k.obj (hS b hB (block_lt hg)) hg, hcur⟩
theorem RowZ.slice' (h : RowZ B w v l) : ∃ a n c, v = .slice a n c := by
  obtain ⟨_, b, c, cur, rfl, _⟩ := h
  exact ⟨_, _, _, rfl⟩
theorem RowZ.base {B' : Nat} (h : RowZ B w v l) (hB : B' ≤ B) : RowZ B' w v l := by
  obtain ⟨hl, b, c, cur, rfl, hb, hc, hg, hcur⟩ := h
  exact ⟨hl, b, c, cur, rfl, Nat.le_trans hB hb, hc, hg, hcur⟩
theorem RowZ.lit (w : World) : RowZ w.heap.size (w.alloc (.cells #[] 5)) (.slice (some ⟨w.heap.size, 0, none⟩) 0 0) [] :=
  ⟨by simp, w.heap.size, 0, #[], rfl, Nat.le_refl _, Nat.le_refl _, heap_alloc_new w _, rfl⟩
end
section
variable {P : Program} {w : World} {ops : Array Oper} {rest : List Oper} {o : Oper} {a : Act} {Q : Exit → Act → World → Prop}
theorem wp_app_z {K : Act → World → Prop} (s x : Operand) (t : TypeId) (ho : o.op = .call { callee := .builtin .append, args := #[s, x], argTypes := #[t, t] })
    (T : SlT P t 5 1 1 (.int .u8 0)) {D' : Nat → Prop} {B : Nat} (v : Value) (l : Bts) (hs : a.eval s = v) (hown : RowZ B w v l)
    (vx : Value) (m : Bts) (hx : a.eval x = vx) (hm : SV byteEl D' w vx m) (hm1 : m ≠ []) (hroom : ∀ p c, v = .slice p l.length c → l.length + m.length ≤ c → m = [0]) (hbytes : l.length + m.length ≤ 140737488355328) (hbase : B ≤ w.heap.size)
    (h : ∀ v' w', RowZ B w' v' (l ++ m) → Kept Noneof w w' → K (a.put o.dst v') w') : o.wp P a w K Q := by
  obtain ⟨hl, b, c, cur, rfl, hB, hc, hg, hcur⟩ := hown
  obtain ⟨ao, cx, rfl, ⟨hcx, hn⟩, hml, hr⟩ := hm
  obtain ⟨news, h1, h2⟩ := hr.cells
  have hnews := cells_u8 h1
  subst hnews
  obtain ⟨i, hi, hz, hsize, hby, hzs⟩ := T.hi
  have hpos : 0 < m.length := List.length_pos_iff.2 hm1
  obtain ⟨ad, rfl⟩ : ∃ ad, ao = some ad := by
    cases ao with
    | none => have := hn rfl; omega
    | some ad => exact ⟨ad, rfl⟩
  have hcells : ∀ j u, (m.map u8v)[j]? = some u → w.cell? (ad.add j) = some u := fun j u hu => by
    obtain ⟨p, hp, hc'⟩ := h2 j u hu
    obtain rfl := Option.some.inj hp
    exact hc'
  have hcs : cur.size = c := by
    have := congrArg List.length hcur
    simp at this
    omega
  by_cases hr0 : l.length + m.length ≤ c
  · have hm0 := hroom _ _ rfl hr0
    subst hm0
    have hr := run_append_room (P := P) w t o.type 5 i T.ht hi b l.length c cur hg ad 1 cx ([0].map u8v) (by simp [hsize]) hcells h1.one (by simpa using hr0) (by simp at hr0 ⊢; rw [hsize]; omega)
    have hsame : (cur.toList.take (l.length * i.size) ++ [0].map u8v ++ cur.toList.drop (l.length * i.size + ([0].map u8v).length)) = cur.toList := by
      rw [hsize, Nat.mul_one, hcur]
      obtain ⟨n, hn⟩ : ∃ n, c - l.length = n + 1 := ⟨c - l.length - 1, by simp at hr0; omega⟩
      rw [hn, List.replicate_succ, List.take_left' (by simp), List.drop_append]
      simp [u8v]
    rw [hsame] at hr
    have hk : Kept Noneof w (w.setRow b cur.toList.toArray) := ⟨rfl, rfl, rfl, by simp [World.setRow], fun k hk _ => by
      by_cases e : k = b
      · subst e
        rw [setRow_heap w k cur cur.toList.toArray _ _ hg, hg]
      · exact setRow_other w b k _ e⟩
    unfold Oper.wp
    simp only [execOp, ho, resolve, invoke, builtin, Sem.run_bind, Sem.run_pure, Result.andThen_ok, List.map_toArray, List.map_cons, List.map_nil, hs, hx, List.length_cons, List.length_nil, Nat.zero_add, hr]
    refine h _ _ ⟨by simpa using hbytes, b, c, cur, by simp, hB, by simpa using hr0, hk.obj (fun h => h) hg, ?_⟩ hk
    rw [hcur]
    obtain ⟨n, hn⟩ : ∃ n, c - l.length = n + 1 := ⟨c - l.length - 1, by simp at hr0; omega⟩
    have : c - (l ++ [0]).length = n := by simp; omega
    rw [hn, this, List.replicate_succ]
    simp [u8v]
  · have hr := run_append_grow (P := P) w t o.type 5 i (.int .u8 0) T.ht hi hz ⟨b, 0, none⟩ l.length c (l.map u8v) (by simp [hsize]) (fun j u hu => by
      rw [Addr.add_lit, Nat.zero_add, cell_of_row w b _ cur _ (0, 0) hg, ← Array.getElem?_toList, hcur, List.getElem?_append_left (by have := (List.getElem?_eq_some_iff.1 hu).1; exact this)]
      exact hu) ad m.length cx (m.map u8v) (by simp [hsize]) hcells (by omega) (by omega) (growslice_fits (by omega) (by rw [hby]; omega))
    have hge := grownCap_ge w (l.length + m.length) c 5
    unfold Oper.wp
    simp only [execOp, ho, resolve, invoke, builtin, Sem.run_bind, Sem.run_pure, Result.andThen_ok, List.map_toArray, List.map_cons, List.map_nil, hs, hx, hr]
    refine h _ _ ⟨by simpa using hbytes, w.heap.size, _, _, by rw [List.length_append], hbase, by rw [List.length_append]; exact hge, heap_alloc_new w.drew _, ?_⟩ (((Kept.refl _ w).drew).alloc _)
    rw [Array.toList_append, zeroCells_u8]
    simp
theorem wl_app_z (hgd : o.guard = none) (s x : Operand) (t : TypeId) (ho : o.op = .call { callee := .builtin .append, args := #[s, x], argTypes := #[t, t] })
    (T : SlT P t 5 1 1 (.int .u8 0)) {D' : Nat → Prop} {B : Nat} (v : Value) (l : Bts) (hs : a.eval s = v) (hown : RowZ B w v l)
    (vx : Value) (m : Bts) (hx : a.eval x = vx) (hm : SV byteEl D' w vx m) (hm1 : m ≠ []) (hroom : ∀ p c, v = .slice p l.length c → l.length + m.length ≤ c → m = [0]) (hbytes : l.length + m.length ≤ 140737488355328) (hbase : B ≤ w.heap.size)
    (h : ∀ v' w', RowZ B w' v' (l ++ m) → Kept Noneof w w' → wpList P ops Q rest (a.put o.dst v') w') : wpList P ops Q (o :: rest) a w :=
  wpList_plain hgd fun _ hK => wp_app_z s x t ho T v l hs hown vx m hx hm hm1 hroom hbytes hbase fun v' w' k1 k2 => hK _ _ (h v' w' k1 k2)
end
set_option maxHeartbeats 400000 in
theorem byClone_zero {D : Nat → Prop} {v : Value} {l : Bts} {w : World} (h : BV D w v l) (hl : l ≠ []) :
    Calls Try.prog 95 #[v] w fun e w' => ∃ v', e = .returned v' ∧ RowZ w.heap.size w' v' l ∧ Kept Noneof w w' := by
  have HS := Lib.hid h
  have HL := Lib.hid hl
  obtain ⟨a, c, rfl, ⟨hc, hn⟩, m, hr⟩ := h
  have heq := fun (wx : World) => Lib.run_eql_slice_nil (P := Try.prog) wx 31 5 a l.length c 0 0 tBytes.ht
  cases a with
  | none =>
    refine absurd ?_ hl
    cases l with
    | nil => rfl
    | cons x t => obtain ⟨b, o, cs, h1, _⟩ := hr 0 (by simp); cases h1
  | some p =>
    clear hr hn hl
    go_enter Try.func95, Try.ntmps95
    have HR := Lib.hid (show ∀ q d, (.slice (some ⟨w.heap.size, 0, none⟩) 0 0 : Value) = .slice q ([] : Bts).length d → ([] : Bts).length + l.length ≤ d → l = [0] from fun q d h1 h2 => by
      simp only [Value.slice.injEq] at h1
      obtain ⟨_, _, rfl⟩ := h1
      have := List.length_pos_iff.2 HL.out
      simp only [List.length_nil] at h2
      omega)
    have hm : ([] : Bts).length + l.length ≤ 140737488355328 := by simpa using m
    go_wp2_with (at_builtin; refine wl_app_z rfl (.tmp 5) (.tmp 6) _ rfl tBytes _ [] rfl (RowZ.lit w) _ l rfl (HS.out.kept byteEl_k ((Kept.refl Noneof w).alloc _) fun _ _ _ h => h) HL.out HR.out hm (by simp) ?_)
    intro x3 w3 o3 e3
    go_wp2
    obtain ⟨a3, n3, c3, rfl⟩ := o3.slice'
    go_ret
    exact ⟨_, rfl, by simpa using o3, ((Kept.refl Noneof w).alloc _).trans e3 fun b hb => hb.elim⟩
end Go.Proofs.Ytaopjdjbpamhhaa
/- Proved: contracts of swap's span.has and span.parts. Conditions: bytes in memory. -/
namespace Go.Proofs.Ytaopjdjbpamhhaa
open Go Go.RowKit
set_option linter.unusedVariables false
set_option linter.unusedSimpArgs false

set_option maxHeartbeats 1000000 in
theorem swspan_has_calls {D1 D2 D3 : Nat → Prop} {lo hi kv : Value} {low high key : Bts} {bd : Bool} {w : World} (h1 : BV D1 w lo low) (h2 : BV D2 w hi high) (h3 : BV D3 w kv key) :
    Calls Try.prog 162 #[.agg #[lo, hi, .bool bd], kv] w fun e w' => e = .returned (.bool (inS low true high bd (key, []))) ∧ Kept Noneof w w' := by
  have H1 := Lib.hid h1
  have H2 := Lib.hid h2
  have H3 := Lib.hid h3
  obtain ⟨a1, c1, rfl, _⟩ := h1
  obtain ⟨a2, c2, rfl, _⟩ := h2
  obtain ⟨a3, c3, rfl, _⟩ := h3
  have e1 : decide (0 ≤ cmpS key low) = !decide (cmpB key low < 0) := by
    by_cases h : cmpB key low < 0
    · have := cmpS_lt h; simp [h]; omega
    · have := cmpS_ge h; simp [h, this]
  have e2 : decide (cmpS key high < 0) = decide (cmpB key high < 0) := by
    by_cases h : cmpB key high < 0
    · have := cmpS_lt h; simp [h, this]
    · have := cmpS_ge h; simp [h]; omega
  have E1 := Lib.hid e1
  have E2 := Lib.hid e2
  clear e1 e2
  go_enter Try.func162, Try.ntmps162
  go_wp2_with fail
  have G1 := heap_alloc_new w (.cells #[.slice a1 low.length c1, .slice a2 high.length c2, .bool bd] 170)
  have K1 := Lib.hid ((Kept.refl Noneof w).alloc (.cells #[.slice a1 low.length c1, .slice a2 high.length c2, .bool bd] 170))
  generalize w.alloc (.cells #[.slice a1 low.length c1, .slice a2 high.length c2, .bool bd] 170) = w1 at *
  have d1 : w1.cell? ⟨w.heap.size, 1, none⟩ = some (.slice a2 high.length c2) := by simp [World.cell?, G1]
  have d2 : w1.cell? ⟨w.heap.size, 2, none⟩ = some (.bool bd) := by simp [World.cell?, G1]
  clear G1
  refine (byCompare_calls (H3.out.kept byteEl_k K1.out fun _ _ _ h => h) (H1.out.kept byteEl_k K1.out fun _ _ _ h => h)).mono ?_
  rintro e w2 ⟨rfl, rfl⟩
  by_cases hc : cmpB key low < 0
  · have t1 : decide (0 ≤ cmpS key low) = false := by rw [E1.out]; simp [hc]
    go_wp2
    go_ret
    exact ⟨by simp [inS, hc], K1.out⟩
  · have t1 : decide (0 ≤ cmpS key low) = true := by rw [E1.out]; simp [hc]
    cases bd with
    | false =>
      go_wp2
      go_ret
      exact ⟨by simp [inS, hc], K1.out⟩
    | true =>
      go_wp2_with fail
      refine (byCompare_calls (H3.out.kept byteEl_k K1.out fun _ _ _ h => h) (H2.out.kept byteEl_k K1.out fun _ _ _ h => h)).mono ?_
      rintro e w2 ⟨rfl, rfl⟩
      have t2 := E2.out
      go_wp2
      go_ret
      exact ⟨by simp [inS, hc], K1.out⟩

end Go.Proofs.Ytaopjdjbpamhhaa
/- Proved: contract of swap's span.parts. Conditions: bytes in memory. -/
namespace Go.Proofs.Ytaopjdjbpamhhaa
open Go Go.RowKit
set_option linter.unusedVariables false
set_option linter.unusedSimpArgs false

theorem SeqL.act0 {P : Program} {ops : Array Oper} {Ext : World → World → Prop} {w0 : World} {K : Nat → Kd} {Fin : Act → Prop} {k : Nat} {o : Oper} {rest : List Oper} {a : Act} {Φ : World → Prop} (hK : K k = .act (fun _ => True) (fun _ w => Φ w)) (hd : o.dst = none) (hw : Region.wanted o (yielded ops a.tmps) = true)
    (h : ∀ w, Ext w0 w → (∀ j, j < k → waits ops k j = true → Held ops Ext w0 K j a w) → ∀ K' : Act → World → Prop, Hid (∀ w', Ext w w' → Φ w' → K' a w') → o.wp P a w K' (fun _ _ _ => False))
    (hn : SeqL P ops Ext w0 K Fin (k + 1) rest a) : SeqL P ops Ext w0 K Fin k (o :: rest) a := by
  refine ⟨fun _ => True, ?_, fun u _ => by rw [hd]; exact hn⟩
  unfold Spec
  rw [if_pos hw, hK]
  exact ⟨⟨undef, trivial⟩, rfl, fun w hc => (Res.of0 (R := fun w' => Ext w w' ∧ Φ w') hd (h w hc.1 hc.2 _ (fun w' hx hΦ => ⟨rfl, hx, hΦ⟩))).mono fun u w' h => ⟨trivial, h.1, h.2⟩⟩
theorem results_cell_row2 {P : Program} {fn : Func} {p q : Tmp} {ty : TypeId} (h : fn.results = #[.cell p ty, .cell q ty]) (tmps : Array Value) (w : World) (g g' : Nat) (t t' : TypeId) (cs cs' : Array Value) (fr fr' : Nat × Nat) (d : TypeDesc)
    (hp : tmps.getD p undef = .pointer (some ⟨g, 0, none⟩)) (hg : w.heap[g]? = some (.cells cs t fr)) (hq : tmps.getD q undef = .pointer (some ⟨g', 0, none⟩)) (hg' : w.heap[g']? = some (.cells cs' t' fr'))
    (hu : P.underlying ty = some d) (hd : (match d with | .struct _ | .array _ _ => true | _ => false) = true) (hi : (P.info? ty).map (·.size) = some cs.size) (hi' : (P.info? ty).map (·.size) = some cs'.size) :
    (results fn tmps).run P w = .ok (.tuple #[.agg cs, .agg cs']) w := by
  have hp' : tmps[p]?.getD undef = .pointer (some ⟨g, 0, none⟩) := by simpa using hp
  have hq' : tmps[q]?.getD undef = .pointer (some ⟨g', 0, none⟩) := by simpa using hq
  simp [results, h, hp', hq', asAddr, Sem.run_bind, Result.andThen, run_loadVar_row w g t ty cs fr d hg hu hd hi, run_loadVar_row w g' t' ty cs' fr' d hg' hu hd hi']

/-- Only one block changes, once, to an object. -/
def OnceTo (b : Nat) (o : Obj) (A B : World) : Prop := Kept (fun x => x = b) A B ∧ (B.heap[b]? = A.heap[b]? ∨ B.heap[b]? = some o)
theorem OnceTo.refl (b : Nat) (o : Obj) (A : World) : OnceTo b o A A := ⟨Kept.refl _ _, .inl rfl⟩
theorem OnceTo.trans {b : Nat} {o : Obj} {A B C : World} (h : OnceTo b o A B) (k : OnceTo b o B C) : OnceTo b o A C :=
  ⟨h.1.tr k.1, by
    rcases k.2 with e | e
    · rcases h.2 with f | f
      · exact .inl (e.trans f)
      · exact .inr (e.trans f)
    · exact .inr e⟩
theorem OnceTo.of {b : Nat} {o : Obj} {A B : World} (hb : b < A.heap.size) (h : Kept Noneof A B) : OnceTo b o A B := ⟨h.mono fun _ h => h.elim, .inl (h.block b hb fun h => h)⟩

theorem bv_zero {B g : Nat} {w : World} {t : TypeId} (h : w.heap[g]? = some (.cells #[.int .u8 0] t)) (hB : B ≤ g) : BV (fun b => B ≤ b) w (.slice (some ⟨g, 0, none⟩) 1 1) [0] := by
  refine ⟨_, _, rfl, ⟨by simp, fun h => by cases h⟩, by simp, fun i hi => ?_⟩
  obtain rfl : i = 0 := by simpa using hi
  refine ⟨g, 0, [.int .u8 0], rfl, hB, fun j hj => ?_, rfl⟩
  obtain rfl : j = 0 := by simpa using hj
  simp [World.cell?, h, byteEl]

set_option maxRecDepth 100000 in
set_option maxHeartbeats 2000000 in
theorem swspan_parts_calls {D1 D2 D3 : Nat → Prop} {lo hi kv : Value} {low high key : Bts} {bd : Bool} {w : World} (h1 : BV D1 w lo low) (h2 : BV D2 w hi high) (h3 : BV D3 w kv key) (hk : 1 ≤ key.length ∧ key.length ≤ 1000) :
    Calls Try.prog 120 #[.agg #[lo, hi, .bool bd], kv] w fun e w' => ∃ nv, e = .returned (.tuple #[.agg #[lo, kv, .bool true], .agg #[nv, hi, .bool bd]]) ∧ BV (fun b => w.heap.size ≤ b) w' nv (key ++ [0]) ∧ Kept Noneof w w' := by
  have H3 := Lib.hid h3
  have HK := Lib.hid hk
  obtain ⟨a1, c1, rfl, _⟩ := h1
  obtain ⟨a2, c2, rfl, _⟩ := h2
  obtain ⟨a3, c3, rfl, _⟩ := h3
  clear hk
  go_enter Try.func120, Try.ntmps120
  go_wp2_with fail
  have G0 := heap_alloc_new w (.cells #[.slice a1 low.length c1, .slice a2 high.length c2, .bool bd] 170)
  have K0 := (Kept.refl Noneof w).alloc (.cells #[.slice a1 low.length c1, .slice a2 high.length c2, .bool bd] 170)
  have s0 : (w.alloc (.cells #[.slice a1 low.length c1, .slice a2 high.length c2, .bool bd] 170)).heap.size = w.heap.size + 1 := by simp
  generalize w.alloc (.cells #[.slice a1 low.length c1, .slice a2 high.length c2, .bool bd] 170) = wa at *
  have G4 := heap_alloc_new wa (.cells #[.slice none 0 0, .slice none 0 0, .bool false] 170)
  have K4 := (Kept.refl Noneof wa).alloc (.cells #[.slice none 0 0, .slice none 0 0, .bool false] 170)
  have s4 : (wa.alloc (.cells #[.slice none 0 0, .slice none 0 0, .bool false] 170)).heap.size = w.heap.size + 2 := by simp [s0]
  generalize wa.alloc (.cells #[.slice none 0 0, .slice none 0 0, .bool false] 170) = wb at *
  have G5 := heap_alloc_new wb (.cells #[.slice none 0 0, .slice none 0 0, .bool false] 170)
  have K5 := (Kept.refl Noneof wb).alloc (.cells #[.slice none 0 0, .slice none 0 0, .bool false] 170)
  have s5 : (wb.alloc (.cells #[.slice none 0 0, .slice none 0 0, .bool false] 170)).heap.size = w.heap.size + 3 := by simp [s4]
  generalize wb.alloc (.cells #[.slice none 0 0, .slice none 0 0, .bool false] 170) = w1 at *
  have G0 := Lib.hid (K5.obj (fun h => h) (K4.obj (fun h => h) G0))
  have G4 := Lib.hid (K5.obj (fun h => h) G4)
  have G5 := Lib.hid G5
  have K1 := Lib.hid ((K0.trans K4 fun _ h => h.elim).trans K5 fun _ h => h.elim)
  have e0 : wa.heap.size = w.heap.size + 1 := s0
  have e4 : wb.heap.size = w.heap.size + 2 := s4
  rw [e0] at G4
  rw [e4] at G5
  clear K0 K4 K5 s0 s4 e0 e4
  obtain ⟨F4, hF4⟩ : ∃ F4 : Obj, F4 = .cells #[.slice a1 low.length c1, .slice a3 key.length c3, .bool true] 170 := ⟨_, rfl⟩
  refine wp_region_grow 14 [(5, .act IsSlice fun u wx => RowZ w1.heap.size wx u key), (6, .act IsSlice fun u wx => BV (fun b => w1.heap.size ≤ b) wx u [0]), (7, .act IsSlice fun u wx => RowZ w1.heap.size wx u (key ++ [0])), (13, .act (fun _ => True) fun _ wx => wx.heap[w.heap.size + 1]? = some F4)] (OnceTo (w.heap.size + 1) F4) (OnceTo.refl _ _) OnceTo.trans (OnceTo.of (by omega) (Kept.drew1 _ _)) (by kernel_rfl) (by kernel_rfl) (by kernel_rfl) ?_
  simp only [List.take_succ_cons, List.take_zero, List.drop_succ_cons, List.drop_zero]
  have hS : ∀ w', OnceTo (w.heap.size + 1) F4 w1 w' → w'.cell? ⟨w.heap.size, 0, none⟩ = some (.slice a1 low.length c1) ∧ w'.cell? ⟨w.heap.size, 1, none⟩ = some (.slice a2 high.length c2) ∧ w'.cell? ⟨w.heap.size, 2, none⟩ = some (.bool bd) := fun w' k => by
    have := k.1.obj (p := w.heap.size) (by omega) G0.out
    simp [World.cell?, this]
  iterate 5 (refine SeqL.val (v := ?_) hS rfl (by rfl) (fun wx hSw => ?_) ?_; rotate_left; (focus ((try dsimp only at hSw); go_simp; (try with_reducible rfl))); (try simp only [Act.put, List.setIfInBounds_toArray, List.set_cons_zero, List.set_cons_succ]))
  refine SeqL.act rfl rfl (by rfl) (by rfl) isSlice (fun wx hx hh K hK => ?_) (fun u1 hu1 => ?_)
  · go_simp
    refine (byClone_zero (H3.out.kept byteEl_k (K1.out.trans (T := fun b => b = w.heap.size + 1) hx.1 fun b h => .inr (by omega)) fun _ _ _ h => h) (fun e => by have := HK.out; rw [e] at this; simp at this)).mono ?_
    rintro e w2 ⟨v', rfl, o1, k1⟩
    exact hK.out v' w2 o1.slice' (OnceTo.of (by have := hx.1.size; omega) k1) (o1.base hx.1.size)
  obtain ⟨b1, n1', c1', rfl⟩ := hu1
  (try simp only [Act.put, List.setIfInBounds_toArray, List.set_cons_zero, List.set_cons_succ])
  refine SeqL.act rfl rfl (by rfl) (by rfl) isSlice (fun wx hx hh K hK => ?_) (fun u1 hu1 => ?_)
  · go_simp
    have gz := heap_alloc_new wx (.cells #[.int .u8 0] 5)
    refine hK.out _ _ ⟨_, _, _, rfl⟩ (OnceTo.of (by have := hx.1.size; omega) ((Kept.refl _ _).alloc _)) (bv_zero gz hx.1.size)
  obtain ⟨b2, n2', c2', rfl⟩ := hu1
  (try simp only [Act.put, List.setIfInBounds_toArray, List.set_cons_zero, List.set_cons_succ])
  refine SeqL.act rfl rfl (by rfl) (by rfl) isSlice (fun wx hx hh K hK => ?_) (fun u1 hu1 => ?_)
  · obtain ⟨wy, _, o5, hxy⟩ := hh 5 (by decide) (by kernel_rfl) _ _ _ rfl rfl
    obtain ⟨wz, _, o6, hxz⟩ := hh 6 (by decide) (by kernel_rfl) _ _ _ rfl rfl
    refine wp_app_z (.tmp 11) (.tmp 12) _ rfl tBytes _ key rfl (RowZ.kept o5 hxy.1 fun b h1 _ h2 => by omega) _ [0] rfl (SV.kept byteEl_k o6 hxz.1 fun b h1 _ h2 => by have : w1.heap.size ≤ b := h1; omega) (by simp) (fun _ _ _ _ => rfl) (by have := HK.out; simp; omega) hx.1.size ?_
    rintro v' w' o4 k4
    exact hK.out _ _ o4.slice' (OnceTo.of (by have := hx.1.size; omega) k4) o4
  obtain ⟨b4, n4', c4', rfl⟩ := hu1
  (try simp only [Act.put, List.setIfInBounds_toArray, List.set_cons_zero, List.set_cons_succ])
  iterate 5 (refine SeqL.val (v := ?_) hS rfl (by rfl) (fun wx hSw => ?_) ?_; rotate_left; (focus ((try dsimp only at hSw); go_simp; (try with_reducible rfl))); (try simp only [Act.put, List.setIfInBounds_toArray, List.set_cons_zero, List.set_cons_succ]))
  refine SeqL.act0 rfl rfl (by rfl) (fun wx hx hh K hK => ?_) ?_
  · have G : ∃ x0 x1 x2, wx.heap[w.heap.size + 1]? = some (.cells #[x0, x1, x2] 170) := by
      rcases hx.2 with e | e
      · exact ⟨_, _, _, e.trans G4.out⟩
      · exact ⟨_, _, _, by rw [e, hF4]⟩
    obtain ⟨x0, x1, x2, G⟩ := G
    have f0 : wx.cell? ⟨w.heap.size + 1, 0, none⟩ = some x0 := by simp [World.cell?, G]
    have f1 : wx.cell? ⟨w.heap.size + 1, 1, none⟩ = some x1 := by simp [World.cell?, G]
    have f2 : wx.cell? ⟨w.heap.size + 1, 2, none⟩ = some x2 := by simp [World.cell?, G]
    have ff : ∀ j, wx.frozen? ⟨w.heap.size + 1, j, none⟩ = false := fun j => by simp [World.frozen?, G]
    go_simp
    have GF := setCell_obj (setCell_obj (setCell_obj G (.slice a1 low.length c1) (j := 0)) (.slice a3 key.length c3) (j := 1)) (.bool true) (j := 2)
    have KF := (((Kept.refl (fun x => x = w.heap.size + 1) wx).setCell (p := ⟨w.heap.size + 1, 0, none⟩) (.inl rfl) (.slice a1 low.length c1)).setCell (p := ⟨w.heap.size + 1, 1, none⟩) (.inl rfl) (.slice a3 key.length c3)).setCell (p := ⟨w.heap.size + 1, 2, none⟩) (.inl rfl) (.bool true)
    refine hK.out _ ⟨KF, .inr ?_⟩ ?_
    · rw [hF4]; exact GF
    · rw [hF4]; exact GF
  refine SeqL.nil fun wz hz hh => ?_
  obtain ⟨wa, _, oa, ka⟩ := hh 7 (by decide) _ _ _ rfl rfl
  obtain ⟨wb, _, ob, kb⟩ := hh 13 (by decide) _ _ _ rfl rfl
  have GZ := Lib.hid (show wz.heap[w.heap.size + 1]? = some (.cells #[.slice a1 low.length c1, .slice a3 key.length c3, .bool true] 170) by
    rcases kb.2 with e | e
    · rw [e, ← hF4]; exact ob
    · rw [e, hF4])
  have OA := Lib.hid (show RowZ w1.heap.size wz (.slice b4 n4' c4') (key ++ [0]) from RowZ.kept oa ka.1 fun b h1 _ h2 => by omega)
  have G5z := Lib.hid (hz.1.obj (p := w.heap.size + 2) (by omega) G5.out)
  have KZ := Lib.hid (K1.out.trans (T := fun b => b = w.heap.size + 1) hz.1 fun b h => .inr (by omega))
  clear hh hS oa ob ka kb hz
  have f0 : wz.cell? ⟨w.heap.size + 2, 0, none⟩ = some (.slice none 0 0) := by simp [World.cell?, G5z.out]
  have f1 : wz.cell? ⟨w.heap.size + 2, 1, none⟩ = some (.slice none 0 0) := by simp [World.cell?, G5z.out]
  have f2 : wz.cell? ⟨w.heap.size + 2, 2, none⟩ = some (.bool false) := by simp [World.cell?, G5z.out]
  have ff : ∀ j, wz.frozen? ⟨w.heap.size + 2, j, none⟩ = false := fun j => by simp [World.frozen?, G5z.out]
  go_wp2
  have KS := (((Kept.refl (fun x => x = w.heap.size + 2) wz).setCell (p := ⟨w.heap.size + 2, 0, none⟩) (.inl rfl) (.slice b4 n4' c4')).setCell (p := ⟨w.heap.size + 2, 1, none⟩) (.inl rfl) (.slice a2 high.length c2)).setCell (p := ⟨w.heap.size + 2, 2, none⟩) (.inl rfl) (.bool bd)
  have GF := setCell_obj (setCell_obj (setCell_obj G5z.out (.slice b4 n4' c4') (j := 0)) (.slice a2 high.length c2) (j := 1)) (.bool bd) (j := 2)
  have GZ' := KS.obj (p := w.heap.size + 1) (by omega) GZ.out
  generalize ((wz.setCell ⟨w.heap.size + 2, 0, none⟩ (.slice b4 n4' c4')).setCell ⟨w.heap.size + 2, 1, none⟩ (.slice a2 high.length c2)).setCell ⟨w.heap.size + 2, 2, none⟩ (.bool bd) = wf at *
  refine bodyPost_ret (results_cell_row2 rfl _ _ (w.heap.size + 1) (w.heap.size + 2) _ _ _ _ (0, 0) (0, 0) _ rfl GZ' rfl GF Try.underlying170 rfl (by kernel_rfl) (by kernel_rfl)) rfl ?_
  exact ⟨_, rfl, ((OA.out.bv).kept byteEl_k KS fun b h _ e => by have : w1.heap.size ≤ b := h.1; omega).wide byteEl_k fun b h _ => by omega, KZ.out.trans KS fun b h => .inr (by omega)⟩
end Go.Proofs.Ytaopjdjbpamhhaa
/- Proved: contract of swap's keys. Conditions: a map in memory. -/
namespace Go.Proofs.Ytaopjdjbpamhhaa
open Go Go.RowKit Go.Shelf
set_option linter.unusedVariables false
set_option linter.unusedSimpArgs false
attribute [local go_sem] Oper.semAt_some

/-- The keys of a span. -/
def spanKeys (l : List (Bts × Bts)) (low high : Bts) (bd : Bool) : List Bts := (l.filter (inS low true high bd)).map (·.1)

theorem wpIn_app {F : Fence} {n : Nat} {P : Program} {w : World} {o : Oper} {a : Act} {Q : Exit → Act → World → Prop} {K : Act → World → Prop} (s x : Operand) (t : TypeId) (ho : o.op = .call { callee := .builtin .append, args := #[s, x], argTypes := #[t, t] })
    (h : o.wp P a w K (fun _ _ _ => False)) : o.wpIn F n P a w K Q := by
  unfold Oper.wp at h
  unfold Oper.wpIn
  refine ⟨by simp [Oper.about, ho, resolve, Target.leads, Sem.run_pure], ?_⟩
  rw [Oper.semAt_plain F _ _ (by rw [ho]; intro c hc'; cases hc')]
  simp only [execOp, ho, resolve, invoke, builtin, Sem.run_bind, Sem.run_pure, Result.andThen_ok, List.map_toArray, List.map_cons, List.map_nil] at h ⊢
  generalize (Builtin.append_ #[t, t] o.type #[a.eval s, a.eval x]).run P w = r at *
  cases r with
  | ok v w' => exact h
  | halt e w' => cases e <;> exact h.elim
theorem spanKeys_snoc (l : List (Bts × Bts)) (p : Bts × Bts) (low high : Bts) (bd : Bool) : spanKeys (l ++ [p]) low high bd = if inS low true high bd (p.1, []) = true then spanKeys l low high bd ++ [p.1] else spanKeys l low high bd := by
  have e : inS low true high bd p = inS low true high bd (p.1, []) := rfl
  unfold spanKeys
  rw [List.filter_append, List.map_append, ← e]
  cases h : inS low true high bd p <;> simp [h]

theorem spanKeys_prefix {L : List (Bts × Bts)} {pre : List AllE} {x : AllE} {low high : Bts} (hs : Srt L) (hp : (pre ++ [x]).map (fun x => x.2.2) <+: L) (hx : ¬ cmpB x.2.2.1 high < 0) : spanKeys ((pre ++ [x]).map (fun x => x.2.2)) low high true = spanKeys L low high true := by
  obtain ⟨r, rfl⟩ := hp
  have h0 : r.filter (inS low true high true) = [] := by
    refine List.filter_eq_nil_iff.2 fun p hp => ?_
    have h1 : cmpB x.2.2.1 p.1 < 0 := (List.pairwise_append.1 hs).2.2 x.2.2 (by simp) p hp
    have : ¬ cmpB p.1 high < 0 := fun e => hx (cmpB_trans h1 e)
    simp [inS, this]
  unfold spanKeys
  rw [List.filter_append, h0, List.append_nil]

set_option maxRecDepth 100000 in
set_option maxHeartbeats 4000000 in
theorem swkeys_calls {seed : Int} {w : World} {m : Nat} {t : Tr} {F D1 D2 : Nat → Prop} {lo hi : Value} {low high : Bts} {bd : Bool} (h : MapAt seed w m t F) (hs : t.size ≤ 1000000) (hg : Srt t.pairs) (h1 : BV D1 w lo low) (h2 : BV D2 w hi high) :
    Calls Try.prog 119 #[.pointer (some ⟨m, 0, none⟩), .agg #[lo, hi, .bool bd]] w fun e w' => ∃ v', e = .returned v' ∧ Own 31 bytesEl (fun b => w.heap.size ≤ b) w.heap.size w' v' (spanKeys t.pairs low high bd) ∧ Kept Noneof w w' := by
  have H := Lib.hid h
  have H1 := Lib.hid h1
  have H2 := Lib.hid h2
  have HG := Lib.hid hg
  have SZ := Lib.hid hs
  obtain ⟨a1, c1, rfl, _⟩ := h1
  obtain ⟨a2, c2, rfl, _⟩ := h2
  clear h hs hg
  refine (callsIn_wide (n := 9)).1 ?_
  refine callsIn_of_wp_marks Try.func119 rfl trivial ?_ rfl
  simp only [Try.ntmps119, List.size_toArray, List.length_cons, List.length_nil, Nat.reduceAdd, Nat.reduceSub, Array.replicate_succ, Array.replicate_zero, List.push_toArray, List.append_toArray, List.nil_append, List.cons_append]
  gi_wp2
  have G0 := heap_alloc_new w (.cells #[.slice a1 low.length c1, .slice a2 high.length c2, .bool bd] 170)
  have K0 := (Kept.refl Noneof w).alloc (.cells #[.slice a1 low.length c1, .slice a2 high.length c2, .bool bd] 170)
  have s0 : (w.alloc (.cells #[.slice a1 low.length c1, .slice a2 high.length c2, .bool bd] 170)).heap.size = w.heap.size + 1 := by simp
  generalize w.alloc (.cells #[.slice a1 low.length c1, .slice a2 high.length c2, .bool bd] 170) = wa at *
  have G1 := heap_alloc_new wa (.cells #[.slice none 0 0] 51)
  have K1 := (Kept.refl Noneof wa).alloc (.cells #[.slice none 0 0] 51)
  have s1 : (wa.alloc (.cells #[.slice none 0 0] 51)).heap.size = w.heap.size + 2 := by simp [s0]
  generalize wa.alloc (.cells #[.slice none 0 0] 51) = wb at *
  rw [s0] at G1
  have G0 := K1.obj (fun h => h) G0
  refine ⟨trivial, callsIn_wide.2 ((orAll_calls (m := m)).mono ?_)⟩
  rintro e w3 ⟨rfl, b3, k3, z3⟩
  rw [s1] at b3 z3
  have G0 := Lib.hid (k3.obj (fun h => h) G0)
  have G1 := Lib.hid (k3.obj (fun h => h) G1)
  have K3 := Lib.hid ((K0.trans K1 fun _ h => h.elim).trans k3 fun _ h => h.elim)
  have B3 := Lib.hid b3
  have Z3 := Lib.hid z3
  have s1' : wb.heap.size = w.heap.size + 2 := s1
  clear K0 K1 k3 b3 z3 s0
  gi_wp2
  refine range_rel (by decide) (gf := 186) (lb := #[.pointer (some ⟨w.heap.size + 2, 0, none⟩)]) (by simp [Act.eval, s1']) (enters_of Try.func186 (by kernel_rfl) rfl) (encs := fun x : AllE => #[x.1, x.2.1]) (fun _ => rfl)
    (fun W k hsz => orAll_1_iter ((H.out.kept (K3.out) fun _ _ h => h).kept k fun _ _ h => h) SZ.out (k.cell (fun h => h) B3.out) hsz Z3.out)
    (fun N pre W => (∃ v, W.heap[w.heap.size + 1]? = some (.cells #[v] 51) ∧ Own 31 bytesEl (fun b => w3.heap.size + 2 ≤ b ∧ b < N) N W v (spanKeys (pre.map (fun x => x.2.2)) low high bd)) ∧ Kept (fun b => b = w.heap.size + 1) w3 W ∧ N ≤ W.heap.size)
    (fun N pre W => ((∃ v, W.heap[w.heap.size + 1]? = some (.cells #[v] 51) ∧ Own 31 bytesEl (fun b => w3.heap.size + 2 ≤ b ∧ b < N) N W v (spanKeys (pre.map (fun x => x.2.2)) low high bd)) ∧ Kept (fun b => b = w.heap.size + 1) w3 W ∧ N ≤ W.heap.size) ∧ ∃ pre' x, pre = pre' ++ [x] ∧ bd = true ∧ ¬ cmpB x.2.2.1 high < 0)
    ?hI ?hIx ?hRx ?h0 (fun x => { tmps := #[.pointer (some ⟨m, 0, none⟩), .agg #[.slice a1 low.length c1, .slice a2 high.length c2, .bool bd], undef, .pointer (some ⟨w.heap.size, 0, none⟩), .slice none 0 0, .pointer (some ⟨w.heap.size + 1, 0, none⟩), x.1, .pointer (some ⟨m, 0, none⟩), .func (.func 186) #[] #[.pointer (some ⟨w.heap.size + 2, 0, none⟩)], x.1, x.2.1, undef, undef, undef, undef, undef, undef, undef, undef, undef, undef, undef, undef, undef, undef, undef, undef, undef], defers := [] }) ?assign ?body ?done ?stop
  case hI =>
    rintro N pre W W' hN ⟨⟨v, ho, hown⟩, kW, hNW⟩ k
    have ks := k.size
    have z := Z3.out
    have lo := hown.lt
    exact ⟨⟨v, k.obj (by omega) ho, hown.kept k fun b hb _ => ⟨fun hd => by omega, fun e => by have := (lo b e).1; omega⟩⟩, kW.trans k fun n h => .inr (by omega), by omega⟩
  case hIx =>
    rintro N pre W W' hN ⟨⟨⟨v, ho, hown⟩, kW, hNW⟩, hx⟩ k
    have ks := k.size
    have z := Z3.out
    have lo := hown.lt
    exact ⟨⟨⟨v, k.obj (by omega) ho, hown.kept k fun b hb _ => ⟨fun hd => by omega, fun e => by have := (lo b e).1; omega⟩⟩, kW.trans k fun n h => .inr (by omega), by omega⟩, hx⟩
  case hRx =>
    rintro N x W W' hN ⟨h1, h2⟩ k
    exact ⟨h1.kept byteEl_k k fun b hb _ e => by omega, h2.kept byteEl_k k fun b hb _ e => by omega⟩
  case h0 =>
    intro W k hs
    exact ⟨⟨_, k.obj (fun h => h) G1.out, Own.nil _ _ _ _ _⟩, k.mono (fun _ h => h.elim), Nat.le_refl _⟩
  case assign =>
    intro x W K hK
    gi_wp2
    exact hK
  case body =>
    rintro N pre ⟨kv, vv, key, val⟩ W hN hM ⟨⟨v, ho, hown⟩, kW, hNW⟩ ⟨hx1, hx2⟩
    have hx1 : BV (fun b => w3.heap.size + 2 ≤ b ∧ b < N) W kv key := hx1
    have HX := Lib.hid hx1
    obtain ⟨a3, c3, rfl, _⟩ := hx1
    dsimp only
    have OW := Lib.hid hown
    obtain ⟨a4, n4, c4, rfl⟩ := hown.slice'
    have HO := Lib.hid ho
    have KW := Lib.hid kW
    clear hx2 hown
    have d0 : W.cell? ⟨w.heap.size, 0, none⟩ = some (.slice a1 low.length c1) := by have := kW.obj (p := w.heap.size) (by omega) G0.out; simp [World.cell?, this]
    have d1 : W.cell? ⟨w.heap.size, 1, none⟩ = some (.slice a2 high.length c2) := by have := kW.obj (p := w.heap.size) (by omega) G0.out; simp [World.cell?, this]
    have d2 : W.cell? ⟨w.heap.size, 2, none⟩ = some (.bool bd) := by have := kW.obj (p := w.heap.size) (by omega) G0.out; simp [World.cell?, this]
    have g0 : W.cell? ⟨w.heap.size + 1, 0, none⟩ = some (.slice a4 n4 c4) := by simp [World.cell?, ho]
    clear ho kW
    have KZ := Lib.hid (K3.out.trans KW.out fun n h => .inr (by have := Z3.out; omega))
    cases bd with
    | false =>
      gi_wp2
      refine ⟨trivial, ?_⟩
      gi_wp2
      (
      refine ⟨trivial, CallsIn.inRound _ (callsIn_wide.2 ((swspan_has_calls (H1.out.kept byteEl_k KZ.out fun _ _ _ h => h) (H2.out.kept byteEl_k KZ.out fun _ _ _ h => h) HX.out).mono ?_))⟩
      rintro e W2 ⟨rfl, k2⟩
      have O2 := Lib.hid (OW.out.kept k2 fun _ h => h.elim)
      have HO2 := Lib.hid (k2.obj (fun h => h) HO.out)
      have X2 := Lib.hid (HX.out.kept byteEl_k k2 fun _ _ _ h => h)
      have KW2 := Lib.hid (KW.out.trans k2 fun _ h => h.elim)
      have hgo := spanKeys_snoc (pre.map (fun x => x.2.2)) (key, val) low high false
      have hmap : (pre ++ [((Value.slice a3 key.length c3, vv, key, val) : AllE)]).map (fun x => x.2.2) = pre.map (fun x => x.2.2) ++ [(key, val)] := by simp
      have z := Z3.out
      cases hin : inS low true high false (key, [])
      · rw [hin, if_neg (by decide)] at hgo
        gi_wp2
        exact ⟨k2.mono fun _ h => h.elim, ⟨_, HO2.out, by rw [hmap, hgo]; exact O2.out⟩, KW2.out, by have := k2.size; omega⟩
      · rw [hin, if_pos rfl] at hgo
        have g2 : W2.cell? ⟨w.heap.size + 1, 0, none⟩ = some (.slice a4 n4 c4) := by simp [World.cell?, HO2.out]
        have gA : ∀ o, (W2.alloc o).cell? ⟨w.heap.size + 1, 0, none⟩ = some (.slice a4 n4 c4) := fun o => ((Kept.refl Noneof W2).alloc o).cell (p := ⟨w.heap.size + 1, 0, none⟩) (fun h => h) g2
        have hlen : (spanKeys (pre.map (fun x => x.2.2)) low high false).length ≤ pre.length := by
          unfold spanKeys
          rw [List.length_map]
          exact Nat.le_trans (List.length_filter_le _ _) (by simp)
        have G3 := heap_alloc_new W2 (.cells #[.slice a3 key.length c3] 31)
        have k3 := (Kept.refl Noneof W2).alloc (.cells #[.slice a3 key.length c3] 31)
        have O3 := Lib.hid (O2.out.kept k3 fun _ h => h.elim)
        have X3 := Lib.hid (X2.out.kept byteEl_k k3 fun _ _ _ h => h)
        have HO3 := Lib.hid (k3.obj (fun h => h) HO2.out)
        have lo := Lib.hid O3.out.lt
        have hsz : N ≤ W2.heap.size := by have := k2.size; omega
        have hb : (spanKeys (pre.map (fun x => x.2.2)) low high false).length + 1 ≤ 2000000 := by have := SZ.out; have := Tr.pairs_len t; omega
        have HB := Lib.hid hb
        gi_wp2_with (gi_at_builtin; refine wpListIn_plain rfl fun K hK => wpIn_app (.tmp 23) (.tmp 25) _ rfl (wp_app_one (E := bytesEl) (.tmp 23) (.tmp 25) _ rfl tRows (D' := fun b => w3.heap.size + 2 ≤ b ∧ b < N) (.slice a4 n4 c4) _ rfl O3.out W2.heap.size [.slice a3 key.length c3] key rfl ⟨_, _, G3⟩ ⟨_, rfl, X3.out⟩ (fun x h _ => ⟨h, fun e => by have := (lo.out x e).1; omega⟩) (by omega) (by decide) (by simp; omega) ?_))
        rintro v4 w4 o4 k4 _
        obtain ⟨a5, n5, c5, rfl⟩ := o4.slice'
        refine hK _ _ ?_
        have ne : ¬ (.slice a4 n4 c4 : Value).ownBlock = some (w.heap.size + 1) := fun e => by have := (lo.out _ e).1; omega
        have h4 := k4.obj (p := w.heap.size + 1) ne HO3.out
        have g4 : w4.cell? ⟨w.heap.size + 1, 0, none⟩ = some (.slice a4 n4 c4) := by simp [World.cell?, h4]
        have f4 : w4.frozen? ⟨w.heap.size + 1, 0, none⟩ = false := by simp [World.frozen?, h4]
        have lo4 := Lib.hid lo.out
        have s4 := k4.size
        clear hK
        gi_wp2
        have kS := (Kept.refl (fun b => b = w.heap.size + 1) w4).setCell (p := ⟨w.heap.size + 1, 0, none⟩) (.inl rfl) (.slice a5 n5 c5)
        have s5 := kS.size
        have k24 : Kept (fun b => N ≤ b) W2 w4 := (k3.mono fun _ h => h.elim).trans k4 fun b e => .inl (lo4.out b e).1
        have k04 : Kept (fun b => N ≤ b) W w4 := (k2.mono fun _ h => h.elim).tr k24
        refine ⟨(k04.mono fun b h => .inr h).trans kS fun b h => .inl (.inl (by omega)), ⟨_, setCell_obj h4 _, ?_⟩, (KW.out.trans k04 fun b h => .inr (by omega)).tr kS, ?_⟩
        · rw [hmap, hgo]
          exact o4.kept kS fun b h _ => ⟨fun hd => by omega, fun e => by have := (o4.lt b e).1; omega⟩
        · have := k2.size
          simp only [World.size_alloc] at s4
          omega)
    | true =>
      gi_wp2
      refine ⟨trivial, CallsIn.inRound _ (callsIn_wide.2 ((byCompare_calls HX.out (H2.out.kept byteEl_k KZ.out fun _ _ _ h => h)).mono ?_))⟩
      rintro e W1 ⟨rfl, hW1⟩
      have hW1 := hW1.symm
      subst hW1
      by_cases hh : cmpB key high < 0
      · have t1 : decide (0 ≤ cmpS key high) = false := by have := cmpS_lt hh; simp; omega
        gi_wp2
        (
      refine ⟨trivial, CallsIn.inRound _ (callsIn_wide.2 ((swspan_has_calls (H1.out.kept byteEl_k KZ.out fun _ _ _ h => h) (H2.out.kept byteEl_k KZ.out fun _ _ _ h => h) HX.out).mono ?_))⟩
      rintro e W2 ⟨rfl, k2⟩
      have O2 := Lib.hid (OW.out.kept k2 fun _ h => h.elim)
      have HO2 := Lib.hid (k2.obj (fun h => h) HO.out)
      have X2 := Lib.hid (HX.out.kept byteEl_k k2 fun _ _ _ h => h)
      have KW2 := Lib.hid (KW.out.trans k2 fun _ h => h.elim)
      have hgo := spanKeys_snoc (pre.map (fun x => x.2.2)) (key, val) low high true
      have hmap : (pre ++ [((Value.slice a3 key.length c3, vv, key, val) : AllE)]).map (fun x => x.2.2) = pre.map (fun x => x.2.2) ++ [(key, val)] := by simp
      have z := Z3.out
      cases hin : inS low true high true (key, [])
      · rw [hin, if_neg (by decide)] at hgo
        gi_wp2
        exact ⟨k2.mono fun _ h => h.elim, ⟨_, HO2.out, by rw [hmap, hgo]; exact O2.out⟩, KW2.out, by have := k2.size; omega⟩
      · rw [hin, if_pos rfl] at hgo
        have g2 : W2.cell? ⟨w.heap.size + 1, 0, none⟩ = some (.slice a4 n4 c4) := by simp [World.cell?, HO2.out]
        have gA : ∀ o, (W2.alloc o).cell? ⟨w.heap.size + 1, 0, none⟩ = some (.slice a4 n4 c4) := fun o => ((Kept.refl Noneof W2).alloc o).cell (p := ⟨w.heap.size + 1, 0, none⟩) (fun h => h) g2
        have hlen : (spanKeys (pre.map (fun x => x.2.2)) low high true).length ≤ pre.length := by
          unfold spanKeys
          rw [List.length_map]
          exact Nat.le_trans (List.length_filter_le _ _) (by simp)
        have G3 := heap_alloc_new W2 (.cells #[.slice a3 key.length c3] 31)
        have k3 := (Kept.refl Noneof W2).alloc (.cells #[.slice a3 key.length c3] 31)
        have O3 := Lib.hid (O2.out.kept k3 fun _ h => h.elim)
        have X3 := Lib.hid (X2.out.kept byteEl_k k3 fun _ _ _ h => h)
        have HO3 := Lib.hid (k3.obj (fun h => h) HO2.out)
        have lo := Lib.hid O3.out.lt
        have hsz : N ≤ W2.heap.size := by have := k2.size; omega
        have hb : (spanKeys (pre.map (fun x => x.2.2)) low high true).length + 1 ≤ 2000000 := by have := SZ.out; have := Tr.pairs_len t; omega
        have HB := Lib.hid hb
        gi_wp2_with (gi_at_builtin; refine wpListIn_plain rfl fun K hK => wpIn_app (.tmp 23) (.tmp 25) _ rfl (wp_app_one (E := bytesEl) (.tmp 23) (.tmp 25) _ rfl tRows (D' := fun b => w3.heap.size + 2 ≤ b ∧ b < N) (.slice a4 n4 c4) _ rfl O3.out W2.heap.size [.slice a3 key.length c3] key rfl ⟨_, _, G3⟩ ⟨_, rfl, X3.out⟩ (fun x h _ => ⟨h, fun e => by have := (lo.out x e).1; omega⟩) (by omega) (by decide) (by simp; omega) ?_))
        rintro v4 w4 o4 k4 _
        obtain ⟨a5, n5, c5, rfl⟩ := o4.slice'
        refine hK _ _ ?_
        have ne : ¬ (.slice a4 n4 c4 : Value).ownBlock = some (w.heap.size + 1) := fun e => by have := (lo.out _ e).1; omega
        have h4 := k4.obj (p := w.heap.size + 1) ne HO3.out
        have g4 : w4.cell? ⟨w.heap.size + 1, 0, none⟩ = some (.slice a4 n4 c4) := by simp [World.cell?, h4]
        have f4 : w4.frozen? ⟨w.heap.size + 1, 0, none⟩ = false := by simp [World.frozen?, h4]
        have lo4 := Lib.hid lo.out
        have s4 := k4.size
        clear hK
        gi_wp2
        have kS := (Kept.refl (fun b => b = w.heap.size + 1) w4).setCell (p := ⟨w.heap.size + 1, 0, none⟩) (.inl rfl) (.slice a5 n5 c5)
        have s5 := kS.size
        have k24 : Kept (fun b => N ≤ b) W2 w4 := (k3.mono fun _ h => h.elim).trans k4 fun b e => .inl (lo4.out b e).1
        have k04 : Kept (fun b => N ≤ b) W w4 := (k2.mono fun _ h => h.elim).tr k24
        refine ⟨(k04.mono fun b h => .inr h).trans kS fun b h => .inl (.inl (by omega)), ⟨_, setCell_obj h4 _, ?_⟩, (KW.out.trans k04 fun b h => .inr (by omega)).tr kS, ?_⟩
        · rw [hmap, hgo]
          exact o4.kept kS fun b h _ => ⟨fun hd => by omega, fun e => by have := (o4.lt b e).1; omega⟩
        · have := k2.size
          simp only [World.size_alloc] at s4
          omega)
      · have t1 : decide (0 ≤ cmpS key high) = true := by have := cmpS_ge hh; simp; omega
        have HH := Lib.hid hh
        clear hh
        gi_wp2
        have hgo := spanKeys_snoc (pre.map (fun x => x.2.2)) (key, val) low high true
        rw [if_neg (by simp [inS, HH.out])] at hgo
        refine ⟨rfl, Kept.refl _ _, ⟨⟨_, HO.out, ?_⟩, KW.out, hNW⟩, pre, _, _, _, ⟨_, rfl⟩, by have := HH.out; omega⟩
        have hmap : (pre ++ [((Value.slice a3 key.length c3, vv, key, val) : AllE)]).map (fun x => x.2.2) = pre.map (fun x => x.2.2) ++ [(key, val)] := by simp
        rw [hmap, hgo]
        exact OW.out
  case done =>
    rintro N xs W hN hS ⟨⟨v, ho, hown⟩, kW, hNW⟩ hd
    have z := Z3.out
    have g0 : W.cell? ⟨w.heap.size + 1, 0, none⟩ = some v := by simp [World.cell?, ho]
    have OW := Lib.hid hown
    obtain ⟨a4, n4, c4, rfl⟩ := hown.slice'
    gi_wp2
    have lo := hown.lt
    have kP := (Kept.refl (fun b => b = w3.heap.size) W).putObj (.inl rfl) (.deferred none)
    have KF := K3.out.trans (kW.trans kP fun n h => .inr (by omega)) (T := fun b => b = w.heap.size + 1) fun n h => .inr (by omega)
    refine ⟨by simp, .inl ⟨_, _, rfl, run_takeDeferred hd, ?_⟩⟩
    refine ⟨_, results_tmp rfl _ _ _, _, rfl, ?_, KF⟩
    have := (OW.out.kept kP fun b hb _ => ⟨fun hd => by omega, fun e => by have := (lo b e).1; omega⟩)
    rw [hS] at this
    exact (this.wide fun b hb => by omega).base (by omega)
  case stop =>
    rintro N pre W hN hS ⟨⟨⟨v, ho, hown⟩, kW, hNW⟩, pre', x, rfl, rfl, hx⟩ hd
    have HX := Lib.hid hx
    clear hx
    have z := Z3.out
    have g0 : W.cell? ⟨w.heap.size + 1, 0, none⟩ = some v := by simp [World.cell?, ho]
    have OW := Lib.hid hown
    obtain ⟨a4, n4, c4, rfl⟩ := hown.slice'
    gi_wp2
    have lo := hown.lt
    have kP := (Kept.refl (fun b => b = w3.heap.size) W).putObj (.inl rfl) (.deferred none)
    have KF := K3.out.trans (kW.trans kP fun n h => .inr (by omega)) (T := fun b => b = w.heap.size + 1) fun n h => .inr (by omega)
    refine ⟨by simp, .inl ⟨_, _, rfl, run_takeDeferred hd, ?_⟩⟩
    refine ⟨_, results_tmp rfl _ _ _, _, rfl, ?_, KF⟩
    have := (OW.out.kept kP fun b hb _ => ⟨fun hd => by omega, fun e => by have := (lo b e).1; omega⟩)
    rw [spanKeys_prefix HG.out hS (by have := HX.out; omega)] at this
    exact (this.wide fun b hb => by omega).base (by omega)
end Go.Proofs.Ytaopjdjbpamhhaa
/- Proved: what the talk of a mirror holds in memory, and that it stays true while new memory is made and while its lists grow. No condition. -/
namespace Go.Proofs.Ytaopjdjbpamhhaa
open Go Go.RowKit
set_option linter.unusedVariables false
set_option linter.unusedSimpArgs false

def msgEl : El Msg where
  k := 7
  R := fun D w cs x => ∃ vl vh vp, cs = [vl, vh, .bool x.bd, .int .i64 x.size, .int .u64 x.dg, .bool x.same, vp] ∧ BV D w vl x.low ∧ BV D w vh x.high ∧ SV pairEl D w vp x.prs
  mono := fun hw ⟨vl, vh, vp, h1, h2, h3, h4⟩ => ⟨vl, vh, vp, h1, h2.mono byteEl_k hw, h3.mono byteEl_k hw, h4.mono pairEl_k hw⟩
  len := fun ⟨vl, vh, vp, h1, _⟩ => by rw [h1]; rfl
  one := fun ⟨vl, vh, vp, h1, h2, h3, h4⟩ x hx => by
    obtain ⟨a, c, rfl, _⟩ := h4
    rw [h1] at hx
    rcases List.mem_cons.1 hx with rfl | hx
    · exact h2.cell1
    · rcases List.mem_cons.1 hx with rfl | hx
      · exact h3.cell1
      · simp only [List.mem_cons, List.not_mem_nil, or_false] at hx
        rcases hx with rfl | rfl | rfl | rfl | rfl <;> rfl
theorem msgEl_k : 0 < msgEl.k := by decide
theorem tMsgs : SlT Try.prog 85 97 7 104 (.agg #[.slice none 0 0, .slice none 0 0, .bool false, .int .i64 0, .int .u64 0, .bool false, .slice none 0 0]) := SlT.of (by kernel_rfl) (by kernel_rfl) rfl (by decide)

/-- What a mirror's talk does not change: the variables' blocks, the nodes, the receiver. -/
structure TK where
  q2 : Nat
  q3 : Nat
  q4 : Nat
  q5 : Nat
  q6 : Nat
  q7 : Nat
  vn : Value
  m2 : Nat
  F2 : Nat → Prop
  DN : Nat → Prop
  B : Nat
  L : List ND
abbrev bp (b : Nat) : Value := .pointer (some ⟨b, 0, none⟩)
structure TalkIn (seed : Int) (u : Tr) (c : TK) (R : Nat → Prop) (vo vg vc : Value) (w : World) (ol : List Msg) (gl : List Bts) (cl : List (Bts × Bts)) : Prop where
  h2 : w.heap[c.q2]? = some (.cells #[c.vn] 166)
  h3 : w.heap[c.q3]? = some (.cells #[bp c.m2] 83)
  h4 : w.heap[c.q4]? = some (.cells #[vo] 85)
  h5 : w.heap[c.q5]? = some (.cells #[vg] 51)
  h6 : w.heap[c.q6]? = some (.cells #[vc] 65)
  h7 : w.heap[c.q7]? = some (.cells #[.func (.func 117) #[] #[bp c.q2, bp c.q3, bp c.q4, bp c.q5, bp c.q6, bp c.q7]] 168)
  hn : SV nodeEl c.DN w c.vn c.L
  hm : MapAt seed w c.m2 u c.F2
  ho : Own 97 msgEl R c.B w vo ol
  hg : Own 31 bytesEl R c.B w vg gl
  hc : Own 70 pairEl R c.B w vc cl
  lt : c.q2 < c.B ∧ c.q3 < c.B ∧ c.q4 < c.B ∧ c.q5 < c.B ∧ c.q6 < c.B ∧ c.q7 < c.B
  ne : c.q4 ≠ c.q2 ∧ c.q4 ≠ c.q3 ∧ c.q4 ≠ c.q5 ∧ c.q4 ≠ c.q6 ∧ c.q4 ≠ c.q7 ∧ c.q5 ≠ c.q2 ∧ c.q5 ≠ c.q3 ∧ c.q5 ≠ c.q6 ∧ c.q5 ≠ c.q7 ∧ c.q6 ≠ c.q2 ∧ c.q6 ≠ c.q3 ∧ c.q6 ≠ c.q7
  hD : ∀ b, c.DN b → R b ∧ b < c.B
  hF : ∀ b, c.F2 b → b < c.B ∧ b ≠ c.q4 ∧ b ≠ c.q5 ∧ b ≠ c.q6
  hR : ∀ b, R b → b < w.heap.size ∧ (b ≠ c.q4 ∧ b ≠ c.q5 ∧ b ≠ c.q6) ∧ vo.ownBlock ≠ some b ∧ vg.ownBlock ≠ some b ∧ vc.ownBlock ≠ some b
  dis : ∀ b, (vo.ownBlock = some b → vg.ownBlock ≠ some b ∧ vc.ownBlock ≠ some b) ∧ (vg.ownBlock = some b → vc.ownBlock ≠ some b)
  hB : c.B ≤ w.heap.size
  hRF : ∀ b, R b → ¬ c.F2 b
section
variable {seed : Int} {u : Tr} {c : TK} {R R' S : Nat → Prop} {vo vg vc : Value} {w w' : World} {ol : List Msg} {gl : List Bts} {cl : List (Bts × Bts)}
/-- What the talk may change. -/
def TalkS (c : TK) (vo vg vc : Value) (b : Nat) : Prop := b = c.q4 ∨ b = c.q5 ∨ b = c.q6 ∨ vo.ownBlock = some b ∨ vg.ownBlock = some b ∨ vc.ownBlock = some b
theorem TalkIn.kept (h : TalkIn seed u c R vo vg vc w ol gl cl) (k : Kept S w w') (hS : ∀ b, S b → c.B ≤ b ∧ ¬ R b ∧ vo.ownBlock ≠ some b ∧ vg.ownBlock ≠ some b ∧ vc.ownBlock ≠ some b) : TalkIn seed u c R vo vg vc w' ol gl cl := by
  have l := h.lt
  have n : ∀ b, b < c.B → ¬ S b := fun b hb hs => by have := (hS b hs).1; omega
  have kz := k.size
  exact ⟨k.obj (n _ l.1) h.h2, k.obj (n _ l.2.1) h.h3, k.obj (n _ l.2.2.1) h.h4, k.obj (n _ l.2.2.2.1) h.h5, k.obj (n _ l.2.2.2.2.1) h.h6, k.obj (n _ l.2.2.2.2.2) h.h7,
    h.hn.kept nodeEl_k k fun b hb _ => n b (h.hD b hb).2, h.hm.kept k fun b hb => n b (h.hF b hb).1,
    h.ho.kept k fun b hb _ => ⟨(hS b hb).2.1, (hS b hb).2.2.1⟩, h.hg.kept k fun b hb _ => ⟨(hS b hb).2.1, (hS b hb).2.2.2.1⟩, h.hc.kept k fun b hb _ => ⟨(hS b hb).2.1, (hS b hb).2.2.2.2⟩,
    h.lt, h.ne, h.hD, h.hF, fun b hb => ⟨by have := (h.hR b hb).1; omega, (h.hR b hb).2⟩, h.dis, by have := h.hB; omega, h.hRF⟩
theorem TalkIn.kept0 (h : TalkIn seed u c R vo vg vc w ol gl cl) (k : Kept Noneof w w') : TalkIn seed u c R vo vg vc w' ol gl cl := h.kept k fun _ h => h.elim
/-- More blocks of data. -/
theorem TalkIn.wide (h : TalkIn seed u c R vo vg vc w ol gl cl) (hR : ∀ b, R b → R' b) (hR' : ∀ b, R' b → R b ∨ b < w.heap.size ∧ c.B ≤ b ∧ vo.ownBlock ≠ some b ∧ vg.ownBlock ≠ some b ∧ vc.ownBlock ≠ some b) : TalkIn seed u c R' vo vg vc w ol gl cl := by
  have l := h.lt
  exact ⟨h.h2, h.h3, h.h4, h.h5, h.h6, h.h7, h.hn, h.hm, h.ho.wide hR, h.hg.wide hR, h.hc.wide hR, h.lt, h.ne, fun b hb => ⟨hR b (h.hD b hb).1, (h.hD b hb).2⟩, h.hF, fun b hb => (hR' b hb).elim (h.hR b) fun k => ⟨k.1, ⟨by omega, by omega, by omega⟩, k.2.2⟩, h.dis, h.hB, fun b hb => (hR' b hb).elim (h.hRF b) fun k e => by have := (h.hF b e).1; omega⟩
/-- One more message. -/
theorem TalkIn.say {vo' : Value} {ol' : List Msg} (h : TalkIn seed u c R vo vg vc w ol gl cl) (k : Kept (fun b => vo.ownBlock = some b) w w') (ho : Own 97 msgEl R c.B w' vo' ol') (hb : ∀ b, vo'.ownBlock = some b → vo.ownBlock = some b ∨ w.heap.size ≤ b) :
    TalkIn seed u c R vo' vg vc (w'.setCell ⟨c.q4, 0, none⟩ vo') ol' gl cl := by
  have l := h.lt
  have n := h.ne
  have lo := h.ho.lt
  have lg := h.hg.lt
  have lc := h.hc.lt
  have k2 := (k.mono (T := fun b => b = c.q4 ∨ vo.ownBlock = some b) fun b h => .inr h).setCell (p := ⟨c.q4, 0, none⟩) (.inl (.inl rfl)) vo'
  have k3 := (Kept.refl (fun b => b = c.q4) w').setCell (p := ⟨c.q4, 0, none⟩) (.inl rfl) vo'
  have no : ∀ b, b < c.B → vo.ownBlock ≠ some b := fun b hb e => by have := (lo b e).1; omega
  have h4 := k.obj (no _ l.2.2.1) h.h4
  have nq : ∀ b, b < c.B → b ≠ c.q4 → ¬ (b = c.q4 ∨ vo.ownBlock = some b) := fun b hb hn e => e.elim hn (no b hb)
  have nR : ∀ b, R b → ¬ (b = c.q4 ∨ vo.ownBlock = some b) := fun b hb e => by have := h.hR b hb; exact e.elim this.2.1.1 this.2.2.1
  have kz := k2.size
  have fresh : ∀ b, vo'.ownBlock = some b → vg.ownBlock ≠ some b ∧ vc.ownBlock ≠ some b := fun b e => by
    rcases hb b e with e | e
    · exact (h.dis b).1 e
    · exact ⟨fun f => by have := (lg b f).2; omega, fun f => by have := (lc b f).2; omega⟩
  refine ⟨k2.obj (nq _ l.1 (fun e => n.1 e.symm)) h.h2, k2.obj (nq _ l.2.1 (fun e => n.2.1 e.symm)) h.h3, setCell_obj h4 _, k2.obj (nq _ l.2.2.2.1 (fun e => n.2.2.1 e.symm)) h.h5, k2.obj (nq _ l.2.2.2.2.1 (fun e => n.2.2.2.1 e.symm)) h.h6, k2.obj (nq _ l.2.2.2.2.2 (fun e => n.2.2.2.2.1 e.symm)) h.h7,
    h.hn.kept nodeEl_k k2 fun b hb _ => nR b (h.hD b hb).1, h.hm.kept k2 fun b hb => nq b (h.hF b hb).1 (h.hF b hb).2.1, ho.kept k3 fun b hb _ => ⟨fun e => (h.hR b e).2.1.1 hb, fun e => by have := (ho.lt b e).1; have : b = c.q4 := hb; omega⟩,
    h.hg.kept k2 fun b hb _ => ⟨fun e => nR b e hb, fun e => ?_⟩, h.hc.kept k2 fun b hb _ => ⟨fun e => nR b e hb, fun e => ?_⟩, h.lt, h.ne, h.hD, h.hF, fun b hb' => ?_, fun b => ⟨fresh b, (h.dis b).2⟩, by have := h.hB; omega, h.hRF⟩
  · rcases hb with rfl | e'
    · have := (lg _ e).1; omega
    · exact ((h.dis b).1 e').1 e
  · rcases hb with rfl | e'
    · have := (lc _ e).1; omega
    · exact ((h.dis b).1 e').2 e
  · have := h.hR b hb'
    refine ⟨by omega, this.2.1, fun e => ?_, this.2.2.2⟩
    rcases hb b e with e | e
    · exact this.2.2.1 e
    · omega
/-- Keys that go. -/
theorem TalkIn.go {vg' : Value} {gl' : List Bts} (h : TalkIn seed u c R vo vg vc w ol gl cl) (k : Kept (fun b => vg.ownBlock = some b) w w') (hg : Own 31 bytesEl R c.B w' vg' gl') (hb : ∀ b, vg'.ownBlock = some b → vg.ownBlock = some b ∨ w.heap.size ≤ b) :
    TalkIn seed u c R vo vg' vc (w'.setCell ⟨c.q5, 0, none⟩ vg') ol gl' cl := by
  have l := h.lt
  have n := h.ne
  have lo := h.ho.lt
  have lg := h.hg.lt
  have lc := h.hc.lt
  have k2 := (k.mono (T := fun b => b = c.q5 ∨ vg.ownBlock = some b) fun b h => .inr h).setCell (p := ⟨c.q5, 0, none⟩) (.inl (.inl rfl)) vg'
  have k3 := (Kept.refl (fun b => b = c.q5) w').setCell (p := ⟨c.q5, 0, none⟩) (.inl rfl) vg'
  have no : ∀ b, b < c.B → vg.ownBlock ≠ some b := fun b hb e => by have := (lg b e).1; omega
  have h5 := k.obj (no _ l.2.2.2.1) h.h5
  have nq : ∀ b, b < c.B → b ≠ c.q5 → ¬ (b = c.q5 ∨ vg.ownBlock = some b) := fun b hb hn e => e.elim hn (no b hb)
  have nR : ∀ b, R b → ¬ (b = c.q5 ∨ vg.ownBlock = some b) := fun b hb e => by have := h.hR b hb; exact e.elim this.2.1.2.1 this.2.2.2.1
  have kz := k2.size
  have fresh : ∀ b, vg'.ownBlock = some b → vo.ownBlock ≠ some b ∧ vc.ownBlock ≠ some b := fun b e => by
    rcases hb b e with e | e
    · exact ⟨fun f => ((h.dis b).1 f).1 e, (h.dis b).2 e⟩
    · exact ⟨fun f => by have := (lo b f).2; omega, fun f => by have := (lc b f).2; omega⟩
  refine ⟨k2.obj (nq _ l.1 (fun e => n.2.2.2.2.2.1 e.symm)) h.h2, k2.obj (nq _ l.2.1 (fun e => n.2.2.2.2.2.2.1 e.symm)) h.h3, k2.obj (nq _ l.2.2.1 n.2.2.1) h.h4, setCell_obj h5 _, k2.obj (nq _ l.2.2.2.2.1 (fun e => n.2.2.2.2.2.2.2.1 e.symm)) h.h6, k2.obj (nq _ l.2.2.2.2.2 (fun e => n.2.2.2.2.2.2.2.2.1 e.symm)) h.h7,
    h.hn.kept nodeEl_k k2 fun b hb _ => nR b (h.hD b hb).1, h.hm.kept k2 fun b hb => nq b (h.hF b hb).1 (h.hF b hb).2.2.1,
    h.ho.kept k2 fun b hb _ => ⟨fun e => nR b e hb, fun e => ?_⟩, hg.kept k3 fun b hb _ => ⟨fun e => (h.hR b e).2.1.2.1 hb, fun e => by have := (hg.lt b e).1; have : b = c.q5 := hb; omega⟩, h.hc.kept k2 fun b hb _ => ⟨fun e => nR b e hb, fun e => ?_⟩, h.lt, h.ne, h.hD, h.hF, fun b hb' => ?_, fun b => ⟨fun e => ⟨fun f => (fresh b f).1 e, ((h.dis b).1 e).2⟩, fun e => (fresh b e).2⟩, by have := h.hB; omega, h.hRF⟩
  · rcases hb with rfl | e'
    · have := (lo _ e).1; omega
    · exact ((h.dis b).1 e).1 e'
  · rcases hb with rfl | e'
    · have := (lc _ e).1; omega
    · exact (h.dis b).2 e' e
  · have := h.hR b hb'
    refine ⟨by omega, this.2.1, this.2.2.1, fun e => ?_, this.2.2.2.2⟩
    rcases hb b e with e | e
    · exact this.2.2.2.1 e
    · omega
/-- Pairs that come. -/
theorem TalkIn.come {vc' : Value} {cl' : List (Bts × Bts)} (h : TalkIn seed u c R vo vg vc w ol gl cl) (k : Kept (fun b => vc.ownBlock = some b) w w') (hc : Own 70 pairEl R c.B w' vc' cl') (hb : ∀ b, vc'.ownBlock = some b → vc.ownBlock = some b ∨ w.heap.size ≤ b) :
    TalkIn seed u c R vo vg vc' (w'.setCell ⟨c.q6, 0, none⟩ vc') ol gl cl' := by
  have l := h.lt
  have n := h.ne
  have lo := h.ho.lt
  have lg := h.hg.lt
  have lc := h.hc.lt
  have k2 := (k.mono (T := fun b => b = c.q6 ∨ vc.ownBlock = some b) fun b h => .inr h).setCell (p := ⟨c.q6, 0, none⟩) (.inl (.inl rfl)) vc'
  have k3 := (Kept.refl (fun b => b = c.q6) w').setCell (p := ⟨c.q6, 0, none⟩) (.inl rfl) vc'
  have no : ∀ b, b < c.B → vc.ownBlock ≠ some b := fun b hb e => by have := (lc b e).1; omega
  have h6 := k.obj (no _ l.2.2.2.2.1) h.h6
  have nq : ∀ b, b < c.B → b ≠ c.q6 → ¬ (b = c.q6 ∨ vc.ownBlock = some b) := fun b hb hn e => e.elim hn (no b hb)
  have nR : ∀ b, R b → ¬ (b = c.q6 ∨ vc.ownBlock = some b) := fun b hb e => by have := h.hR b hb; exact e.elim this.2.1.2.2 this.2.2.2.2
  have kz := k2.size
  have fresh : ∀ b, vc'.ownBlock = some b → vo.ownBlock ≠ some b ∧ vg.ownBlock ≠ some b := fun b e => by
    rcases hb b e with e | e
    · exact ⟨fun f => ((h.dis b).1 f).2 e, fun f => (h.dis b).2 f e⟩
    · exact ⟨fun f => by have := (lo b f).2; omega, fun f => by have := (lg b f).2; omega⟩
  refine ⟨k2.obj (nq _ l.1 (fun e => n.2.2.2.2.2.2.2.2.2.1 e.symm)) h.h2, k2.obj (nq _ l.2.1 (fun e => n.2.2.2.2.2.2.2.2.2.2.1 e.symm)) h.h3, k2.obj (nq _ l.2.2.1 n.2.2.2.1) h.h4, k2.obj (nq _ l.2.2.2.1 n.2.2.2.2.2.2.2.1) h.h5, setCell_obj h6 _, k2.obj (nq _ l.2.2.2.2.2 (fun e => n.2.2.2.2.2.2.2.2.2.2.2 e.symm)) h.h7,
    h.hn.kept nodeEl_k k2 fun b hb _ => nR b (h.hD b hb).1, h.hm.kept k2 fun b hb => nq b (h.hF b hb).1 (h.hF b hb).2.2.2,
    h.ho.kept k2 fun b hb _ => ⟨fun e => nR b e hb, fun e => ?_⟩, h.hg.kept k2 fun b hb _ => ⟨fun e => nR b e hb, fun e => ?_⟩, hc.kept k3 fun b hb _ => ⟨fun e => (h.hR b e).2.1.2.2 hb, fun e => by have := (hc.lt b e).1; have : b = c.q6 := hb; omega⟩, h.lt, h.ne, h.hD, h.hF, fun b hb' => ?_, fun b => ⟨fun e => ⟨((h.dis b).1 e).1, fun f => (fresh b f).1 e⟩, fun e f => (fresh b f).2 e⟩, by have := h.hB; omega, h.hRF⟩
  · rcases hb with rfl | e'
    · have := (lo _ e).1; omega
    · exact ((h.dis b).1 e).2 e'
  · rcases hb with rfl | e'
    · have := (lg _ e).1; omega
    · exact (h.dis b).2 e e'
  · have := h.hR b hb'
    refine ⟨by omega, this.2.1, this.2.2.1, this.2.2.2.1, fun e => ?_⟩
    rcases hb b e with e | e
    · exact this.2.2.2.2 e
    · omega
end
/-- Where a tree's nodes stand in a list. -/
def NodesAt (seed : Int) (L : List ND) : Tr → Int → Prop
  | .nil, at' => at' = -1
  | .nd l k v r, at' => ∃ pre post, L = pre ++ (Tr.nd l k v r).nodes seed pre.length ++ post ∧ at' = pre.length
theorem NodesAt.kids {seed : Int} {L : List ND} {l r : Tr} {k v : Bts} {at' : Int} (h : NodesAt seed L (.nd l k v r) at') : ∃ i : Nat, at' = i ∧ i < L.length ∧ L[i]? = some (ndOf seed l k v r i) ∧ NodesAt seed L l (ndOf seed l k v r i).left ∧ NodesAt seed L r (ndOf seed l k v r i).right := by
  obtain ⟨pre, post, rfl, rfl⟩ := h
  refine ⟨pre.length, rfl, by simp [Tr.nodes], by simp [Tr.nodes], ?_, ?_⟩
  · cases l with
    | nil => simp [ndOf, Tr.size, NodesAt]
    | nd l' k' v' r' =>
      refine ⟨pre ++ [ndOf seed (.nd l' k' v' r') k v r pre.length], r.nodes seed (pre.length + 1 + ((Tr.nd l' k' v' r').size : Nat)) ++ post, ?_, ?_⟩
      · rw [Tr.nodes]; simp
      · simp [ndOf, Tr.size]
  · cases r with
    | nil => simp [ndOf, Tr.size, NodesAt]
    | nd l' k' v' r' =>
      refine ⟨pre ++ ndOf seed l k v (.nd l' k' v' r') pre.length :: l.nodes seed (pre.length + 1), post, ?_, ?_⟩
      · have e : ((pre ++ ndOf seed l k v (.nd l' k' v' r') pre.length :: l.nodes seed (pre.length + 1)).length : Int) = pre.length + 1 + l.size := by simp [Tr.nodes_len]; omega
        rw [e, Tr.nodes]
        simp
      · have e : ((pre ++ ndOf seed l k v (.nd l' k' v' r') pre.length :: l.nodes seed (pre.length + 1)).length : Int) = pre.length + 1 + l.size := by simp [Tr.nodes_len]; omega
        rw [e]
        simp [ndOf, Tr.size]
end Go.Proofs.Ytaopjdjbpamhhaa
/- Proved: contract of the talk of a mirror (Mirror's closure), where a span has no node. Conditions: what TalkIn says. -/
namespace Go.Proofs.Ytaopjdjbpamhhaa
open Go Go.RowKit
set_option linter.unusedVariables false
set_option linter.unusedSimpArgs false

/-- The keys that go, and the pairs that come. -/
def gones (seed : Int) (u : Tr) : Tr → Bts → Bts → Bool → List Bts
  | .nil, low, high, bd => if sameAt seed u .nil low high bd = true then [] else spanKeys u.pairs low high bd
  | .nd l k v r, low, high, bd => if sameAt seed u (.nd l k v r) low high bd = true then [] else gones seed u l low k true ++ gones seed u r (k ++ [0]) high bd
def comes (seed : Int) (u : Tr) : Tr → Bts → Bts → Bool → List (Bts × Bts)
  | .nil, _, _, _ => []
  | .nd l k v r, low, high, bd => if sameAt seed u (.nd l k v r) low high bd = true then [] else (k, v) :: (comes seed u l low k true ++ comes seed u r (k ++ [0]) high bd)
theorem Own.obj {α : Type} {e : TypeId} {E : El α} {D : Nat → Prop} {B : Nat} {w : World} {v : Value} {l : List α} (h : Own e E D B w v l) {b : Nat} (hb : v.ownBlock = some b) : ∃ cur, w.heap[b]? = some (.cells cur e) := by
  obtain ⟨_, _, _, xs, ⟨_, h1⟩, _⟩ := h
  rcases h1 with ⟨rfl, _⟩ | ⟨g, cap, cur, rfl, _, hg, _⟩
  · cases hb
  · simp only [Value.ownBlock, Option.some.injEq] at hb
    subst hb
    exact ⟨cur, hg⟩
/-- A message in its box. -/
abbrev msgObj (vl vh : Value) (bd : Bool) (size dg : Int) (same : Bool) (vp : Value) : Obj := .cells #[vl, vh, .bool bd, .int .i64 size, .int .u64 dg, .bool same, vp] 97

theorem wp_app_list {α : Type} {E : El α} {P : Program} {w : World} {o : Oper} {a : Act} {Q : Exit → Act → World → Prop} {K : Act → World → Prop} (s x : Operand) (t : TypeId) (ho : o.op = .call { callee := .builtin .append, args := #[s, x], argTypes := #[t, t] })
    {e : TypeId} {bytes : Nat} {z : Value} (T : SlT P t e E.k bytes z) {D D' : Nat → Prop} {B : Nat} (v : Value) (l : List α) (hs : a.eval s = v) (hown : Own e E D B w v l)
    (vx : Value) (m : List α) (hx : a.eval x = vx) (hm : SV E D' w vx m) (hD : ∀ b, D' b → b < w.heap.size → D b ∧ v.ownBlock ≠ some b) (hbytes : (l.length + m.length) * bytes ≤ 140737488355328) (hb1 : 0 < bytes) (hbase : B ≤ w.heap.size)
    (h : ∀ v' w', Own e E D B w' v' (l ++ m) → Kept (fun k => v.ownBlock = some k) w w' → (∀ b, v'.ownBlock = some b → v.ownBlock = some b ∨ w.heap.size ≤ b) → K (a.put o.dst v') w') : o.wp P a w K Q := by
  obtain ⟨ao, c, rfl, ⟨hc, hn⟩, _, hr⟩ := hm
  obtain ⟨news, h1, h2⟩ := hr.cells
  exact wp_app s x t ho T v l hs hown ao c m hx hc hn news h1 h2 hD hbytes hb1 hbase fun v' w' k1 k2 k3 _ => h v' w' k1 k2 k3
theorem SV.nilv {α : Type} (E : El α) (D : Nat → Prop) (w : World) : SV E D w (.slice none 0 0) [] := ⟨none, 0, rfl, ⟨Nat.le_refl _, fun _ => rfl⟩, by simp, Rd.nil _ _ _ _⟩
/-- What a talk leaves. -/
def TalkPost (seed : Int) (u : Tr) (c : TK) (R : Nat → Prop) (vo vg vc : Value) (w : World) (ol : List Msg) (gl : List Bts) (cl : List (Bts × Bts)) (e : Ending) (w' : World) : Prop :=
  (∃ v, e = .returned v) ∧ ∃ R' vo' vg' vc', TalkIn seed u c R' vo' vg' vc' w' ol gl cl ∧ (∀ b, R b → R' b) ∧ Kept (TalkS c vo vg vc) w w' ∧
    ∀ b, (vo'.ownBlock = some b → vo.ownBlock = some b ∨ w.heap.size ≤ b) ∧ (vg'.ownBlock = some b → vg.ownBlock = some b ∨ w.heap.size ≤ b) ∧ (vc'.ownBlock = some b → vc.ownBlock = some b ∨ w.heap.size ≤ b)

set_option maxRecDepth 100000 in
set_option maxHeartbeats 4000000 in
theorem swMirror_1_nil {seed : Int} {u : Tr} {c : TK} (hg : Srt u.pairs) (hu : u.size ≤ 1000000) {R : Nat → Prop} {vo vg vc : Value} {w : World} {ol : List Msg} {gl : List Bts} {cl : List (Bts × Bts)} {lo hi : Value} {low high : Bts} {bd : Bool}
    (h : TalkIn seed u c R vo vg vc w ol gl cl) (h1 : BV R w lo low) (h2 : BV R w hi high) (b1 : ol.length ≤ 1000000) (b2 : gl.length ≤ 1000000000000) :
    Calls Try.prog 117 #[.agg #[lo, hi, .bool bd], .int .i64 (-1), bp c.q2, bp c.q3, bp c.q4, bp c.q5, bp c.q6, bp c.q7] w
      (TalkPost seed u c R vo vg vc w (ol ++ talk seed u .nil low high bd) (gl ++ gones seed u .nil low high bd) (cl ++ comes seed u .nil low high bd)) := by
  have H := Lib.hid h
  have H1 := Lib.hid h1
  have H2 := Lib.hid h2
  have HG := Lib.hid hg
  have HU := Lib.hid hu
  have BO := Lib.hid b1
  have BG := Lib.hid b2
  obtain ⟨a1, c1, rfl, _⟩ := h1
  obtain ⟨a2, c2, rfl, _⟩ := h2
  clear h hg hu b1 b2
  go_enter Try.func117, Try.ntmps117
  go_wp2_with fail
  (
  have G0 := heap_alloc_new w (.cells #[.slice a1 low.length c1, .slice a2 high.length c2, .bool bd] 170)
  have K0 := (Kept.refl Noneof w).alloc (.cells #[.slice a1 low.length c1, .slice a2 high.length c2, .bool bd] 170)
  have s0 : (w.alloc (.cells #[.slice a1 low.length c1, .slice a2 high.length c2, .bool bd] 170)).heap.size = w.heap.size + 1 := by simp
  generalize w.alloc (.cells #[.slice a1 low.length c1, .slice a2 high.length c2, .bool bd] 170) = w1 at *
  have G0 := Lib.hid G0
  have K0 := Lib.hid K0
  have S0 := Lib.hid s0
  clear s0
  refine wp_region_kept 10 [(2, .act IsSlice fun u wx => Own 5 byteEl Noneof w1.heap.size wx u low), (5, .act IsSlice fun u wx => Own 5 byteEl Noneof w1.heap.size wx u high), (9, .act IsPtr fun u wx => ∃ b, u = bp b ∧ w1.heap.size ≤ b ∧ wx.heap[b]? = some (msgObj (.slice none 0 0) (.slice none 0 0) false 0 0 false (.slice none 0 0)))] Noneof (by kernel_rfl) (by kernel_rfl) (by kernel_rfl) ?_; simp only [List.take_succ_cons, List.take_zero, List.drop_succ_cons, List.drop_zero]
  have hS : ∀ w', Kept Noneof w1 w' → w'.cell? ⟨w.heap.size, 0, none⟩ = some (.slice a1 low.length c1) ∧ w'.cell? ⟨w.heap.size, 1, none⟩ = some (.slice a2 high.length c2) ∧ w'.cell? ⟨w.heap.size, 2, none⟩ = some (.bool bd) := fun w' k => by
    have := k.obj (p := w.heap.size) (fun h => h) G0.out
    simp [World.cell?, this]
  iterate 2 (refine SeqL.val (v := ?_) hS rfl (by rfl) (fun wx hSw => ?_) ?_; rotate_left; (focus ((try dsimp only at hSw); go_simp; (try with_reducible rfl))); (try simp only [Act.put, List.setIfInBounds_toArray, List.set_cons_zero, List.set_cons_succ]))
  refine SeqL.act rfl rfl (by rfl) (by rfl) isSlice (fun wx hx hh K hK => ?_) (fun u1 hu1 => ?_)
  · go_simp
    refine (byClone_calls (H1.out.kept byteEl_k (K0.out.tr hx) fun _ _ _ h => h)).mono ?_
    rintro e w2 ⟨v', rfl, o1, k1⟩
    exact hK.out v' w2 o1.slice' k1 (o1.base hx.size)
  obtain ⟨p1, n1, d1, rfl⟩ := hu1
  (try simp only [Act.put, List.setIfInBounds_toArray, List.set_cons_zero, List.set_cons_succ])
  iterate 2 (refine SeqL.val (v := ?_) hS rfl (by rfl) (fun wx hSw => ?_) ?_; rotate_left; (focus ((try dsimp only at hSw); go_simp; (try with_reducible rfl))); (try simp only [Act.put, List.setIfInBounds_toArray, List.set_cons_zero, List.set_cons_succ]))
  refine SeqL.act rfl rfl (by rfl) (by rfl) isSlice (fun wx hx hh K hK => ?_) (fun u1 hu1 => ?_)
  · go_simp
    refine (byClone_calls (H2.out.kept byteEl_k (K0.out.tr hx) fun _ _ _ h => h)).mono ?_
    rintro e w2 ⟨v', rfl, o1, k1⟩
    exact hK.out v' w2 o1.slice' k1 (o1.base hx.size)
  obtain ⟨p2, n2, d2, rfl⟩ := hu1
  (try simp only [Act.put, List.setIfInBounds_toArray, List.set_cons_zero, List.set_cons_succ])
  iterate 3 (refine SeqL.val (v := ?_) hS rfl (by rfl) (fun wx hSw => ?_) ?_; rotate_left; (focus ((try dsimp only at hSw); go_simp; (try with_reducible rfl))); (try simp only [Act.put, List.setIfInBounds_toArray, List.set_cons_zero, List.set_cons_succ]))
  refine SeqL.act rfl rfl (by rfl) (by rfl) isPtr (fun wx hx hh K hK => ?_) (fun u1 hu1 => ?_)
  · go_simp
    exact hK.out _ _ ⟨_, rfl⟩ ((Kept.refl _ _).alloc _) ⟨_, rfl, hx.size, heap_alloc_new wx _⟩
  obtain ⟨bm, rfl⟩ := hu1
  (try simp only [Act.put, List.setIfInBounds_toArray, List.set_cons_zero, List.set_cons_succ])
  refine SeqL.nil fun wz hz hh => ?_
  obtain ⟨wa, _, oa, ka⟩ := hh 2 (by decide) _ _ _ rfl rfl
  obtain ⟨wb, _, ob, kb⟩ := hh 5 (by decide) _ _ _ rfl rfl
  obtain ⟨wc, _, oc, kc⟩ := hh 9 (by decide) _ _ _ rfl rfl
  have OA := Lib.hid (show Own 5 byteEl Noneof w1.heap.size wz (.slice p1 n1 d1) low from Own.kept oa ka fun _ h => h.elim)
  have OB := Lib.hid (show Own 5 byteEl Noneof w1.heap.size wz (.slice p2 n2 d2) high from Own.kept ob kb fun _ h => h.elim)
  have hbm : w1.heap.size ≤ bm ∧ wz.heap[bm]? = some (msgObj (.slice none 0 0) (.slice none 0 0) false 0 0 false (.slice none 0 0)) := by
    obtain ⟨b', e1, e2, e3⟩ := oc
    have e1 : bp bm = bp b' := e1
    simp only [bp, Value.pointer.injEq, Option.some.injEq, Addr.mk.injEq, and_true] at e1
    subst e1
    exact ⟨e2, kc.obj (fun h => h) e3⟩
  obtain ⟨hbm, gm⟩ := hbm
  have HBM := Lib.hid hbm
  have GM := Lib.hid gm
  have KZ := Lib.hid (K0.out.tr hz)
  have KS := Lib.hid hz
  clear hh hS oa ob oc ka kb kc hz hbm
  have m0 : wz.cell? ⟨bm, 0, none⟩ = some (.slice none 0 0) := by simp [World.cell?, gm]
  have m1 : wz.cell? ⟨bm, 1, none⟩ = some (.slice none 0 0) := by simp [World.cell?, gm]
  have m2 : wz.cell? ⟨bm, 2, none⟩ = some (.bool false) := by simp [World.cell?, gm]
  have m3 : wz.cell? ⟨bm, 3, none⟩ = some (.int .i64 0) := by simp [World.cell?, gm]
  have m4 : wz.cell? ⟨bm, 4, none⟩ = some (.int .u64 0) := by simp [World.cell?, gm]
  have m5 : wz.cell? ⟨bm, 5, none⟩ = some (.bool false) := by simp [World.cell?, gm]
  have m6 : wz.cell? ⟨bm, 6, none⟩ = some (.slice none 0 0) := by simp [World.cell?, gm]
  have mf : ∀ j, wz.frozen? ⟨bm, j, none⟩ = false := fun j => by simp [World.frozen?, gm]
  clear gm
  have TZ := Lib.hid (H.out.kept0 KZ.out)
  have z3 : wz.cell? ⟨c.q3, 0, none⟩ = some (bp c.m2) := by simp [World.cell?, TZ.out.h3]
  have z2 : wz.cell? ⟨c.q2, 0, none⟩ = some c.vn := by simp [World.cell?, TZ.out.h2]
  have gz := KZ.out.block
  have hz0 : wz.heap[w.heap.size]? = some (.cells #[.slice a1 low.length c1, .slice a2 high.length c2, .bool bd] 170) := KS.out.obj (fun h => h) G0.out
  have y0 : wz.cell? ⟨w.heap.size, 0, none⟩ = some (.slice a1 low.length c1) := by simp [World.cell?, hz0]
  have y1 : wz.cell? ⟨w.heap.size, 1, none⟩ = some (.slice a2 high.length c2) := by simp [World.cell?, hz0]
  have y2 : wz.cell? ⟨w.heap.size, 2, none⟩ = some (.bool bd) := by simp [World.cell?, hz0]
  have HZ0 := Lib.hid hz0
  have hbm1 : bm ≠ w.heap.size := by have := HBM.out; have := S0.out; omega
  have hbm2 : bm ≠ c.q3 := by have := HBM.out; have := S0.out; have := H.out.lt; have := H.out.hB; omega
  have hbm3 : bm ≠ c.q2 := by have := HBM.out; have := S0.out; have := H.out.lt; have := H.out.hB; omega
  clear gz hz0)
  go_wp2_with fail
  (
  have MS := (((((((Kept.refl (fun b => b = bm) wz).setCell (p := ⟨bm, 0, none⟩) (.inl rfl) (.slice p1 n1 d1)).setCell (p := ⟨bm, 1, none⟩) (.inl rfl) (.slice p2 n2 d2)).setCell (p := ⟨bm, 2, none⟩) (.inl rfl) (.bool bd)).setCell (p := ⟨bm, 3, none⟩) (.inl rfl) (.int .i64 0)).setCell (p := ⟨bm, 4, none⟩) (.inl rfl) (.int .u64 0)).setCell (p := ⟨bm, 5, none⟩) (.inl rfl) (.bool false)).setCell (p := ⟨bm, 6, none⟩) (.inl rfl) (.slice none 0 0)
  have GM5 := setCell_obj (setCell_obj (setCell_obj (setCell_obj (setCell_obj (setCell_obj (setCell_obj GM.out (.slice p1 n1 d1) (j := 0)) (.slice p2 n2 d2) (j := 1)) (.bool bd) (j := 2)) (.int .i64 0) (j := 3)) (.int .u64 0) (j := 4)) (.bool false) (j := 5)) (.slice none 0 0) (j := 6)
  generalize ((((((wz.setCell ⟨bm, 0, none⟩ (.slice p1 n1 d1)).setCell ⟨bm, 1, none⟩ (.slice p2 n2 d2)).setCell ⟨bm, 2, none⟩ (.bool bd)).setCell ⟨bm, 3, none⟩ (.int .i64 0)).setCell ⟨bm, 4, none⟩ (.int .u64 0)).setCell ⟨bm, 5, none⟩ (.bool false)).setCell ⟨bm, 6, none⟩ (.slice none 0 0) = w5 at *
  have GM5 := Lib.hid (show w5.heap[bm]? = some (msgObj (.slice p1 n1 d1) (.slice p2 n2 d2) bd 0 0 false (.slice none 0 0)) from GM5)
  have lT := Lib.hid (show c.B ≤ bm ∧ ¬ R bm ∧ (vo : Value).ownBlock ≠ some bm ∧ (vg : Value).ownBlock ≠ some bm ∧ (vc : Value).ownBlock ≠ some bm from by
    have hh := H.out
    have e1 := HBM.out
    have e2 := S0.out
    have e3 := hh.hB
    exact ⟨by omega, fun e => by have := (hh.hR bm e).1; omega, fun e => by have := (hh.ho.lt bm e).2; omega, fun e => by have := (hh.hg.lt bm e).2; omega, fun e => by have := (hh.hc.lt bm e).2; omega⟩)
  have T5 := Lib.hid (TZ.out.kept MS fun b e => by subst e; exact lT.out)
  have nA := Lib.hid (show (Value.slice p1 n1 d1).ownBlock ≠ some bm from fun e => by
    obtain ⟨cur, hc⟩ := OA.out.obj e
    have := hc.symm.trans GM.out
    simp [msgObj] at this)
  have nB := Lib.hid (show (Value.slice p2 n2 d2).ownBlock ≠ some bm from fun e => by
    obtain ⟨cur, hc⟩ := OB.out.obj e
    have := hc.symm.trans GM.out
    simp [msgObj] at this)
  have OA5 := Lib.hid (OA.out.kept MS fun b hb _ => ⟨fun h => h.elim, fun e => by have hb : b = bm := hb; subst hb; exact nA.out e⟩)
  have OB5 := Lib.hid (OB.out.kept MS fun b hb _ => ⟨fun h => h.elim, fun e => by have hb : b = bm := hb; subst hb; exact nB.out e⟩)
  have K5 := Lib.hid (KZ.out.trans MS fun b e => .inr (by have := HBM.out; have := S0.out; omega))
  have Y5 := Lib.hid (MS.obj (p := w.heap.size) (fun e => hbm1 e.symm) HZ0.out)
  clear MS m0 m1 m2 m3 m4 m5 m6 mf z3 z2 y0 y1 y2 OA OB TZ GM KZ HZ0 KS)
  (
  refine (orSpanDigest_calls (seed := seed) (t := u) T5.out.hm (H1.out.kept byteEl_k K5.out fun _ _ _ h => h) (H2.out.kept byteEl_k K5.out fun _ _ _ h => h)).mono ?_
  rintro e w6 ⟨rfl, k6⟩
  have T6 := Lib.hid (T5.out.kept0 k6)
  have OA6 := Lib.hid (OA5.out.kept k6 fun _ h => h.elim)
  have OB6 := Lib.hid (OB5.out.kept k6 fun _ h => h.elim)
  have GM6 := Lib.hid (k6.obj (fun h => h) GM5.out)
  have K6 := Lib.hid (K5.out.trans k6 fun _ h => h.elim)
  have Y6 := Lib.hid (k6.obj (fun h => h) Y5.out)
  clear k6 T5 OA5 OB5 GM5 K5 Y5
  have gm6 := GM6.out
  have m0 : w6.cell? ⟨bm, 0, none⟩ = some (.slice p1 n1 d1) := by simp [World.cell?, gm6]
  have m1 : w6.cell? ⟨bm, 1, none⟩ = some (.slice p2 n2 d2) := by simp [World.cell?, gm6]
  have m2 : w6.cell? ⟨bm, 2, none⟩ = some (.bool bd) := by simp [World.cell?, gm6]
  have m3 : w6.cell? ⟨bm, 3, none⟩ = some (.int .i64 0) := by simp [World.cell?, gm6]
  have m4 : w6.cell? ⟨bm, 4, none⟩ = some (.int .u64 0) := by simp [World.cell?, gm6]
  have m5 : w6.cell? ⟨bm, 5, none⟩ = some (.bool false) := by simp [World.cell?, gm6]
  have m6 : w6.cell? ⟨bm, 6, none⟩ = some (.slice none 0 0) := by simp [World.cell?, gm6]
  have mf : ∀ j, w6.frozen? ⟨bm, j, none⟩ = false := fun j => by simp [World.frozen?, gm6]
  have y6 := Y6.out
  have y0 : w6.cell? ⟨w.heap.size, 0, none⟩ = some (.slice a1 low.length c1) := by simp [World.cell?, y6]
  have y1 : w6.cell? ⟨w.heap.size, 1, none⟩ = some (.slice a2 high.length c2) := by simp [World.cell?, y6]
  have y2 : w6.cell? ⟨w.heap.size, 2, none⟩ = some (.bool bd) := by simp [World.cell?, y6]
  have z4 : w6.cell? ⟨c.q4, 0, none⟩ = some vo := by simp [World.cell?, T6.out.h4]
  have z5 : w6.cell? ⟨c.q5, 0, none⟩ = some vg := by simp [World.cell?, T6.out.h5]
  have z3 : w6.cell? ⟨c.q3, 0, none⟩ = some (bp c.m2) := by simp [World.cell?, T6.out.h3]
  have z2 : w6.cell? ⟨c.q2, 0, none⟩ = some c.vn := by simp [World.cell?, T6.out.h2]
  have hbm4 : bm ≠ c.q4 := by have := HBM.out; have := S0.out; have := H.out.lt; have := H.out.hB; omega
  have hbm5 : bm ≠ c.q5 := by have := HBM.out; have := S0.out; have := H.out.lt; have := H.out.hB; omega
  clear gm6 y6)
  have e1 : ((((u.cut low true high bd).size : Nat) : Int) == 0) = ((u.cut low true high bd).size == 0) := by
    cases h : (u.cut low true high bd).size <;> simp <;> omega
  cases g1 : ((u.cut low true high bd).size == 0) with
  | false =>
    rw [g1] at e1
    have hs : sameAt seed u .nil low high bd = false := by unfold sameAt; rw [show Tr.nil.size = 0 from rfl, g1]; rfl
    (
    have M7 := (Kept.refl (fun b => b = bm) w6).setCell (p := ⟨bm, 5, none⟩) (.inl rfl) (.bool false)
    have T7 := T6.out.kept M7 fun b e => by subst e; exact lT.out
    have OA7 := OA6.out.kept M7 fun b hb _ => ⟨fun h => h.elim, fun e => by have hb : b = bm := hb; subst hb; exact nA.out e⟩
    have OB7 := OB6.out.kept M7 fun b hb _ => ⟨fun h => h.elim, fun e => by have hb : b = bm := hb; subst hb; exact nB.out e⟩
    have GM7 := setCell_obj GM6.out (.bool false) (j := 5)
    have A7 := (Kept.refl Noneof (w6.setCell ⟨bm, 5, none⟩ (.bool false))).alloc (msgObj (.slice p1 n1 d1) (.slice p2 n2 d2) bd 0 0 false (.slice none 0 0))
    have G8 := heap_alloc_new (w6.setCell ⟨bm, 5, none⟩ (.bool false)) (msgObj (.slice p1 n1 d1) (.slice p2 n2 d2) bd 0 0 false (.slice none 0 0))
    rw [show (w6.setCell ⟨bm, 5, none⟩ (.bool false)).heap.size = w6.heap.size by simp] at G8
    have G8 := Lib.hid G8
    have OA8 := Lib.hid (OA7.kept A7 fun _ h => h.elim)
    have OB8 := Lib.hid (OB7.kept A7 fun _ h => h.elim)
    have GM8 := Lib.hid (A7.obj (fun h => h) GM7)
    have K8 := Lib.hid ((K6.out.trans M7 fun b e => .inr (by have := HBM.out; have := S0.out; omega)).trans A7 fun _ h => h.elim)
    have T8 := Lib.hid ((T7.kept0 A7).wide (R' := fun b => R b ∨ (Value.slice p1 n1 d1).ownBlock = some b ∨ (Value.slice p2 n2 d2).ownBlock = some b) (fun b h => .inl h) (by
      have t := H.out
      have e3 := t.hB
      have e2 := S0.out
      have la := OA8.out.lt
      have lb := OB8.out.lt
      have far : ∀ b, w1.heap.size ≤ b → b < ((w6.setCell ⟨bm, 5, none⟩ (.bool false)).alloc (msgObj (.slice p1 n1 d1) (.slice p2 n2 d2) bd 0 0 false (.slice none 0 0))).heap.size → b < ((w6.setCell ⟨bm, 5, none⟩ (.bool false)).alloc (msgObj (.slice p1 n1 d1) (.slice p2 n2 d2) bd 0 0 false (.slice none 0 0))).heap.size ∧ c.B ≤ b ∧ vo.ownBlock ≠ some b ∧ vg.ownBlock ≠ some b ∧ vc.ownBlock ≠ some b := fun b h1 h2 => ⟨h2, by omega, fun e => by have := (t.ho.lt b e).2; omega, fun e => by have := (t.hg.lt b e).2; omega, fun e => by have := (t.hc.lt b e).2; omega⟩
      rintro b (h | h | h)
      · exact .inl h
      · exact .inr (far b (la b h).1 (la b h).2)
      · exact .inr (far b (lb b h).1 (lb b h).2)))
    have hR8 := Lib.hid T8.out.hR
    have hB8 := T8.out.hB
    have bo := BO.out
    have BLA := Lib.hid (OA8.out.rd (D' := fun b => R b ∨ (Value.slice p1 n1 d1).ownBlock = some b ∨ (Value.slice p2 n2 d2).ownBlock = some b) (fun _ h => h.elim) fun b h => .inr (.inl h))
    have BLB := Lib.hid (OB8.out.rd (D' := fun b => R b ∨ (Value.slice p1 n1 d1).ownBlock = some b ∨ (Value.slice p2 n2 d2).ownBlock = some b) (fun _ h => h.elim) fun b h => .inr (.inr h))
    have HB8 := Lib.hid hB8
    have hby : (ol.length + 1) * 104 ≤ 140737488355328 := by omega
    clear M7 T7 OA7 OB7 GM7 A7 hB8 bo
    go_wp2_with (at_builtin; refine wl_app_one (E := msgEl) rfl (.tmp 68) (.tmp 70) _ rfl tMsgs (D' := fun b => R b ∨ (Value.slice p1 n1 d1).ownBlock = some b ∨ (Value.slice p2 n2 d2).ownBlock = some b) vo ol rfl T8.out.ho w6.heap.size _ ⟨low, high, bd, 0, 0, false, []⟩ rfl ⟨_, _, G8.out⟩ ⟨_, _, _, rfl, BLA.out, BLB.out, SV.nilv _ _ _⟩ (fun b h _ => ⟨h, (hR8.out b h).2.2.1⟩) hby (by decide) HB8.out ?_)
    intro v9 w9 o9 k9 hb9
    have hb9 : ∀ b, v9.ownBlock = some b → vo.ownBlock = some b ∨ ((w6.setCell ⟨bm, 5, none⟩ (.bool false)).alloc (msgObj (.slice p1 n1 d1) (.slice p2 n2 d2) bd 0 0 false (.slice none 0 0))).heap.size ≤ b := fun b e => by have := hb9 b e; simpa using this
    have T9 := Lib.hid (T8.out.say k9 o9 hb9)
    have LV := Lib.hid o9.lt
    obtain ⟨a9, n9, c9, rfl⟩ := o9.slice'
    have no9 : ∀ b, b < c.B → vo.ownBlock ≠ some b := fun b hb e => by have := (T8.out.ho.lt b e).1; omega
    have q9 : w9.heap[c.q4]? = some (.cells #[vo] 85) := k9.obj (no9 _ T8.out.lt.2.2.1) T8.out.h4
    have z9 : w9.cell? ⟨c.q4, 0, none⟩ = some vo := by simp [World.cell?, q9]
    have f9 : w9.frozen? ⟨c.q4, 0, none⟩ = false := by simp [World.frozen?, q9]
    have gm9 := k9.obj (p := bm) lT.out.2.2.1 GM8.out
    have m9 : w9.cell? ⟨bm, 5, none⟩ = some (.bool false) := by simp [World.cell?, gm9]
    have K9 := Lib.hid ((K8.out.mono (T := TalkS c vo vg vc) fun _ h => h.elim).trans k9 fun b h => .inl (.inr (.inr (.inr (.inl h)))))
    have K9' := Lib.hid (K9.out.setCell (p := ⟨c.q4, 0, none⟩) (.inl (.inl rfl)) (.slice a9 n9 c9))
    have HB9 := Lib.hid hb9
    have Y9 := Lib.hid (k9.obj (p := w.heap.size) (fun e => by have := (H.out.ho.lt _ e).2; omega) (((Kept.refl Noneof (w6.setCell ⟨bm, 5, none⟩ (.bool false))).alloc (msgObj (.slice p1 n1 d1) (.slice p2 n2 d2) bd 0 0 false (.slice none 0 0))).obj (fun h => h) (((Kept.refl (fun b => b = bm) w6).setCell (p := ⟨bm, 5, none⟩) (.inl rfl) (.bool false)).obj (p := w.heap.size) (fun e => hbm1 e.symm) Y6.out)))
    clear o9 k9 hb9 q9 gm9 no9)
    go_wp2_with fail
    (
    have KQ := (Kept.refl (fun b => b = c.q4) w9).setCell (p := ⟨c.q4, 0, none⟩) (.inl rfl) (.slice a9 n9 c9)
    have Y10 := Lib.hid (KQ.obj (p := w.heap.size) (by have := H.out.lt; have := H.out.hB; omega) Y9.out)
    generalize w9.setCell ⟨c.q4, 0, none⟩ (.slice a9 n9 c9) = w10 at *
    have T10 := T9
    have K10 := K9'
    clear KQ z9 f9 m9 K9 T9 K9' Y9
    have h10 := T10.out
    have z5' : w10.cell? ⟨c.q5, 0, none⟩ = some vg := by simp [World.cell?, h10.h5]
    have z3' : w10.cell? ⟨c.q3, 0, none⟩ = some (bp c.m2) := by simp [World.cell?, h10.h3]
    have y10 := Y10.out
    have y0' : w10.cell? ⟨w.heap.size, 0, none⟩ = some (.slice a1 low.length c1) := by simp [World.cell?, y10]
    have y1' : w10.cell? ⟨w.heap.size, 1, none⟩ = some (.slice a2 high.length c2) := by simp [World.cell?, y10]
    have y2' : w10.cell? ⟨w.heap.size, 2, none⟩ = some (.bool bd) := by simp [World.cell?, y10]
    have HW6 := Lib.hid (show w.heap.size ≤ w6.heap.size from K6.out.size)
    clear h10 y10 m0 m1 m2 m3 m4 m5 m6 mf y0 y1 y2 z2 z3 z4 z5
    refine wp_region_chain 5 [3, 4] (fun w' => w'.cell? ⟨c.q5, 0, none⟩ = some vg ∧ w'.cell? ⟨c.q3, 0, none⟩ = some (bp c.m2) ∧ w'.cell? ⟨w.heap.size, 0, none⟩ = some (.slice a1 low.length c1) ∧ w'.cell? ⟨w.heap.size, 1, none⟩ = some (.slice a2 high.length c2) ∧ w'.cell? ⟨w.heap.size, 2, none⟩ = some (.bool bd)) (by kernel_rfl) (by kernel_rfl) ?_ ?_
    · exact ⟨z5', z3', y0', y1', y2'⟩
    simp only [List.take_succ_cons, List.take_zero, List.drop_succ_cons, List.drop_zero]
    iterate 3 (refine SeqY.val (v := ?_) (by rfl) (by rfl) (fun wx hSw => ?_) ?_; rotate_left; (focus ((try dsimp only at hSw); go_simp; (try with_reducible rfl))); (try simp only [Act.put, List.setIfInBounds_toArray, List.set_cons_zero, List.set_cons_succ]))
    refine SeqY.act (by rfl) rfl (by rfl) (by rfl) (fun K hK => ?_)
    go_simp
    have nS : ∀ b, R b → b < w.heap.size → ¬ TalkS c vo vg vc b := fun b hb _ e => by
      have := H.out.hR b hb
      rcases e with e | e | e | e | e | e
      · exact this.2.1.1 e
      · exact this.2.1.2.1 e
      · exact this.2.1.2.2 e
      · exact this.2.2.1 e
      · exact this.2.2.2.1 e
      · exact this.2.2.2.2 e
    refine (swkeys_calls (w := w10.drew) (T10.out.hm.at rfl) HU.out HG.out ((H1.out.kept byteEl_k K10.out nS).at rfl) ((H2.out.kept byteEl_k K10.out nS).at rfl)).mono ?_
    rintro e w11 ⟨v11, rfl, o11, k11⟩
    have k11 : Kept Noneof w10 w11 := ⟨k11.os, k11.tape, k11.output, k11.size, k11.block⟩
    have o11 : Own 31 bytesEl (fun b => w10.heap.size ≤ b) w10.heap.size w11 v11 (spanKeys u.pairs low high bd) := o11
    refine hK.out _ _ ⟨k11.cell (p := ⟨c.q5, 0, none⟩) (fun h => h) z5', k11.cell (p := ⟨c.q3, 0, none⟩) (fun h => h) z3', k11.cell (p := ⟨w.heap.size, 0, none⟩) (fun h => h) y0', k11.cell (p := ⟨w.heap.size, 1, none⟩) (fun h => h) y1', k11.cell (p := ⟨w.heap.size, 2, none⟩) (fun h => h) y2'⟩ ?_
    have t10 := T10.out
    have T11 := Lib.hid ((t10.kept0 k11).wide (R' := fun b => (R b ∨ (Value.slice p1 n1 d1).ownBlock = some b ∨ (Value.slice p2 n2 d2).ownBlock = some b) ∨ w10.heap.size ≤ b ∧ b < w11.heap.size) (fun b h => .inl h) fun b h => h.imp id fun h => ⟨h.2, by have := t10.hB; omega, fun e => by have := (t10.ho.lt b e).2; omega, fun e => by have := (t10.hg.lt b e).2; omega, fun e => by have := (t10.hc.lt b e).2; omega⟩)
    have S11 := Lib.hid (show SV bytesEl (fun b => w10.heap.size ≤ b ∧ b < w11.heap.size) w11 v11 (spanKeys u.pairs low high bd) from (o11.sv.bd bytesEl_k).wide bytesEl_k fun b h _ => by omega)
    have K11 := Lib.hid (K10.out.trans k11 fun _ h => h.elim)
    have K11n := Lib.hid k11
    have hkl : (spanKeys u.pairs low high bd).length ≤ 1000000 := by
      unfold spanKeys
      rw [List.length_map]
      exact Nat.le_trans (List.length_filter_le _ _) (by rw [Tr.pairs_len]; exact HU.out)
    have hby2 : (gl.length + (spanKeys u.pairs low high bd).length) * 24 ≤ 140737488355328 := by have := BG.out; omega
    have hR11 := Lib.hid T11.out.hR
    obtain ⟨a11, n11, c11, rfl⟩ := o11.slice'
    have hs10 := k11.size
    clear K hK o11 k11 t10 nS
    (try simp only [Act.put, List.setIfInBounds_toArray, List.set_cons_zero, List.set_cons_succ])
    refine SeqY.act (by rfl) rfl (by rfl) (by rfl) (fun K hK => ?_)
    refine wp_app_list (E := bytesEl) (.tmp 75) (.tmp 78) _ rfl tRows (D' := fun b => w10.heap.size ≤ b ∧ b < w11.heap.size) vg gl rfl T11.out.hg _ _ rfl S11.out (fun b h _ => ⟨.inr h, (hR11.out b (.inr h)).2.2.2.1⟩) hby2 (by decide) T11.out.hB ?_
    intro v12 w12 o12 k12 hb12
    have t11 := T11.out
    have lg := t11.hg.lt
    have lt := t11.lt
    have T12 := Lib.hid (t11.go k12 o12 hb12)
    have ng : ∀ b, b < c.B → vg.ownBlock ≠ some b := fun b hb e => by have := (lg b e).1; omega
    have nw : vg.ownBlock ≠ some w.heap.size := fun e => by have := (H.out.hg.lt _ e).2; omega
    have h5 := k12.obj (ng _ lt.2.2.2.1) t11.h5
    have h3 := k12.obj (ng _ lt.2.1) t11.h3
    have y12 := k12.obj (p := w.heap.size) nw (K11n.out.obj (fun h => h) Y10.out)
    have z12 : w12.cell? ⟨c.q5, 0, none⟩ = some vg := by simp [World.cell?, h5]
    have f12 : w12.frozen? ⟨c.q5, 0, none⟩ = false := by simp [World.frozen?, h5]
    refine hK.out _ _ ⟨z12, by simp [World.cell?, h3], by simp [World.cell?, y12], by simp [World.cell?, y12], by simp [World.cell?, y12]⟩ ?_
    have K12 := Lib.hid (K11.out.trans k12 fun b h => .inl (.inr (.inr (.inr (.inr (.inl h))))))
    obtain ⟨a12, n12, c12, rfl⟩ := o12.slice'
    have HB12 := Lib.hid hb12
    clear K hK o12 k12 t11 h5 h3 y12 hb12
    (try simp only [Act.put, List.setIfInBounds_toArray, List.set_cons_zero, List.set_cons_succ])
    refine SeqY.nil ?_
    go_wp2
    refine bodyPost_ret (results_none rfl _ _ _) rfl ?_
    have q1 : talk seed u .nil low high bd = [⟨low, high, bd, 0, 0, false, []⟩] := by simp only [talk, hs]
    have q2 : gones seed u .nil low high bd = spanKeys u.pairs low high bd := by simp only [gones, hs, if_neg, Bool.false_eq_true, not_false_eq_true]
    have q3 : comes seed u .nil low high bd = [] := rfl
    rw [q1, q2, q3, List.append_nil]
    have TF := T12.out
    have hw := HW6.out
    have hw10 := K10.out.size
    exact ⟨⟨_, rfl⟩, _, _, _, vc, TF, fun b h => .inl (.inl h), K12.out.setCell (p := ⟨c.q5, 0, none⟩) (.inl (.inr (.inl rfl))) _, fun b => ⟨fun e => (HB9.out b e).imp id fun h => by have := K8.out.size; omega, fun e => (HB12.out b e).imp id fun h => by omega, fun h => .inl h⟩⟩)
  | true =>
    rw [g1] at e1
    cases g2 : ((u.cut low true high bd).dg seed == 0) with
    | false =>
      have hs : sameAt seed u .nil low high bd = false := by unfold sameAt; rw [show Tr.nil.size = 0 from rfl, show Tr.dg seed Tr.nil = 0 from rfl, g1, g2]; rfl
      (
    have M7 := (Kept.refl (fun b => b = bm) w6).setCell (p := ⟨bm, 5, none⟩) (.inl rfl) (.bool false)
    have T7 := T6.out.kept M7 fun b e => by subst e; exact lT.out
    have OA7 := OA6.out.kept M7 fun b hb _ => ⟨fun h => h.elim, fun e => by have hb : b = bm := hb; subst hb; exact nA.out e⟩
    have OB7 := OB6.out.kept M7 fun b hb _ => ⟨fun h => h.elim, fun e => by have hb : b = bm := hb; subst hb; exact nB.out e⟩
    have GM7 := setCell_obj GM6.out (.bool false) (j := 5)
    have A7 := (Kept.refl Noneof (w6.setCell ⟨bm, 5, none⟩ (.bool false))).alloc (msgObj (.slice p1 n1 d1) (.slice p2 n2 d2) bd 0 0 false (.slice none 0 0))
    have G8 := heap_alloc_new (w6.setCell ⟨bm, 5, none⟩ (.bool false)) (msgObj (.slice p1 n1 d1) (.slice p2 n2 d2) bd 0 0 false (.slice none 0 0))
    rw [show (w6.setCell ⟨bm, 5, none⟩ (.bool false)).heap.size = w6.heap.size by simp] at G8
    have G8 := Lib.hid G8
    have OA8 := Lib.hid (OA7.kept A7 fun _ h => h.elim)
    have OB8 := Lib.hid (OB7.kept A7 fun _ h => h.elim)
    have GM8 := Lib.hid (A7.obj (fun h => h) GM7)
    have K8 := Lib.hid ((K6.out.trans M7 fun b e => .inr (by have := HBM.out; have := S0.out; omega)).trans A7 fun _ h => h.elim)
    have T8 := Lib.hid ((T7.kept0 A7).wide (R' := fun b => R b ∨ (Value.slice p1 n1 d1).ownBlock = some b ∨ (Value.slice p2 n2 d2).ownBlock = some b) (fun b h => .inl h) (by
      have t := H.out
      have e3 := t.hB
      have e2 := S0.out
      have la := OA8.out.lt
      have lb := OB8.out.lt
      have far : ∀ b, w1.heap.size ≤ b → b < ((w6.setCell ⟨bm, 5, none⟩ (.bool false)).alloc (msgObj (.slice p1 n1 d1) (.slice p2 n2 d2) bd 0 0 false (.slice none 0 0))).heap.size → b < ((w6.setCell ⟨bm, 5, none⟩ (.bool false)).alloc (msgObj (.slice p1 n1 d1) (.slice p2 n2 d2) bd 0 0 false (.slice none 0 0))).heap.size ∧ c.B ≤ b ∧ vo.ownBlock ≠ some b ∧ vg.ownBlock ≠ some b ∧ vc.ownBlock ≠ some b := fun b h1 h2 => ⟨h2, by omega, fun e => by have := (t.ho.lt b e).2; omega, fun e => by have := (t.hg.lt b e).2; omega, fun e => by have := (t.hc.lt b e).2; omega⟩
      rintro b (h | h | h)
      · exact .inl h
      · exact .inr (far b (la b h).1 (la b h).2)
      · exact .inr (far b (lb b h).1 (lb b h).2)))
    have hR8 := Lib.hid T8.out.hR
    have hB8 := T8.out.hB
    have bo := BO.out
    have BLA := Lib.hid (OA8.out.rd (D' := fun b => R b ∨ (Value.slice p1 n1 d1).ownBlock = some b ∨ (Value.slice p2 n2 d2).ownBlock = some b) (fun _ h => h.elim) fun b h => .inr (.inl h))
    have BLB := Lib.hid (OB8.out.rd (D' := fun b => R b ∨ (Value.slice p1 n1 d1).ownBlock = some b ∨ (Value.slice p2 n2 d2).ownBlock = some b) (fun _ h => h.elim) fun b h => .inr (.inr h))
    have HB8 := Lib.hid hB8
    have hby : (ol.length + 1) * 104 ≤ 140737488355328 := by omega
    clear M7 T7 OA7 OB7 GM7 A7 hB8 bo
    go_wp2_with (at_builtin; refine wl_app_one (E := msgEl) rfl (.tmp 68) (.tmp 70) _ rfl tMsgs (D' := fun b => R b ∨ (Value.slice p1 n1 d1).ownBlock = some b ∨ (Value.slice p2 n2 d2).ownBlock = some b) vo ol rfl T8.out.ho w6.heap.size _ ⟨low, high, bd, 0, 0, false, []⟩ rfl ⟨_, _, G8.out⟩ ⟨_, _, _, rfl, BLA.out, BLB.out, SV.nilv _ _ _⟩ (fun b h _ => ⟨h, (hR8.out b h).2.2.1⟩) hby (by decide) HB8.out ?_)
    intro v9 w9 o9 k9 hb9
    have hb9 : ∀ b, v9.ownBlock = some b → vo.ownBlock = some b ∨ ((w6.setCell ⟨bm, 5, none⟩ (.bool false)).alloc (msgObj (.slice p1 n1 d1) (.slice p2 n2 d2) bd 0 0 false (.slice none 0 0))).heap.size ≤ b := fun b e => by have := hb9 b e; simpa using this
    have T9 := Lib.hid (T8.out.say k9 o9 hb9)
    have LV := Lib.hid o9.lt
    obtain ⟨a9, n9, c9, rfl⟩ := o9.slice'
    have no9 : ∀ b, b < c.B → vo.ownBlock ≠ some b := fun b hb e => by have := (T8.out.ho.lt b e).1; omega
    have q9 : w9.heap[c.q4]? = some (.cells #[vo] 85) := k9.obj (no9 _ T8.out.lt.2.2.1) T8.out.h4
    have z9 : w9.cell? ⟨c.q4, 0, none⟩ = some vo := by simp [World.cell?, q9]
    have f9 : w9.frozen? ⟨c.q4, 0, none⟩ = false := by simp [World.frozen?, q9]
    have gm9 := k9.obj (p := bm) lT.out.2.2.1 GM8.out
    have m9 : w9.cell? ⟨bm, 5, none⟩ = some (.bool false) := by simp [World.cell?, gm9]
    have K9 := Lib.hid ((K8.out.mono (T := TalkS c vo vg vc) fun _ h => h.elim).trans k9 fun b h => .inl (.inr (.inr (.inr (.inl h)))))
    have K9' := Lib.hid (K9.out.setCell (p := ⟨c.q4, 0, none⟩) (.inl (.inl rfl)) (.slice a9 n9 c9))
    have HB9 := Lib.hid hb9
    have Y9 := Lib.hid (k9.obj (p := w.heap.size) (fun e => by have := (H.out.ho.lt _ e).2; omega) (((Kept.refl Noneof (w6.setCell ⟨bm, 5, none⟩ (.bool false))).alloc (msgObj (.slice p1 n1 d1) (.slice p2 n2 d2) bd 0 0 false (.slice none 0 0))).obj (fun h => h) (((Kept.refl (fun b => b = bm) w6).setCell (p := ⟨bm, 5, none⟩) (.inl rfl) (.bool false)).obj (p := w.heap.size) (fun e => hbm1 e.symm) Y6.out)))
    clear o9 k9 hb9 q9 gm9 no9)
      go_wp2_with fail
      (
    have KQ := (Kept.refl (fun b => b = c.q4) w9).setCell (p := ⟨c.q4, 0, none⟩) (.inl rfl) (.slice a9 n9 c9)
    have Y10 := Lib.hid (KQ.obj (p := w.heap.size) (by have := H.out.lt; have := H.out.hB; omega) Y9.out)
    generalize w9.setCell ⟨c.q4, 0, none⟩ (.slice a9 n9 c9) = w10 at *
    have T10 := T9
    have K10 := K9'
    clear KQ z9 f9 m9 K9 T9 K9' Y9
    have h10 := T10.out
    have z5' : w10.cell? ⟨c.q5, 0, none⟩ = some vg := by simp [World.cell?, h10.h5]
    have z3' : w10.cell? ⟨c.q3, 0, none⟩ = some (bp c.m2) := by simp [World.cell?, h10.h3]
    have y10 := Y10.out
    have y0' : w10.cell? ⟨w.heap.size, 0, none⟩ = some (.slice a1 low.length c1) := by simp [World.cell?, y10]
    have y1' : w10.cell? ⟨w.heap.size, 1, none⟩ = some (.slice a2 high.length c2) := by simp [World.cell?, y10]
    have y2' : w10.cell? ⟨w.heap.size, 2, none⟩ = some (.bool bd) := by simp [World.cell?, y10]
    have HW6 := Lib.hid (show w.heap.size ≤ w6.heap.size from K6.out.size)
    clear h10 y10 m0 m1 m2 m3 m4 m5 m6 mf y0 y1 y2 z2 z3 z4 z5
    refine wp_region_chain 5 [3, 4] (fun w' => w'.cell? ⟨c.q5, 0, none⟩ = some vg ∧ w'.cell? ⟨c.q3, 0, none⟩ = some (bp c.m2) ∧ w'.cell? ⟨w.heap.size, 0, none⟩ = some (.slice a1 low.length c1) ∧ w'.cell? ⟨w.heap.size, 1, none⟩ = some (.slice a2 high.length c2) ∧ w'.cell? ⟨w.heap.size, 2, none⟩ = some (.bool bd)) (by kernel_rfl) (by kernel_rfl) ?_ ?_
    · exact ⟨z5', z3', y0', y1', y2'⟩
    simp only [List.take_succ_cons, List.take_zero, List.drop_succ_cons, List.drop_zero]
    iterate 3 (refine SeqY.val (v := ?_) (by rfl) (by rfl) (fun wx hSw => ?_) ?_; rotate_left; (focus ((try dsimp only at hSw); go_simp; (try with_reducible rfl))); (try simp only [Act.put, List.setIfInBounds_toArray, List.set_cons_zero, List.set_cons_succ]))
    refine SeqY.act (by rfl) rfl (by rfl) (by rfl) (fun K hK => ?_)
    go_simp
    have nS : ∀ b, R b → b < w.heap.size → ¬ TalkS c vo vg vc b := fun b hb _ e => by
      have := H.out.hR b hb
      rcases e with e | e | e | e | e | e
      · exact this.2.1.1 e
      · exact this.2.1.2.1 e
      · exact this.2.1.2.2 e
      · exact this.2.2.1 e
      · exact this.2.2.2.1 e
      · exact this.2.2.2.2 e
    refine (swkeys_calls (w := w10.drew) (T10.out.hm.at rfl) HU.out HG.out ((H1.out.kept byteEl_k K10.out nS).at rfl) ((H2.out.kept byteEl_k K10.out nS).at rfl)).mono ?_
    rintro e w11 ⟨v11, rfl, o11, k11⟩
    have k11 : Kept Noneof w10 w11 := ⟨k11.os, k11.tape, k11.output, k11.size, k11.block⟩
    have o11 : Own 31 bytesEl (fun b => w10.heap.size ≤ b) w10.heap.size w11 v11 (spanKeys u.pairs low high bd) := o11
    refine hK.out _ _ ⟨k11.cell (p := ⟨c.q5, 0, none⟩) (fun h => h) z5', k11.cell (p := ⟨c.q3, 0, none⟩) (fun h => h) z3', k11.cell (p := ⟨w.heap.size, 0, none⟩) (fun h => h) y0', k11.cell (p := ⟨w.heap.size, 1, none⟩) (fun h => h) y1', k11.cell (p := ⟨w.heap.size, 2, none⟩) (fun h => h) y2'⟩ ?_
    have t10 := T10.out
    have T11 := Lib.hid ((t10.kept0 k11).wide (R' := fun b => (R b ∨ (Value.slice p1 n1 d1).ownBlock = some b ∨ (Value.slice p2 n2 d2).ownBlock = some b) ∨ w10.heap.size ≤ b ∧ b < w11.heap.size) (fun b h => .inl h) fun b h => h.imp id fun h => ⟨h.2, by have := t10.hB; omega, fun e => by have := (t10.ho.lt b e).2; omega, fun e => by have := (t10.hg.lt b e).2; omega, fun e => by have := (t10.hc.lt b e).2; omega⟩)
    have S11 := Lib.hid (show SV bytesEl (fun b => w10.heap.size ≤ b ∧ b < w11.heap.size) w11 v11 (spanKeys u.pairs low high bd) from (o11.sv.bd bytesEl_k).wide bytesEl_k fun b h _ => by omega)
    have K11 := Lib.hid (K10.out.trans k11 fun _ h => h.elim)
    have K11n := Lib.hid k11
    have hkl : (spanKeys u.pairs low high bd).length ≤ 1000000 := by
      unfold spanKeys
      rw [List.length_map]
      exact Nat.le_trans (List.length_filter_le _ _) (by rw [Tr.pairs_len]; exact HU.out)
    have hby2 : (gl.length + (spanKeys u.pairs low high bd).length) * 24 ≤ 140737488355328 := by have := BG.out; omega
    have hR11 := Lib.hid T11.out.hR
    obtain ⟨a11, n11, c11, rfl⟩ := o11.slice'
    have hs10 := k11.size
    clear K hK o11 k11 t10 nS
    (try simp only [Act.put, List.setIfInBounds_toArray, List.set_cons_zero, List.set_cons_succ])
    refine SeqY.act (by rfl) rfl (by rfl) (by rfl) (fun K hK => ?_)
    refine wp_app_list (E := bytesEl) (.tmp 75) (.tmp 78) _ rfl tRows (D' := fun b => w10.heap.size ≤ b ∧ b < w11.heap.size) vg gl rfl T11.out.hg _ _ rfl S11.out (fun b h _ => ⟨.inr h, (hR11.out b (.inr h)).2.2.2.1⟩) hby2 (by decide) T11.out.hB ?_
    intro v12 w12 o12 k12 hb12
    have t11 := T11.out
    have lg := t11.hg.lt
    have lt := t11.lt
    have T12 := Lib.hid (t11.go k12 o12 hb12)
    have ng : ∀ b, b < c.B → vg.ownBlock ≠ some b := fun b hb e => by have := (lg b e).1; omega
    have nw : vg.ownBlock ≠ some w.heap.size := fun e => by have := (H.out.hg.lt _ e).2; omega
    have h5 := k12.obj (ng _ lt.2.2.2.1) t11.h5
    have h3 := k12.obj (ng _ lt.2.1) t11.h3
    have y12 := k12.obj (p := w.heap.size) nw (K11n.out.obj (fun h => h) Y10.out)
    have z12 : w12.cell? ⟨c.q5, 0, none⟩ = some vg := by simp [World.cell?, h5]
    have f12 : w12.frozen? ⟨c.q5, 0, none⟩ = false := by simp [World.frozen?, h5]
    refine hK.out _ _ ⟨z12, by simp [World.cell?, h3], by simp [World.cell?, y12], by simp [World.cell?, y12], by simp [World.cell?, y12]⟩ ?_
    have K12 := Lib.hid (K11.out.trans k12 fun b h => .inl (.inr (.inr (.inr (.inr (.inl h))))))
    obtain ⟨a12, n12, c12, rfl⟩ := o12.slice'
    have HB12 := Lib.hid hb12
    clear K hK o12 k12 t11 h5 h3 y12 hb12
    (try simp only [Act.put, List.setIfInBounds_toArray, List.set_cons_zero, List.set_cons_succ])
    refine SeqY.nil ?_
    go_wp2
    refine bodyPost_ret (results_none rfl _ _ _) rfl ?_
    have q1 : talk seed u .nil low high bd = [⟨low, high, bd, 0, 0, false, []⟩] := by simp only [talk, hs]
    have q2 : gones seed u .nil low high bd = spanKeys u.pairs low high bd := by simp only [gones, hs, if_neg, Bool.false_eq_true, not_false_eq_true]
    have q3 : comes seed u .nil low high bd = [] := rfl
    rw [q1, q2, q3, List.append_nil]
    have TF := T12.out
    have hw := HW6.out
    have hw10 := K10.out.size
    exact ⟨⟨_, rfl⟩, _, _, _, vc, TF, fun b h => .inl (.inl h), K12.out.setCell (p := ⟨c.q5, 0, none⟩) (.inl (.inr (.inl rfl))) _, fun b => ⟨fun e => (HB9.out b e).imp id fun h => by have := K8.out.size; omega, fun e => (HB12.out b e).imp id fun h => by omega, fun h => .inl h⟩⟩)
    | true =>
      have hs : sameAt seed u .nil low high bd = true := by simp only [sameAt, Tr.size, Tr.dg, g1, g2, Bool.and_self]
      (
    have M7 := (Kept.refl (fun b => b = bm) w6).setCell (p := ⟨bm, 5, none⟩) (.inl rfl) (.bool true)
    have T7 := T6.out.kept M7 fun b e => by subst e; exact lT.out
    have OA7 := OA6.out.kept M7 fun b hb _ => ⟨fun h => h.elim, fun e => by have hb : b = bm := hb; subst hb; exact nA.out e⟩
    have OB7 := OB6.out.kept M7 fun b hb _ => ⟨fun h => h.elim, fun e => by have hb : b = bm := hb; subst hb; exact nB.out e⟩
    have GM7 := setCell_obj GM6.out (.bool true) (j := 5)
    have A7 := (Kept.refl Noneof (w6.setCell ⟨bm, 5, none⟩ (.bool true))).alloc (msgObj (.slice p1 n1 d1) (.slice p2 n2 d2) bd 0 0 true (.slice none 0 0))
    have G8 := heap_alloc_new (w6.setCell ⟨bm, 5, none⟩ (.bool true)) (msgObj (.slice p1 n1 d1) (.slice p2 n2 d2) bd 0 0 true (.slice none 0 0))
    rw [show (w6.setCell ⟨bm, 5, none⟩ (.bool true)).heap.size = w6.heap.size by simp] at G8
    have G8 := Lib.hid G8
    have OA8 := Lib.hid (OA7.kept A7 fun _ h => h.elim)
    have OB8 := Lib.hid (OB7.kept A7 fun _ h => h.elim)
    have GM8 := Lib.hid (A7.obj (fun h => h) GM7)
    have K8 := Lib.hid ((K6.out.trans M7 fun b e => .inr (by have := HBM.out; have := S0.out; omega)).trans A7 fun _ h => h.elim)
    have T8 := Lib.hid ((T7.kept0 A7).wide (R' := fun b => R b ∨ (Value.slice p1 n1 d1).ownBlock = some b ∨ (Value.slice p2 n2 d2).ownBlock = some b) (fun b h => .inl h) (by
      have t := H.out
      have e3 := t.hB
      have e2 := S0.out
      have la := OA8.out.lt
      have lb := OB8.out.lt
      have far : ∀ b, w1.heap.size ≤ b → b < ((w6.setCell ⟨bm, 5, none⟩ (.bool true)).alloc (msgObj (.slice p1 n1 d1) (.slice p2 n2 d2) bd 0 0 true (.slice none 0 0))).heap.size → b < ((w6.setCell ⟨bm, 5, none⟩ (.bool true)).alloc (msgObj (.slice p1 n1 d1) (.slice p2 n2 d2) bd 0 0 true (.slice none 0 0))).heap.size ∧ c.B ≤ b ∧ vo.ownBlock ≠ some b ∧ vg.ownBlock ≠ some b ∧ vc.ownBlock ≠ some b := fun b h1 h2 => ⟨h2, by omega, fun e => by have := (t.ho.lt b e).2; omega, fun e => by have := (t.hg.lt b e).2; omega, fun e => by have := (t.hc.lt b e).2; omega⟩
      rintro b (h | h | h)
      · exact .inl h
      · exact .inr (far b (la b h).1 (la b h).2)
      · exact .inr (far b (lb b h).1 (lb b h).2)))
    have hR8 := Lib.hid T8.out.hR
    have hB8 := T8.out.hB
    have bo := BO.out
    have BLA := Lib.hid (OA8.out.rd (D' := fun b => R b ∨ (Value.slice p1 n1 d1).ownBlock = some b ∨ (Value.slice p2 n2 d2).ownBlock = some b) (fun _ h => h.elim) fun b h => .inr (.inl h))
    have BLB := Lib.hid (OB8.out.rd (D' := fun b => R b ∨ (Value.slice p1 n1 d1).ownBlock = some b ∨ (Value.slice p2 n2 d2).ownBlock = some b) (fun _ h => h.elim) fun b h => .inr (.inr h))
    have HB8 := Lib.hid hB8
    have hby : (ol.length + 1) * 104 ≤ 140737488355328 := by omega
    clear M7 T7 OA7 OB7 GM7 A7 hB8 bo
    go_wp2_with (at_builtin; refine wl_app_one (E := msgEl) rfl (.tmp 68) (.tmp 70) _ rfl tMsgs (D' := fun b => R b ∨ (Value.slice p1 n1 d1).ownBlock = some b ∨ (Value.slice p2 n2 d2).ownBlock = some b) vo ol rfl T8.out.ho w6.heap.size _ ⟨low, high, bd, 0, 0, true, []⟩ rfl ⟨_, _, G8.out⟩ ⟨_, _, _, rfl, BLA.out, BLB.out, SV.nilv _ _ _⟩ (fun b h _ => ⟨h, (hR8.out b h).2.2.1⟩) hby (by decide) HB8.out ?_)
    intro v9 w9 o9 k9 hb9
    have hb9 : ∀ b, v9.ownBlock = some b → vo.ownBlock = some b ∨ ((w6.setCell ⟨bm, 5, none⟩ (.bool true)).alloc (msgObj (.slice p1 n1 d1) (.slice p2 n2 d2) bd 0 0 true (.slice none 0 0))).heap.size ≤ b := fun b e => by have := hb9 b e; simpa using this
    have T9 := Lib.hid (T8.out.say k9 o9 hb9)
    have LV := Lib.hid o9.lt
    obtain ⟨a9, n9, c9, rfl⟩ := o9.slice'
    have no9 : ∀ b, b < c.B → vo.ownBlock ≠ some b := fun b hb e => by have := (T8.out.ho.lt b e).1; omega
    have q9 : w9.heap[c.q4]? = some (.cells #[vo] 85) := k9.obj (no9 _ T8.out.lt.2.2.1) T8.out.h4
    have z9 : w9.cell? ⟨c.q4, 0, none⟩ = some vo := by simp [World.cell?, q9]
    have f9 : w9.frozen? ⟨c.q4, 0, none⟩ = false := by simp [World.frozen?, q9]
    have gm9 := k9.obj (p := bm) lT.out.2.2.1 GM8.out
    have m9 : w9.cell? ⟨bm, 5, none⟩ = some (.bool true) := by simp [World.cell?, gm9]
    have K9 := Lib.hid ((K8.out.mono (T := TalkS c vo vg vc) fun _ h => h.elim).trans k9 fun b h => .inl (.inr (.inr (.inr (.inl h)))))
    have K9' := Lib.hid (K9.out.setCell (p := ⟨c.q4, 0, none⟩) (.inl (.inl rfl)) (.slice a9 n9 c9))
    have HB9 := Lib.hid hb9
    have Y9 := Lib.hid (k9.obj (p := w.heap.size) (fun e => by have := (H.out.ho.lt _ e).2; omega) (((Kept.refl Noneof (w6.setCell ⟨bm, 5, none⟩ (.bool true))).alloc (msgObj (.slice p1 n1 d1) (.slice p2 n2 d2) bd 0 0 true (.slice none 0 0))).obj (fun h => h) (((Kept.refl (fun b => b = bm) w6).setCell (p := ⟨bm, 5, none⟩) (.inl rfl) (.bool true)).obj (p := w.heap.size) (fun e => hbm1 e.symm) Y6.out)))
    clear o9 k9 hb9 q9 gm9 no9)
      go_wp2
      refine bodyPost_ret (results_none rfl _ _ _) rfl ?_
      have q1 : talk seed u .nil low high bd = [⟨low, high, bd, 0, 0, true, []⟩] := by simp only [talk, hs]
      have q2 : gones seed u .nil low high bd = [] := by simp only [gones, hs, if_pos]
      have q3 : comes seed u .nil low high bd = [] := rfl
      rw [q1, q2, q3, List.append_nil, List.append_nil]
      have TF := T9.out
      exact ⟨⟨_, rfl⟩, _, _, vg, vc, TF, fun b h => .inl h, K9'.out, fun b => ⟨fun e => (HB9.out b e).imp id fun h => by have := K8.out.size; omega, fun h => .inl h, fun h => .inl h⟩⟩
end Go.Proofs.Ytaopjdjbpamhhaa
/- Proved: contract of the talk of a mirror (Mirror's closure), where a span has a node. Conditions: what TalkIn says. -/
namespace Go.Proofs.Ytaopjdjbpamhhaa
open Go Go.RowKit
set_option linter.unusedVariables false
set_option linter.unusedSimpArgs false

theorem Rd.node {D : Nat → Prop} {w : World} {a : Option Addr} {l : List ND} (h : Rd nodeEl D w a l) {i : Nat} (hi : i < l.length) : ∃ b o u v, a = some ⟨b, o, none⟩ ∧ D b ∧ w.cell? ⟨b, o + i * 6, none⟩ = some u ∧ w.cell? ⟨b, o + i * 6 + 1, none⟩ = some v ∧ w.cell? ⟨b, o + i * 6 + 2, none⟩ = some (.int .u64 l[i].dg) ∧ w.cell? ⟨b, o + i * 6 + 3, none⟩ = some (.int .i64 l[i].size) ∧ w.cell? ⟨b, o + i * 6 + 4, none⟩ = some (.int .i64 l[i].left) ∧ w.cell? ⟨b, o + i * 6 + 5, none⟩ = some (.int .i64 l[i].right) ∧ BV D w u l[i].k ∧ BV D w v l[i].v := by
  obtain ⟨b, o, cs, rfl, hD, hc, u, v, rfl, h1, h2⟩ := h i hi
  have k : nodeEl.k = 6 := rfl
  rw [k] at hc
  exact ⟨b, o, u, v, rfl, hD, hc 0 (by simp), hc 1 (by simp), hc 2 (by simp), hc 3 (by simp), hc 4 (by simp), hc 5 (by simp), h1, h2⟩

theorem TalkS.tr {c : TK} {vo vg vc vo' vg' vc' : Value} {n : Nat} (h : ∀ b, (vo'.ownBlock = some b → vo.ownBlock = some b ∨ n ≤ b) ∧ (vg'.ownBlock = some b → vg.ownBlock = some b ∨ n ≤ b) ∧ (vc'.ownBlock = some b → vc.ownBlock = some b ∨ n ≤ b)) (b : Nat) (hb : TalkS c vo' vg' vc' b) : TalkS c vo vg vc b ∨ n ≤ b := by
  rcases hb with e | e | e | e | e | e
  · exact .inl (.inl e)
  · exact .inl (.inr (.inl e))
  · exact .inl (.inr (.inr (.inl e)))
  · exact ((h b).1 e).imp (fun e => .inr (.inr (.inr (.inl e)))) id
  · exact ((h b).2.1 e).imp (fun e => .inr (.inr (.inr (.inr (.inl e))))) id
  · exact ((h b).2.2 e).imp (fun e => .inr (.inr (.inr (.inr (.inr e))))) id
theorem TalkIn.notS {seed : Int} {u : Tr} {c : TK} {R : Nat → Prop} {vo vg vc : Value} {w : World} {ol : List Msg} {gl : List Bts} {cl : List (Bts × Bts)} (h : TalkIn seed u c R vo vg vc w ol gl cl) (b : Nat) (hb : R b) : ¬ TalkS c vo vg vc b := fun e => by
  have := h.hR b hb
  rcases e with e | e | e | e | e | e
  · exact this.2.1.1 e
  · exact this.2.1.2.1 e
  · exact this.2.1.2.2 e
  · exact this.2.2.1 e
  · exact this.2.2.2.1 e
  · exact this.2.2.2.2 e
theorem TalkIn.newS {seed : Int} {u : Tr} {c : TK} {R : Nat → Prop} {vo vg vc : Value} {w : World} {ol : List Msg} {gl : List Bts} {cl : List (Bts × Bts)} (h : TalkIn seed u c R vo vg vc w ol gl cl) (b : Nat) (hb : w.heap.size ≤ b) : ¬ TalkS c vo vg vc b := fun e => by
  have l := h.lt
  have hB := h.hB
  rcases e with e | e | e | e | e | e
  · omega
  · omega
  · omega
  · have := (h.ho.lt b e).2; omega
  · have := (h.hg.lt b e).2; omega
  · have := (h.hc.lt b e).2; omega
theorem talk_le (seed : Int) (u : Tr) : ∀ (t : Tr) (low high : Bts) (bd : Bool), (talk seed u t low high bd).length ≤ 2 * t.size + 1
  | .nil, _, _, _ => by simp [talk]
  | .nd l k v r, low, high, bd => by
    have h1 := talk_le seed u l low k true
    have h2 := talk_le seed u r (k ++ [0]) high bd
    rw [talk]
    split
    · simp
    · simp only [List.length_cons, List.length_append, Tr.size]; omega
theorem gones_le (seed : Int) (u : Tr) (hu : u.size ≤ 1000000) : ∀ (t : Tr) (low high : Bts) (bd : Bool), (gones seed u t low high bd).length ≤ (t.size + 1) * 1000000
  | .nil, low, high, bd => by
    rw [gones]
    split
    · simp
    · unfold spanKeys
      rw [List.length_map]
      exact Nat.le_trans (List.length_filter_le _ _) (by rw [Tr.pairs_len]; simp [Tr.size]; exact hu)
  | .nd l k v r, low, high, bd => by
    have h1 := gones_le seed u hu l low k true
    have h2 := gones_le seed u hu r (k ++ [0]) high bd
    rw [gones]
    split
    · simp
    · simp only [List.length_append, Tr.size]; omega
theorem comes_le (seed : Int) (u : Tr) : ∀ (t : Tr) (low high : Bts) (bd : Bool), (comes seed u t low high bd).length ≤ t.size
  | .nil, _, _, _ => by simp [comes]
  | .nd l k v r, low, high, bd => by
    have h1 := comes_le seed u l low k true
    have h2 := comes_le seed u r (k ++ [0]) high bd
    rw [comes]
    split
    · simp
    · simp only [List.length_cons, List.length_append, Tr.size]; omega
theorem talk_bnd1 {o g cc ls rs : Nat} (b1 : o + 2 * (1 + ls + rs) + 1 ≤ 1000000) (b2 : g + (1 + ls + rs + 1) * 1000000 ≤ 1000000000000) (b3 : cc + (1 + ls + rs) ≤ 1000000) : o + 1 + 2 * ls + 1 ≤ 1000000 ∧ g + (ls + 1) * 1000000 ≤ 1000000000000 ∧ cc + 1 + ls ≤ 1000000 := by omega
theorem talk_bnd2 {o g cc ls rs a b d : Nat} (b1 : o + 2 * (1 + ls + rs) + 1 ≤ 1000000) (b2 : g + (1 + ls + rs + 1) * 1000000 ≤ 1000000000000) (b3 : cc + (1 + ls + rs) ≤ 1000000) (h1 : a ≤ 2 * ls + 1) (h2 : b ≤ (ls + 1) * 1000000) (h3 : d ≤ ls) : o + 1 + a + 2 * rs + 1 ≤ 1000000 ∧ g + b + (rs + 1) * 1000000 ≤ 1000000000000 ∧ cc + 1 + d + rs ≤ 1000000 := by omega
theorem len_one {α : Type} (l : List α) (x : α) : (l ++ [x]).length = l.length + 1 := by simp
theorem sv_pair1 {D : Nat → Prop} {w : World} {g : Nat} {a b : Value} {t : TypeId} {k v : Bts} (h : w.heap[g]? = some (.cells #[a, b] t)) (hD : D g) (h1 : BV D w a k) (h2 : BV D w b v) : SV pairEl D w (.slice (some ⟨g, 0, none⟩) 1 1) [(k, v)] := by
  refine ⟨_, _, rfl, ⟨by simp, fun h => by cases h⟩, by simp, fun i hi => ?_⟩
  obtain rfl : i = 0 := by simpa using hi
  refine ⟨g, 0, [a, b], rfl, hD, fun j hj => ?_, _, _, rfl, h1, h2⟩
  have hj : j < 2 := hj
  simp only [World.cell?, h, Nat.zero_mul, Nat.zero_add]
  rcases j with _ | _ | j
  · rfl
  · rfl
  · omega

set_option maxRecDepth 100000 in
set_option maxHeartbeats 8000000 in
theorem swMirror_1_nd {seed : Int} {u : Tr} {c : TK} (hg : Srt u.pairs) (hu : u.size ≤ 1000000) {l r : Tr} {k v : Bts} (hkv : 1 ≤ k.length ∧ k.length ≤ 64 ∧ v.length ≤ 1000) (hcL : c.L.length ≤ 1000000)
    (il : ∀ (R : Nat → Prop) (vo vg vc : Value) (w : World) (ol : List Msg) (gl : List Bts) (cl : List (Bts × Bts)) (lo hi : Value) (low high : Bts) (bd : Bool) (at' : Int), TalkIn seed u c R vo vg vc w ol gl cl → BV R w lo low → BV R w hi high → NodesAt seed c.L l at' → ol.length + 2 * l.size + 1 ≤ 1000000 → gl.length + (l.size + 1) * 1000000 ≤ 1000000000000 → cl.length + l.size ≤ 1000000 →
      Calls Try.prog 117 #[.agg #[lo, hi, .bool bd], .int .i64 at', bp c.q2, bp c.q3, bp c.q4, bp c.q5, bp c.q6, bp c.q7] w (TalkPost seed u c R vo vg vc w (ol ++ talk seed u l low high bd) (gl ++ gones seed u l low high bd) (cl ++ comes seed u l low high bd)))
    (ir : ∀ (R : Nat → Prop) (vo vg vc : Value) (w : World) (ol : List Msg) (gl : List Bts) (cl : List (Bts × Bts)) (lo hi : Value) (low high : Bts) (bd : Bool) (at' : Int), TalkIn seed u c R vo vg vc w ol gl cl → BV R w lo low → BV R w hi high → NodesAt seed c.L r at' → ol.length + 2 * r.size + 1 ≤ 1000000 → gl.length + (r.size + 1) * 1000000 ≤ 1000000000000 → cl.length + r.size ≤ 1000000 →
      Calls Try.prog 117 #[.agg #[lo, hi, .bool bd], .int .i64 at', bp c.q2, bp c.q3, bp c.q4, bp c.q5, bp c.q6, bp c.q7] w (TalkPost seed u c R vo vg vc w (ol ++ talk seed u r low high bd) (gl ++ gones seed u r low high bd) (cl ++ comes seed u r low high bd)))
    {R : Nat → Prop} {vo vg vc : Value} {w : World} {ol : List Msg} {gl : List Bts} {cl : List (Bts × Bts)} {lo hi : Value} {low high : Bts} {bd : Bool} {at' : Int}
    (h : TalkIn seed u c R vo vg vc w ol gl cl) (h1 : BV R w lo low) (h2 : BV R w hi high) (hn : NodesAt seed c.L (.nd l k v r) at') (b1 : ol.length + 2 * (Tr.nd l k v r).size + 1 ≤ 1000000) (b2 : gl.length + ((Tr.nd l k v r).size + 1) * 1000000 ≤ 1000000000000) (b3 : cl.length + (Tr.nd l k v r).size ≤ 1000000) :
    Calls Try.prog 117 #[.agg #[lo, hi, .bool bd], .int .i64 at', bp c.q2, bp c.q3, bp c.q4, bp c.q5, bp c.q6, bp c.q7] w
      (TalkPost seed u c R vo vg vc w (ol ++ talk seed u (.nd l k v r) low high bd) (gl ++ gones seed u (.nd l k v r) low high bd) (cl ++ comes seed u (.nd l k v r) low high bd)) := by
  obtain ⟨i, rfl, hLt, hL, hkl, hkr⟩ := hn.kids
  have H := Lib.hid h
  have H1 := Lib.hid h1
  have H2 := Lib.hid h2
  have HG := Lib.hid hg
  have HU := Lib.hid hu
  have BO := Lib.hid (show ol.length ≤ 1000000 by omega)
  have BO1 := Lib.hid b1
  have BG1 := Lib.hid b2
  have BC1 := Lib.hid b3
  have IL := Lib.hid il
  have IR := Lib.hid ir
  have NL := Lib.hid hkl
  have NR := Lib.hid hkr
  have KV := Lib.hid hkv
  have CL := Lib.hid hcL
  obtain ⟨a1, c1, rfl, _⟩ := h1
  obtain ⟨a2, c2, rfl, _⟩ := h2
  clear h hg hu b1 b2 b3 il ir hkl hkr hkv hn hcL
  go_enter Try.func117, Try.ntmps117
  go_wp2_with fail
  (
  have G0 := heap_alloc_new w (.cells #[.slice a1 low.length c1, .slice a2 high.length c2, .bool bd] 170)
  have K0 := (Kept.refl Noneof w).alloc (.cells #[.slice a1 low.length c1, .slice a2 high.length c2, .bool bd] 170)
  have s0 : (w.alloc (.cells #[.slice a1 low.length c1, .slice a2 high.length c2, .bool bd] 170)).heap.size = w.heap.size + 1 := by simp
  generalize w.alloc (.cells #[.slice a1 low.length c1, .slice a2 high.length c2, .bool bd] 170) = w1 at *
  have G0 := Lib.hid G0
  have K0 := Lib.hid K0
  have S0 := Lib.hid s0
  clear s0
  refine wp_region_kept 10 [(2, .act IsSlice fun u wx => Own 5 byteEl Noneof w1.heap.size wx u low), (5, .act IsSlice fun u wx => Own 5 byteEl Noneof w1.heap.size wx u high), (9, .act IsPtr fun u wx => ∃ b, u = bp b ∧ w1.heap.size ≤ b ∧ wx.heap[b]? = some (msgObj (.slice none 0 0) (.slice none 0 0) false 0 0 false (.slice none 0 0)))] Noneof (by kernel_rfl) (by kernel_rfl) (by kernel_rfl) ?_; simp only [List.take_succ_cons, List.take_zero, List.drop_succ_cons, List.drop_zero]
  have hS : ∀ w', Kept Noneof w1 w' → w'.cell? ⟨w.heap.size, 0, none⟩ = some (.slice a1 low.length c1) ∧ w'.cell? ⟨w.heap.size, 1, none⟩ = some (.slice a2 high.length c2) ∧ w'.cell? ⟨w.heap.size, 2, none⟩ = some (.bool bd) := fun w' k => by
    have := k.obj (p := w.heap.size) (fun h => h) G0.out
    simp [World.cell?, this]
  iterate 2 (refine SeqL.val (v := ?_) hS rfl (by rfl) (fun wx hSw => ?_) ?_; rotate_left; (focus ((try dsimp only at hSw); go_simp; (try with_reducible rfl))); (try simp only [Act.put, List.setIfInBounds_toArray, List.set_cons_zero, List.set_cons_succ]))
  refine SeqL.act rfl rfl (by rfl) (by rfl) isSlice (fun wx hx hh K hK => ?_) (fun u1 hu1 => ?_)
  · go_simp
    refine (byClone_calls (H1.out.kept byteEl_k (K0.out.tr hx) fun _ _ _ h => h)).mono ?_
    rintro e w2 ⟨v', rfl, o1, k1⟩
    exact hK.out v' w2 o1.slice' k1 (o1.base hx.size)
  obtain ⟨p1, n1, d1, rfl⟩ := hu1
  (try simp only [Act.put, List.setIfInBounds_toArray, List.set_cons_zero, List.set_cons_succ])
  iterate 2 (refine SeqL.val (v := ?_) hS rfl (by rfl) (fun wx hSw => ?_) ?_; rotate_left; (focus ((try dsimp only at hSw); go_simp; (try with_reducible rfl))); (try simp only [Act.put, List.setIfInBounds_toArray, List.set_cons_zero, List.set_cons_succ]))
  refine SeqL.act rfl rfl (by rfl) (by rfl) isSlice (fun wx hx hh K hK => ?_) (fun u1 hu1 => ?_)
  · go_simp
    refine (byClone_calls (H2.out.kept byteEl_k (K0.out.tr hx) fun _ _ _ h => h)).mono ?_
    rintro e w2 ⟨v', rfl, o1, k1⟩
    exact hK.out v' w2 o1.slice' k1 (o1.base hx.size)
  obtain ⟨p2, n2, d2, rfl⟩ := hu1
  (try simp only [Act.put, List.setIfInBounds_toArray, List.set_cons_zero, List.set_cons_succ])
  iterate 3 (refine SeqL.val (v := ?_) hS rfl (by rfl) (fun wx hSw => ?_) ?_; rotate_left; (focus ((try dsimp only at hSw); go_simp; (try with_reducible rfl))); (try simp only [Act.put, List.setIfInBounds_toArray, List.set_cons_zero, List.set_cons_succ]))
  refine SeqL.act rfl rfl (by rfl) (by rfl) isPtr (fun wx hx hh K hK => ?_) (fun u1 hu1 => ?_)
  · go_simp
    exact hK.out _ _ ⟨_, rfl⟩ ((Kept.refl _ _).alloc _) ⟨_, rfl, hx.size, heap_alloc_new wx _⟩
  obtain ⟨bm, rfl⟩ := hu1
  (try simp only [Act.put, List.setIfInBounds_toArray, List.set_cons_zero, List.set_cons_succ])
  refine SeqL.nil fun wz hz hh => ?_
  obtain ⟨wa, _, oa, ka⟩ := hh 2 (by decide) _ _ _ rfl rfl
  obtain ⟨wb, _, ob, kb⟩ := hh 5 (by decide) _ _ _ rfl rfl
  obtain ⟨wc, _, oc, kc⟩ := hh 9 (by decide) _ _ _ rfl rfl
  have OA := Lib.hid (show Own 5 byteEl Noneof w1.heap.size wz (.slice p1 n1 d1) low from Own.kept oa ka fun _ h => h.elim)
  have OB := Lib.hid (show Own 5 byteEl Noneof w1.heap.size wz (.slice p2 n2 d2) high from Own.kept ob kb fun _ h => h.elim)
  have hbm : w1.heap.size ≤ bm ∧ wz.heap[bm]? = some (msgObj (.slice none 0 0) (.slice none 0 0) false 0 0 false (.slice none 0 0)) := by
    obtain ⟨b', e1, e2, e3⟩ := oc
    have e1 : bp bm = bp b' := e1
    simp only [bp, Value.pointer.injEq, Option.some.injEq, Addr.mk.injEq, and_true] at e1
    subst e1
    exact ⟨e2, kc.obj (fun h => h) e3⟩
  obtain ⟨hbm, gm⟩ := hbm
  have HBM := Lib.hid hbm
  have GM := Lib.hid gm
  have KZ := Lib.hid (K0.out.tr hz)
  have KS := Lib.hid hz
  clear hh hS oa ob oc ka kb kc hz hbm
  have m0 : wz.cell? ⟨bm, 0, none⟩ = some (.slice none 0 0) := by simp [World.cell?, gm]
  have m1 : wz.cell? ⟨bm, 1, none⟩ = some (.slice none 0 0) := by simp [World.cell?, gm]
  have m2 : wz.cell? ⟨bm, 2, none⟩ = some (.bool false) := by simp [World.cell?, gm]
  have m3 : wz.cell? ⟨bm, 3, none⟩ = some (.int .i64 0) := by simp [World.cell?, gm]
  have m4 : wz.cell? ⟨bm, 4, none⟩ = some (.int .u64 0) := by simp [World.cell?, gm]
  have m5 : wz.cell? ⟨bm, 5, none⟩ = some (.bool false) := by simp [World.cell?, gm]
  have m6 : wz.cell? ⟨bm, 6, none⟩ = some (.slice none 0 0) := by simp [World.cell?, gm]
  have mf : ∀ j, wz.frozen? ⟨bm, j, none⟩ = false := fun j => by simp [World.frozen?, gm]
  clear gm
  have TZ := Lib.hid (H.out.kept0 KZ.out)
  have z3 : wz.cell? ⟨c.q3, 0, none⟩ = some (bp c.m2) := by simp [World.cell?, TZ.out.h3]
  have z2 : wz.cell? ⟨c.q2, 0, none⟩ = some c.vn := by simp [World.cell?, TZ.out.h2]
  have gz := KZ.out.block
  have hz0 : wz.heap[w.heap.size]? = some (.cells #[.slice a1 low.length c1, .slice a2 high.length c2, .bool bd] 170) := KS.out.obj (fun h => h) G0.out
  have y0 : wz.cell? ⟨w.heap.size, 0, none⟩ = some (.slice a1 low.length c1) := by simp [World.cell?, hz0]
  have y1 : wz.cell? ⟨w.heap.size, 1, none⟩ = some (.slice a2 high.length c2) := by simp [World.cell?, hz0]
  have y2 : wz.cell? ⟨w.heap.size, 2, none⟩ = some (.bool bd) := by simp [World.cell?, hz0]
  have HZ0 := Lib.hid hz0
  have hbm1 : bm ≠ w.heap.size := by have := HBM.out; have := S0.out; omega
  have hbm2 : bm ≠ c.q3 := by have := HBM.out; have := S0.out; have := H.out.lt; have := H.out.hB; omega
  have hbm3 : bm ≠ c.q2 := by have := HBM.out; have := S0.out; have := H.out.lt; have := H.out.hB; omega
  clear gz hz0)
  go_wp2_with fail
  (
  have MS := (((((((Kept.refl (fun b => b = bm) wz).setCell (p := ⟨bm, 0, none⟩) (.inl rfl) (.slice p1 n1 d1)).setCell (p := ⟨bm, 1, none⟩) (.inl rfl) (.slice p2 n2 d2)).setCell (p := ⟨bm, 2, none⟩) (.inl rfl) (.bool bd)).setCell (p := ⟨bm, 3, none⟩) (.inl rfl) (.int .i64 0)).setCell (p := ⟨bm, 4, none⟩) (.inl rfl) (.int .u64 0)).setCell (p := ⟨bm, 5, none⟩) (.inl rfl) (.bool false)).setCell (p := ⟨bm, 6, none⟩) (.inl rfl) (.slice none 0 0)
  have GM5 := setCell_obj (setCell_obj (setCell_obj (setCell_obj (setCell_obj (setCell_obj (setCell_obj GM.out (.slice p1 n1 d1) (j := 0)) (.slice p2 n2 d2) (j := 1)) (.bool bd) (j := 2)) (.int .i64 0) (j := 3)) (.int .u64 0) (j := 4)) (.bool false) (j := 5)) (.slice none 0 0) (j := 6)
  generalize ((((((wz.setCell ⟨bm, 0, none⟩ (.slice p1 n1 d1)).setCell ⟨bm, 1, none⟩ (.slice p2 n2 d2)).setCell ⟨bm, 2, none⟩ (.bool bd)).setCell ⟨bm, 3, none⟩ (.int .i64 0)).setCell ⟨bm, 4, none⟩ (.int .u64 0)).setCell ⟨bm, 5, none⟩ (.bool false)).setCell ⟨bm, 6, none⟩ (.slice none 0 0) = w5 at *
  have GM5 := Lib.hid (show w5.heap[bm]? = some (msgObj (.slice p1 n1 d1) (.slice p2 n2 d2) bd 0 0 false (.slice none 0 0)) from GM5)
  have lT := Lib.hid (show c.B ≤ bm ∧ ¬ R bm ∧ (vo : Value).ownBlock ≠ some bm ∧ (vg : Value).ownBlock ≠ some bm ∧ (vc : Value).ownBlock ≠ some bm from by
    have hh := H.out
    have e1 := HBM.out
    have e2 := S0.out
    have e3 := hh.hB
    exact ⟨by omega, fun e => by have := (hh.hR bm e).1; omega, fun e => by have := (hh.ho.lt bm e).2; omega, fun e => by have := (hh.hg.lt bm e).2; omega, fun e => by have := (hh.hc.lt bm e).2; omega⟩)
  have T5 := Lib.hid (TZ.out.kept MS fun b e => by subst e; exact lT.out)
  have nA := Lib.hid (show (Value.slice p1 n1 d1).ownBlock ≠ some bm from fun e => by
    obtain ⟨cur, hc⟩ := OA.out.obj e
    have := hc.symm.trans GM.out
    simp [msgObj] at this)
  have nB := Lib.hid (show (Value.slice p2 n2 d2).ownBlock ≠ some bm from fun e => by
    obtain ⟨cur, hc⟩ := OB.out.obj e
    have := hc.symm.trans GM.out
    simp [msgObj] at this)
  have OA5 := Lib.hid (OA.out.kept MS fun b hb _ => ⟨fun h => h.elim, fun e => by have hb : b = bm := hb; subst hb; exact nA.out e⟩)
  have OB5 := Lib.hid (OB.out.kept MS fun b hb _ => ⟨fun h => h.elim, fun e => by have hb : b = bm := hb; subst hb; exact nB.out e⟩)
  have K5 := Lib.hid (KZ.out.trans MS fun b e => .inr (by have := HBM.out; have := S0.out; omega))
  have Y5 := Lib.hid (MS.obj (p := w.heap.size) (fun e => hbm1 e.symm) HZ0.out)
  clear MS m0 m1 m2 m3 m4 m5 m6 mf z3 z2 y0 y1 y2 OA OB TZ GM KZ HZ0 KS)
  (
  obtain ⟨F3, hF3⟩ : ∃ F3 : Obj, F3 = msgObj (.slice p1 n1 d1) (.slice p2 n2 d2) bd ((Tr.nd l k v r).size : Nat) 0 false (.slice none 0 0) := ⟨_, rfl⟩
  have lbm := Lib.hid (show bm < w5.heap.size from block_lt GM5.out)
  obtain ⟨av, cv, hvn, hcap, hmx, hrd⟩ := T5.out.hn
  obtain ⟨bn, on, uk, uv, hav, hDb, g0, g1, g2, g3, g4, g5, hbk, hbv⟩ := Rd.node hrd hLt
  have hnd : c.L[i] = ndOf seed l k v r i := by rw [List.getElem?_eq_getElem hLt] at hL; exact Option.some.inj hL
  rw [hnd] at g2 g3 g4 g5 hbk hbv
  rw [hav] at hvn
  have HVN := Lib.hid hvn
  have BK := Lib.hid hbk
  have BV' := Lib.hid hbv
  have DB := Lib.hid hDb
  have hbnm : bn ≠ bm := fun e => lT.out.2.1 (e ▸ (T5.out.hD _ hDb).1)
  clear hrd hcap hmx hbk hbv hDb
  refine wp_region_grow 13 [(11, .act (fun _ => True) fun _ wx => wx.heap[bm]? = some F3)] (OnceTo bm F3) (OnceTo.refl _ _) OnceTo.trans (OnceTo.of lbm.out (Kept.drew1 _ _)) (by kernel_rfl) (by kernel_rfl) (by kernel_rfl) ?_
  simp only [List.take_succ_cons, List.take_zero, List.drop_succ_cons, List.drop_zero]
  have hS : ∀ w', OnceTo bm F3 w5 w' → w'.cell? ⟨c.q2, 0, none⟩ = some (.slice (some ⟨bn, on, none⟩) c.L.length cv) ∧ w'.cell? ⟨bn, on + i * 6 + 3, none⟩ = some (.int .i64 ((Tr.nd l k v r).size : Nat)) ∧ w'.cell? ⟨bn, on + i * 6 + 2, none⟩ = some (.int .u64 ((Tr.nd l k v r).dg seed)) := fun w' q => by
    have h2 := T5.out.h2
    rw [HVN.out] at h2
    have := q.1.obj (p := c.q2) (fun e => hbm3 e.symm) h2
    exact ⟨by simp [World.cell?, this], q.1.cell hbnm g3, q.1.cell hbnm g2⟩
  iterate 11 (refine SeqL.val (v := ?_) hS rfl (by rfl) (fun wx hSw => ?_) ?_; rotate_left; (focus ((try dsimp only at hSw); go_simp; (try with_reducible rfl))); (try simp only [Act.put, List.setIfInBounds_toArray, List.set_cons_zero, List.set_cons_succ]))
  refine SeqL.act0 rfl rfl (by rfl) (fun wx hx hh K hK => ?_) ?_
  · have G : ∃ x, wx.heap[bm]? = some (msgObj (.slice p1 n1 d1) (.slice p2 n2 d2) bd x 0 false (.slice none 0 0)) := by
      rcases hx.2 with e | e
      · exact ⟨_, e.trans GM5.out⟩
      · exact ⟨_, by rw [e, hF3]⟩
    obtain ⟨x, G⟩ := G
    have f3 : wx.cell? ⟨bm, 3, none⟩ = some (.int .i64 x) := by simp [World.cell?, G]
    have ff : wx.frozen? ⟨bm, 3, none⟩ = false := by simp [World.frozen?, G]
    go_simp
    have GF := setCell_obj G (.int .i64 (((Tr.nd l k v r).size : Nat) : Int)) (j := 3)
    have KF := (Kept.refl (fun x => x = bm) wx).setCell (p := ⟨bm, 3, none⟩) (.inl rfl) (.int .i64 (((Tr.nd l k v r).size : Nat) : Int))
    refine hK.out _ ⟨KF, .inr ?_⟩ ?_
    · rw [hF3]; exact GF
    · rw [hF3]; exact GF
  (refine SeqL.val (v := ?_) hS rfl (by rfl) (fun wx hSw => ?_) ?_; rotate_left; (focus ((try dsimp only at hSw); go_simp; (try with_reducible rfl))); (try simp only [Act.put, List.setIfInBounds_toArray, List.set_cons_zero, List.set_cons_succ]))
  refine SeqL.nil fun wz hz hh => ?_
  obtain ⟨wb, _, ob, kb⟩ := hh 11 (by decide) _ _ _ rfl rfl
  have GZ := Lib.hid (show wz.heap[bm]? = some (msgObj (.slice p1 n1 d1) (.slice p2 n2 d2) bd ((Tr.nd l k v r).size : Nat) 0 false (.slice none 0 0)) by
    rcases kb.2 with e | e
    · rw [e, ← hF3]; exact ob
    · rw [e, hF3])
  have KZ := Lib.hid hz.1
  clear hh hS ob kb hz
  have TZ := Lib.hid (T5.out.kept KZ.out fun b e => by have e : b = bm := e; subst e; exact lT.out)
  have YZ := Lib.hid (KZ.out.obj (p := w.heap.size) (fun e => hbm1 e.symm) Y5.out)
  have gz := GZ.out
  have yz := YZ.out
  have m4 : wz.cell? ⟨bm, 4, none⟩ = some (.int .u64 0) := by simp [World.cell?, gz]
  have mf : wz.frozen? ⟨bm, 4, none⟩ = false := by simp [World.frozen?, gz]
  have z3 : wz.cell? ⟨c.q3, 0, none⟩ = some (bp c.m2) := by simp [World.cell?, TZ.out.h3]
  have y0 : wz.cell? ⟨w.heap.size, 0, none⟩ = some (.slice a1 low.length c1) := by simp [World.cell?, yz]
  have y1 : wz.cell? ⟨w.heap.size, 1, none⟩ = some (.slice a2 high.length c2) := by simp [World.cell?, yz]
  have y2 : wz.cell? ⟨w.heap.size, 2, none⟩ = some (.bool bd) := by simp [World.cell?, yz]
  clear gz yz
  go_wp2_with fail
  have MZ := (Kept.refl (fun b => b = bm) wz).setCell (p := ⟨bm, 4, none⟩) (.inl rfl) (.int .u64 ((Tr.nd l k v r).dg seed))
  have GM9 := setCell_obj GZ.out (.int .u64 ((Tr.nd l k v r).dg seed)) (j := 4)
  generalize wz.setCell ⟨bm, 4, none⟩ (.int .u64 ((Tr.nd l k v r).dg seed)) = w9 at *
  have MM := KZ.out.tr MZ
  have T5 := Lib.hid (TZ.out.kept MZ fun b e => by have e : b = bm := e; subst e; exact lT.out)
  have GM5 := Lib.hid (show w9.heap[bm]? = some (msgObj (.slice p1 n1 d1) (.slice p2 n2 d2) bd ((Tr.nd l k v r).size : Nat) ((Tr.nd l k v r).dg seed) false (.slice none 0 0)) from GM9)
  have OA5 := Lib.hid (OA5.out.kept MM fun b hb _ => ⟨fun h => h.elim, fun e => by have hb : b = bm := hb; subst hb; exact nA.out e⟩)
  have OB5 := Lib.hid (OB5.out.kept MM fun b hb _ => ⟨fun h => h.elim, fun e => by have hb : b = bm := hb; subst hb; exact nB.out e⟩)
  have K5 := Lib.hid (K5.out.trans MM fun b e => .inr (by have := HBM.out; have := S0.out; omega))
  have Y5 := Lib.hid (MM.obj (p := w.heap.size) (fun e => hbm1 e.symm) Y5.out)
  have N5 := Lib.hid (show w9.cell? ⟨bn, on + i * 6, none⟩ = some uk ∧ w9.cell? ⟨bn, on + i * 6 + 1, none⟩ = some uv ∧ w9.cell? ⟨bn, on + i * 6 + 4, none⟩ = some (.int .i64 (ndOf seed l k v r i).left) ∧ w9.cell? ⟨bn, on + i * 6 + 5, none⟩ = some (.int .i64 (ndOf seed l k v r i).right) from ⟨MM.cell hbnm g0, MM.cell hbnm g1, MM.cell hbnm g4, MM.cell hbnm g5⟩)
  have BK := Lib.hid (SV.kept byteEl_k BK.out MM fun b h _ e => lT.out.2.1 ((show b = bm from e) ▸ (T5.out.hD _ h).1))
  have BV' := Lib.hid (SV.kept byteEl_k BV'.out MM fun b h _ e => lT.out.2.1 ((show b = bm from e) ▸ (T5.out.hD _ h).1))
  clear MZ MM GM9 TZ GZ KZ YZ m4 mf z3 y0 y1 y2 g0 g1 g2 g3 g4 g5)
  (
  refine (orSpanDigest_calls (seed := seed) (t := u) T5.out.hm (H1.out.kept byteEl_k K5.out fun _ _ _ h => h) (H2.out.kept byteEl_k K5.out fun _ _ _ h => h)).mono ?_
  rintro e w6 ⟨rfl, k6⟩
  have T6 := Lib.hid (T5.out.kept0 k6)
  have OA6 := Lib.hid (OA5.out.kept k6 fun _ h => h.elim)
  have OB6 := Lib.hid (OB5.out.kept k6 fun _ h => h.elim)
  have GM6 := Lib.hid (k6.obj (fun h => h) GM5.out)
  have K6 := Lib.hid (K5.out.trans k6 fun _ h => h.elim)
  have Y6 := Lib.hid (k6.obj (fun h => h) Y5.out)
  clear k6 T5 OA5 OB5 GM5 K5 Y5
  have gm6 := GM6.out
  have m0 : w6.cell? ⟨bm, 0, none⟩ = some (.slice p1 n1 d1) := by simp [World.cell?, gm6]
  have m1 : w6.cell? ⟨bm, 1, none⟩ = some (.slice p2 n2 d2) := by simp [World.cell?, gm6]
  have m2 : w6.cell? ⟨bm, 2, none⟩ = some (.bool bd) := by simp [World.cell?, gm6]
  have m3 : w6.cell? ⟨bm, 3, none⟩ = some (.int .i64 ((Tr.nd l k v r).size : Nat)) := by simp [World.cell?, gm6]
  have m4 : w6.cell? ⟨bm, 4, none⟩ = some (.int .u64 ((Tr.nd l k v r).dg seed)) := by simp [World.cell?, gm6]
  have m5 : w6.cell? ⟨bm, 5, none⟩ = some (.bool false) := by simp [World.cell?, gm6]
  have m6 : w6.cell? ⟨bm, 6, none⟩ = some (.slice none 0 0) := by simp [World.cell?, gm6]
  have mf : ∀ j, w6.frozen? ⟨bm, j, none⟩ = false := fun j => by simp [World.frozen?, gm6]
  have y6 := Y6.out
  have y0 : w6.cell? ⟨w.heap.size, 0, none⟩ = some (.slice a1 low.length c1) := by simp [World.cell?, y6]
  have y1 : w6.cell? ⟨w.heap.size, 1, none⟩ = some (.slice a2 high.length c2) := by simp [World.cell?, y6]
  have y2 : w6.cell? ⟨w.heap.size, 2, none⟩ = some (.bool bd) := by simp [World.cell?, y6]
  have z4 : w6.cell? ⟨c.q4, 0, none⟩ = some vo := by simp [World.cell?, T6.out.h4]
  have z5 : w6.cell? ⟨c.q5, 0, none⟩ = some vg := by simp [World.cell?, T6.out.h5]
  have z3 : w6.cell? ⟨c.q3, 0, none⟩ = some (bp c.m2) := by simp [World.cell?, T6.out.h3]
  have z2 : w6.cell? ⟨c.q2, 0, none⟩ = some c.vn := by simp [World.cell?, T6.out.h2]
  have hbm4 : bm ≠ c.q4 := by have := HBM.out; have := S0.out; have := H.out.lt; have := H.out.hB; omega
  have hbm5 : bm ≠ c.q5 := by have := HBM.out; have := S0.out; have := H.out.lt; have := H.out.hB; omega
  clear gm6 y6)
  have N6 := N5.out
  have e1 : ((((u.cut low true high bd).size : Nat) : Int) == (((Tr.nd l k v r).size : Nat) : Int)) = ((u.cut low true high bd).size == (Tr.nd l k v r).size) := by
    rw [Bool.eq_iff_iff, beq_iff_eq, beq_iff_eq]
    omega
  cases g1 : ((u.cut low true high bd).size == (Tr.nd l k v r).size) with
  | false =>
    rw [g1] at e1
    have hs : sameAt seed u (.nd l k v r) low high bd = false := by unfold sameAt; rw [g1]; rfl
    have HS := Lib.hid hs
    (
    go_wp2_with fail
    have M7 := (Kept.refl (fun b => b = bm) w6).setCell (p := ⟨bm, 5, none⟩) (.inl rfl) (.bool false)
    have T7 := T6.out.kept M7 fun b e => by have e : b = bm := e; subst e; exact lT.out
    have OA7 := OA6.out.kept M7 fun b hb _ => ⟨fun h => h.elim, fun e => by have hb : b = bm := hb; subst hb; exact nA.out e⟩
    have OB7 := OB6.out.kept M7 fun b hb _ => ⟨fun h => h.elim, fun e => by have hb : b = bm := hb; subst hb; exact nB.out e⟩
    have GM7 := setCell_obj GM6.out (.bool false) (j := 5)
    have K7 := K6.out.trans M7 fun b e => .inr (by have := HBM.out; have := S0.out; omega)
    have Y7 := M7.obj (p := w.heap.size) (fun e => hbm1 e.symm) Y6.out
    generalize w6.setCell ⟨bm, 5, none⟩ (.bool false) = w7 at *
    have T7 := Lib.hid T7
    have OA7 := Lib.hid OA7
    have OB7 := Lib.hid OB7
    have GM7 := Lib.hid (show w7.heap[bm]? = some (msgObj (.slice p1 n1 d1) (.slice p2 n2 d2) bd ((Tr.nd l k v r).size : Nat) ((Tr.nd l k v r).dg seed) false (.slice none 0 0)) from GM7)
    have K7 := Lib.hid K7
    have Y7 := Lib.hid Y7
    have D7 := Lib.hid (show SV nodeEl c.DN w7 c.vn c.L from T7.out.hn)
    clear M7 m0 m1 m2 m3 m4 m5 m6 mf y0 y1 y2 z2 z3 z4 z5 N6 N5 BK BV' HVN
    obtain ⟨av2, cv2, hvn2, hcap2, hmx2, hrd2⟩ := D7.out
    obtain ⟨bn2, on2, uk2, uv2, hav2, hDb2, g0, g1, g2, g3, g4, g5, hbk, hbv⟩ := Rd.node hrd2 hLt
    have hnd2 : c.L[i] = ndOf seed l k v r i := by rw [List.getElem?_eq_getElem hLt] at hL; exact Option.some.inj hL
    rw [hnd2] at g4 g5 hbk hbv
    rw [hav2] at hvn2
    obtain ⟨ak, ck, rfl, _⟩ := id hbk
    obtain ⟨av3, cv3, rfl, _⟩ := id hbv
    have HVN := Lib.hid hvn2
    have BK7 := Lib.hid (show BV c.DN w7 (.slice ak k.length ck) k from hbk)
    have BV7 := Lib.hid (show BV c.DN w7 (.slice av3 v.length cv3) v from hbv)
    have DB := Lib.hid hDb2
    have GL7 := Lib.hid g4
    have GR7 := Lib.hid g5
    have z2 : w7.cell? ⟨c.q2, 0, none⟩ = some (.slice (some ⟨bn2, on2, none⟩) c.L.length cv2) := by have h2 := T7.out.h2; rw [HVN.out] at h2; simp [World.cell?, h2]
    clear hrd2 hcap2 hmx2 hbk hbv hDb2 g2 g3 g4 g5 hvn2
    refine wp_region_chain 12 [] (fun w' => w'.cell? ⟨c.q2, 0, none⟩ = some (.slice (some ⟨bn2, on2, none⟩) c.L.length cv2) ∧ w'.cell? ⟨bn2, on2 + i * 6, none⟩ = some (.slice ak k.length ck) ∧ w'.cell? ⟨bn2, on2 + i * 6 + 1, none⟩ = some (.slice av3 v.length cv3)) (by kernel_rfl) (by kernel_rfl) ?_ ?_
    · exact ⟨z2, g0, g1⟩
    simp only [List.take_succ_cons, List.take_zero, List.drop_succ_cons, List.drop_zero]
    iterate 12 (refine SeqY.val (v := ?_) (by rfl) (by rfl) (fun wx hSw => ?_) ?_; rotate_left; (focus ((try dsimp only at hSw); go_simp; (try with_reducible rfl))); (try simp only [Act.put, List.setIfInBounds_toArray, List.set_cons_zero, List.set_cons_succ]))
    refine SeqY.nil ?_
    clear z2 g0 g1
    have kd : Kept Noneof w7 w7.drew := (Kept.refl Noneof w7).drew
    (
    have T8 := Lib.hid (T7.out.kept0 kd)
    have OA8 := Lib.hid (OA7.out.kept kd fun _ h => h.elim)
    have OB8 := Lib.hid (OB7.out.kept kd fun _ h => h.elim)
    have GM8 := Lib.hid (kd.obj (fun h => h) GM7.out)
    have K8 := Lib.hid (K7.out.trans kd fun _ h => h.elim)
    have Y8 := Lib.hid (kd.obj (fun h => h) Y7.out)
    have BK8 := Lib.hid (SV.kept byteEl_k BK7.out kd fun _ _ _ h => h)
    have BV8 := Lib.hid (SV.kept byteEl_k BV7.out kd fun _ _ _ h => h)
    have GL8 := Lib.hid (kd.cell (p := ⟨bn2, on2 + i * 6 + 4, none⟩) (fun h => h) GL7.out)
    have GR8 := Lib.hid (kd.cell (p := ⟨bn2, on2 + i * 6 + 5, none⟩) (fun h => h) GR7.out)
    clear T7 OA7 OB7 GM7 K7 Y7 BK7 BV7 GL7 GR7)
    generalize w7.drew = w8 at *
    clear kd D7
    go_wp2_with fail
    refine (byClone_calls BK8.out).mono ?_
    rintro e w9 ⟨kn, rfl, o9, k9⟩
    have lb8 := Lib.hid (block_lt GM8.out)
    have hs9 := Lib.hid k9.size
    have OK9 := Lib.hid o9
    obtain ⟨p3, n3, d3, rfl⟩ := o9.slice'
    (
    have T9 := Lib.hid (T8.out.kept0 k9)
    have OA9 := Lib.hid (OA8.out.kept k9 fun _ h => h.elim)
    have OB9 := Lib.hid (OB8.out.kept k9 fun _ h => h.elim)
    have GM9 := Lib.hid (k9.obj (fun h => h) GM8.out)
    have K9 := Lib.hid (K8.out.trans k9 fun _ h => h.elim)
    have Y9 := Lib.hid (k9.obj (fun h => h) Y8.out)
    have BK9 := Lib.hid (SV.kept byteEl_k BK8.out k9 fun _ _ _ h => h)
    have BV9 := Lib.hid (SV.kept byteEl_k BV8.out k9 fun _ _ _ h => h)
    have GL9 := Lib.hid (k9.cell (p := ⟨bn2, on2 + i * 6 + 4, none⟩) (fun h => h) GL8.out)
    have GR9 := Lib.hid (k9.cell (p := ⟨bn2, on2 + i * 6 + 5, none⟩) (fun h => h) GR8.out)
    clear T8 OA8 OB8 GM8 K8 Y8 BK8 BV8 GL8 GR8)
    clear o9 k9
    go_wp2_with fail
    refine (byClone_calls BV9.out).mono ?_
    rintro e w10 ⟨vn', rfl, o10, k10⟩
    have k9s := Lib.hid k10.size
    have OK10 := Lib.hid (OK9.out.kept k10 fun _ h => h.elim)
    have OV10 := Lib.hid o10
    obtain ⟨p4, n4, d4, rfl⟩ := o10.slice'
    (
    have T10 := Lib.hid (T9.out.kept0 k10)
    have OA10 := Lib.hid (OA9.out.kept k10 fun _ h => h.elim)
    have OB10 := Lib.hid (OB9.out.kept k10 fun _ h => h.elim)
    have GM10 := Lib.hid (k10.obj (fun h => h) GM9.out)
    have K10 := Lib.hid (K9.out.trans k10 fun _ h => h.elim)
    have Y10 := Lib.hid (k10.obj (fun h => h) Y9.out)
    have BK10 := Lib.hid (SV.kept byteEl_k BK9.out k10 fun _ _ _ h => h)
    have BV10 := Lib.hid (SV.kept byteEl_k BV9.out k10 fun _ _ _ h => h)
    have GL10 := Lib.hid (k10.cell (p := ⟨bn2, on2 + i * 6 + 4, none⟩) (fun h => h) GL9.out)
    have GR10 := Lib.hid (k10.cell (p := ⟨bn2, on2 + i * 6 + 5, none⟩) (fun h => h) GR9.out)
    clear T9 OA9 OB9 GM9 K9 Y9 BK9 BV9 GL9 GR9)
    clear o10 k10 OK9
    have lb10 := Lib.hid (block_lt GM10.out)
    have gm10 := GM10.out
    have m0 : ∀ o, (w10.alloc o).cell? ⟨bm, 0, none⟩ = some (.slice p1 n1 d1) := fun o => ((Kept.refl Noneof w10).alloc o).cell (p := ⟨bm, 0, none⟩) (fun h => h) (by simp [World.cell?, gm10])
    have m1 : ∀ o, (w10.alloc o).cell? ⟨bm, 1, none⟩ = some (.slice p2 n2 d2) := fun o => ((Kept.refl Noneof w10).alloc o).cell (p := ⟨bm, 1, none⟩) (fun h => h) (by simp [World.cell?, gm10])
    have m2 : ∀ o, (w10.alloc o).cell? ⟨bm, 2, none⟩ = some (.bool bd) := fun o => ((Kept.refl Noneof w10).alloc o).cell (p := ⟨bm, 2, none⟩) (fun h => h) (by simp [World.cell?, gm10])
    have m3 : ∀ o, (w10.alloc o).cell? ⟨bm, 3, none⟩ = some (.int .i64 ((Tr.nd l k v r).size : Nat)) := fun o => ((Kept.refl Noneof w10).alloc o).cell (p := ⟨bm, 3, none⟩) (fun h => h) (by simp [World.cell?, gm10])
    have m4 : ∀ o, (w10.alloc o).cell? ⟨bm, 4, none⟩ = some (.int .u64 ((Tr.nd l k v r).dg seed)) := fun o => ((Kept.refl Noneof w10).alloc o).cell (p := ⟨bm, 4, none⟩) (fun h => h) (by simp [World.cell?, gm10])
    have m5 : ∀ o, (w10.alloc o).cell? ⟨bm, 5, none⟩ = some (.bool false) := fun o => ((Kept.refl Noneof w10).alloc o).cell (p := ⟨bm, 5, none⟩) (fun h => h) (by simp [World.cell?, gm10])
    have m6 : ∀ o, (w10.alloc o).cell? ⟨bm, 6, none⟩ = some (.slice none 0 0) := fun o => ((Kept.refl Noneof w10).alloc o).cell (p := ⟨bm, 6, none⟩) (fun h => h) (by simp [World.cell?, gm10])
    have mf : ∀ o j, (w10.alloc o).frozen? ⟨bm, j, none⟩ = false := fun o j => by have := ((Kept.refl Noneof w10).alloc o).obj (fun h => h) gm10; simp [World.frozen?, this]
    have z4 : ∀ o, (w10.alloc o).cell? ⟨c.q4, 0, none⟩ = some vo := fun o => ((Kept.refl Noneof w10).alloc o).cell (p := ⟨c.q4, 0, none⟩) (fun h => h) (by simp [World.cell?, T10.out.h4])
    have kp := (Kept.refl Noneof w10).alloc (.cells #[.slice p3 n3 d3, .slice p4 n4 d4] 70)
    have M12 := (Kept.refl (fun b => b = bm) (w10.alloc (.cells #[.slice p3 n3 d3, .slice p4 n4 d4] 70))).setCell (p := ⟨bm, 6, none⟩) (.inl rfl) (.slice (some ⟨w10.heap.size, 0, none⟩) 1 1)
    have kA := (Kept.refl Noneof ((w10.alloc (.cells #[.slice p3 n3 d3, .slice p4 n4 d4] 70)).setCell ⟨bm, 6, none⟩ (.slice (some ⟨w10.heap.size, 0, none⟩) 1 1))).alloc (msgObj (.slice p1 n1 d1) (.slice p2 n2 d2) bd ((Tr.nd l k v r).size : Nat) ((Tr.nd l k v r).dg seed) false (.slice (some ⟨w10.heap.size, 0, none⟩) 1 1))
    have s12 : ((w10.alloc (.cells #[.slice p3 n3 d3, .slice p4 n4 d4] 70)).setCell ⟨bm, 6, none⟩ (.slice (some ⟨w10.heap.size, 0, none⟩) 1 1)).heap.size = w10.heap.size + 1 := by simp
    have far : ∀ b, w1.heap.size ≤ b → b < w10.heap.size + 1 → c.B ≤ b ∧ vo.ownBlock ≠ some b ∧ vg.ownBlock ≠ some b ∧ vc.ownBlock ≠ some b := fun b h1 h2 => by
      have t := H.out
      have e2 := S0.out
      have e3 := t.hB
      exact ⟨by omega, fun e => by have := (t.ho.lt b e).2; omega, fun e => by have := (t.hg.lt b e).2; omega, fun e => by have := (t.hc.lt b e).2; omega⟩
    have hs10 := lb10.out
    have hs8 := lb8.out
    have h18 : w1.heap.size ≤ w8.heap.size := by have := HBM.out; omega
    have h89 := hs9.out
    have h910 : w9.heap.size ≤ w10.heap.size := k9s.out
    have nC : (Value.slice p3 n3 d3).ownBlock ≠ some bm := fun e => by have := (OK10.out.lt _ e).1; omega
    have nE : (Value.slice p4 n4 d4).ownBlock ≠ some bm := fun e => by have := (OV10.out.lt _ e).1; omega
    have la := OA10.out.lt
    have lb := OB10.out.lt
    have lc := OK10.out.lt
    have ld := OV10.out.lt
    have T12 := (T10.out.kept0 kp).kept M12 fun b e => by have e : b = bm := e; subst e; exact lT.out
    have G13 := heap_alloc_new ((w10.alloc (.cells #[.slice p3 n3 d3, .slice p4 n4 d4] 70)).setCell ⟨bm, 6, none⟩ (.slice (some ⟨w10.heap.size, 0, none⟩) 1 1)) (msgObj (.slice p1 n1 d1) (.slice p2 n2 d2) bd ((Tr.nd l k v r).size : Nat) ((Tr.nd l k v r).dg seed) false (.slice (some ⟨w10.heap.size, 0, none⟩) 1 1))
    rw [s12] at G13
    have G13 := Lib.hid G13
    have GP := kA.obj (p := w10.heap.size) (fun h => h) (M12.obj (p := w10.heap.size) (by omega) (heap_alloc_new w10 (.cells #[.slice p3 n3 d3, .slice p4 n4 d4] 70)))
    have kAA : Kept (fun b => b = bm) w10 (((w10.alloc (.cells #[.slice p3 n3 d3, .slice p4 n4 d4] 70)).setCell ⟨bm, 6, none⟩ (.slice (some ⟨w10.heap.size, 0, none⟩) 1 1)).alloc (msgObj (.slice p1 n1 d1) (.slice p2 n2 d2) bd ((Tr.nd l k v r).size : Nat) ((Tr.nd l k v r).dg seed) false (.slice (some ⟨w10.heap.size, 0, none⟩) 1 1))) := ((kp.mono fun _ h => h.elim).tr M12).trans kA fun _ h => h.elim
    have T13 := Lib.hid ((T12.kept0 kA).wide (R' := (fun b => R b ∨ (Value.slice p1 n1 d1).ownBlock = some b ∨ (Value.slice p2 n2 d2).ownBlock = some b ∨ (Value.slice p3 n3 d3).ownBlock = some b ∨ (Value.slice p4 n4 d4).ownBlock = some b ∨ b = w10.heap.size)) (fun b h => .inl h) (by
      have sz : (((w10.alloc (.cells #[.slice p3 n3 d3, .slice p4 n4 d4] 70)).setCell ⟨bm, 6, none⟩ (.slice (some ⟨w10.heap.size, 0, none⟩) 1 1)).alloc (msgObj (.slice p1 n1 d1) (.slice p2 n2 d2) bd ((Tr.nd l k v r).size : Nat) ((Tr.nd l k v r).dg seed) false (.slice (some ⟨w10.heap.size, 0, none⟩) 1 1))).heap.size = w10.heap.size + 2 := by simp
      rintro b (h | h | h | h | h | h)
      · exact .inl h
      · exact .inr ⟨by have := la b h; omega, far b (la b h).1 (by have := la b h; omega)⟩
      · exact .inr ⟨by have := lb b h; omega, far b (lb b h).1 (by have := lb b h; omega)⟩
      · exact .inr ⟨by have := lc b h; omega, far b (by have := lc b h; omega) (by have := lc b h; omega)⟩
      · exact .inr ⟨by have := ld b h; omega, far b (by have := ld b h; omega) (by have := ld b h; omega)⟩
      · exact .inr ⟨by omega, far b (by omega) (by omega)⟩))
    have BLA := Lib.hid ((OA10.out.kept kAA fun b hb _ => ⟨fun h => h.elim, fun e => by have hb : b = bm := hb; subst hb; exact nA.out e⟩).rd (D' := (fun b => R b ∨ (Value.slice p1 n1 d1).ownBlock = some b ∨ (Value.slice p2 n2 d2).ownBlock = some b ∨ (Value.slice p3 n3 d3).ownBlock = some b ∨ (Value.slice p4 n4 d4).ownBlock = some b ∨ b = w10.heap.size)) (fun _ h => h.elim) fun b h => .inr (.inl h))
    have BLB := Lib.hid ((OB10.out.kept kAA fun b hb _ => ⟨fun h => h.elim, fun e => by have hb : b = bm := hb; subst hb; exact nB.out e⟩).rd (D' := (fun b => R b ∨ (Value.slice p1 n1 d1).ownBlock = some b ∨ (Value.slice p2 n2 d2).ownBlock = some b ∨ (Value.slice p3 n3 d3).ownBlock = some b ∨ (Value.slice p4 n4 d4).ownBlock = some b ∨ b = w10.heap.size)) (fun _ h => h.elim) fun b h => .inr (.inr (.inl h)))
    have BLC := (OK10.out.kept kAA fun b hb _ => ⟨fun h => h.elim, fun e => by have hb : b = bm := hb; subst hb; exact nC e⟩).rd (D' := (fun b => R b ∨ (Value.slice p1 n1 d1).ownBlock = some b ∨ (Value.slice p2 n2 d2).ownBlock = some b ∨ (Value.slice p3 n3 d3).ownBlock = some b ∨ (Value.slice p4 n4 d4).ownBlock = some b ∨ b = w10.heap.size)) (fun _ h => h.elim) fun b h => .inr (.inr (.inr (.inl h)))
    have BLD := (OV10.out.kept kAA fun b hb _ => ⟨fun h => h.elim, fun e => by have hb : b = bm := hb; subst hb; exact nE e⟩).rd (D' := (fun b => R b ∨ (Value.slice p1 n1 d1).ownBlock = some b ∨ (Value.slice p2 n2 d2).ownBlock = some b ∨ (Value.slice p3 n3 d3).ownBlock = some b ∨ (Value.slice p4 n4 d4).ownBlock = some b ∨ b = w10.heap.size)) (fun _ h => h.elim) fun b h => .inr (.inr (.inr (.inr (.inl h))))
    have SP := Lib.hid (sv_pair1 (D := (fun b => R b ∨ (Value.slice p1 n1 d1).ownBlock = some b ∨ (Value.slice p2 n2 d2).ownBlock = some b ∨ (Value.slice p3 n3 d3).ownBlock = some b ∨ (Value.slice p4 n4 d4).ownBlock = some b ∨ b = w10.heap.size)) GP (.inr (.inr (.inr (.inr (.inr rfl))))) BLC BLD)
    have K13 := Lib.hid (K10.out.trans kAA fun b e => .inr (by have := HBM.out; have := S0.out; omega))
    have Y13 := Lib.hid (kAA.obj (p := w.heap.size) (fun e => hbm1 e.symm) Y10.out)
    have nDN : ∀ b, c.DN b → b < w10.heap.size → ¬ b = bm := fun b h _ e => lT.out.2.1 (e ▸ (T10.out.hD b h).1)
    have BK13 := Lib.hid (SV.kept byteEl_k BK10.out kAA nDN)
    have BV13 := Lib.hid (SV.kept byteEl_k BV10.out kAA nDN)
    have nbn : bn2 ≠ bm := fun e => lT.out.2.1 (e ▸ (T10.out.hD _ DB.out).1)
    have GL13 := Lib.hid (kAA.cell (p := ⟨bn2, on2 + i * 6 + 4, none⟩) nbn GL10.out)
    have GR13 := Lib.hid (kAA.cell (p := ⟨bn2, on2 + i * 6 + 5, none⟩) nbn GR10.out)
    have hR13 := Lib.hid T13.out.hR
    have HB13 := Lib.hid T13.out.hB
    have hby : (ol.length + 1) * 104 ≤ 140737488355328 := by have := BO.out; omega
    clear gm10 kp M12 kA far nC nE la lb lc ld T12 GP kAA BLC BLD s12 hs10 hs8 h18 h89 h910 T10 OA10 OB10 GM10 K10 Y10 BK10 BV10 GL10 GR10
    go_wp2_with (at_builtin; refine wl_app_one (E := msgEl) rfl (.tmp 97) (.tmp 99) _ rfl tMsgs (D' := (fun b => R b ∨ (Value.slice p1 n1 d1).ownBlock = some b ∨ (Value.slice p2 n2 d2).ownBlock = some b ∨ (Value.slice p3 n3 d3).ownBlock = some b ∨ (Value.slice p4 n4 d4).ownBlock = some b ∨ b = w10.heap.size)) vo ol rfl T13.out.ho (w10.heap.size + 1) _ ⟨low, high, bd, (Tr.nd l k v r).size, (Tr.nd l k v r).dg seed, false, [(k, v)]⟩ rfl ⟨_, _, G13.out⟩ ⟨_, _, _, rfl, BLA.out, BLB.out, SP.out⟩ (fun b h _ => ⟨h, (hR13.out b h).2.2.1⟩) hby (by decide) HB13.out ?_)
    intro v14 w14 o14 k14 hb14
    have hb14 : ∀ b, v14.ownBlock = some b → vo.ownBlock = some b ∨ (((w10.alloc (.cells #[.slice p3 n3 d3, .slice p4 n4 d4] 70)).setCell ⟨bm, 6, none⟩ (.slice (some ⟨w10.heap.size, 0, none⟩) 1 1)).alloc (msgObj (.slice p1 n1 d1) (.slice p2 n2 d2) bd ((Tr.nd l k v r).size : Nat) ((Tr.nd l k v r).dg seed) false (.slice (some ⟨w10.heap.size, 0, none⟩) 1 1))).heap.size ≤ b := fun b e => by have := hb14 b e; simpa using this
    have T14 := T13.out.say k14 o14 hb14
    obtain ⟨a14, n14, c14, rfl⟩ := o14.slice'
    have lt := T13.out.lt
    have ne := T13.out.ne
    have lov := T13.out.ho.lt
    have hRo := hR13.out
    have no14 : ∀ b, b < c.B → vo.ownBlock ≠ some b := fun b hb e => by have := (lov b e).1; omega
    have q4' := k14.obj (no14 _ lt.2.2.1) T13.out.h4
    have q6' := k14.obj (no14 _ lt.2.2.2.2.1) T13.out.h6
    have z4' : w14.cell? ⟨c.q4, 0, none⟩ = some vo := by simp [World.cell?, q4']
    have f4' : w14.frozen? ⟨c.q4, 0, none⟩ = false := by simp [World.frozen?, q4']
    have z6' : w14.cell? ⟨c.q6, 0, none⟩ = some vc := by simp [World.cell?, q6']
    have k15 := (k14.mono (T := fun b => b = c.q4 ∨ vo.ownBlock = some b) fun b h => .inr h).setCell (p := ⟨c.q4, 0, none⟩) (.inl (.inl rfl)) (.slice a14 n14 c14)
    have nDR : ∀ b, c.DN b → ¬ (b = c.q4 ∨ vo.ownBlock = some b) := fun b h e => by
      have := hRo b (.inl (H.out.hD b h).1)
      exact e.elim this.2.1.1 this.2.2.1
    have BK15 := SV.kept byteEl_k BK13.out k15 fun b h _ => nDR b h
    have BV15 := SV.kept byteEl_k BV13.out k15 fun b h _ => nDR b h
    have GL15 := k15.cell (p := ⟨bn2, on2 + i * 6 + 4, none⟩) (nDR _ DB.out) GL13.out
    have GR15 := k15.cell (p := ⟨bn2, on2 + i * 6 + 5, none⟩) (nDR _ DB.out) GR13.out
    have nw0 : ¬ (w.heap.size = c.q4 ∨ vo.ownBlock = some w.heap.size) := fun e => by
      have h1 := H.out.lt
      have h2 := H.out.hB
      rcases e with e | e
      · omega
      · have := (H.out.ho.lt _ e).2; omega
    have Y15 := k15.obj (p := w.heap.size) nw0 Y13.out
    have K15 := (K13.out.mono (T := TalkS c vo vg vc) fun _ h => h.elim).trans k15 fun b h => .inl (h.elim (fun h => .inl h) fun h => .inr (.inr (.inr (.inl h))))
    have s15 : (w14.setCell ⟨c.q4, 0, none⟩ (.slice a14 n14 c14)).heap.size = w14.heap.size := by simp
    have k16 := (Kept.refl Noneof (w14.setCell ⟨c.q4, 0, none⟩ (.slice a14 n14 c14))).alloc (.cells #[(.slice ak k.length ck), (.slice av3 v.length cv3)] 70)
    have G16 := heap_alloc_new (w14.setCell ⟨c.q4, 0, none⟩ (.slice a14 n14 c14)) (.cells #[(.slice ak k.length ck), (.slice av3 v.length cv3)] 70)
    rw [s15] at G16
    have G16 := Lib.hid G16
    have T16 := Lib.hid (T14.kept0 k16)
    have BK16 := Lib.hid (SV.kept byteEl_k BK15 k16 fun _ _ _ h => h)
    have BV16 := Lib.hid (SV.kept byteEl_k BV15 k16 fun _ _ _ h => h)
    have GL16 := Lib.hid (k16.cell (p := ⟨bn2, on2 + i * 6 + 4, none⟩) (fun h => h) GL15)
    have GR16 := Lib.hid (k16.cell (p := ⟨bn2, on2 + i * 6 + 5, none⟩) (fun h => h) GR15)
    have Y16 := Lib.hid (k16.obj (p := w.heap.size) (fun h => h) Y15)
    have K16 := Lib.hid (K15.trans k16 fun _ h => h.elim)
    have HO14 := Lib.hid (show ∀ b, (Value.slice a14 n14 c14).ownBlock = some b → vo.ownBlock = some b ∨ w.heap.size ≤ b from fun b e => (hb14 b e).imp id fun h => by have := K13.out.size; omega)
    have hR16 := Lib.hid T16.out.hR
    have HB16 := Lib.hid T16.out.hB
    have hby2 : (cl.length + 1) * 48 ≤ 140737488355328 := by have := BC1.out; simp only [Tr.size] at this; omega
    have hq46 : c.q4 ≠ c.q6 := ne.2.2.2.1
    have hq64 : c.q6 ≠ c.q4 := fun e => hq46 e.symm
    clear o14 k14 hb14 T14 lt ne lov hRo no14 q4' q6' k15 nDR BK15 BV15 GL15 GR15 nw0 Y15 K15 s15 k16 T13 BLA BLB SP K13 Y13 BK13 BV13 GL13 GR13 hR13 HB13 hby G13
    go_wp2_with (at_builtin; refine wl_app_one (E := pairEl) rfl (.tmp 101) (.tmp 105) _ rfl tPairs (D' := c.DN) vc cl rfl T16.out.hc w14.heap.size _ (k, v) rfl ⟨_, _, G16.out⟩ ⟨_, _, rfl, BK16.out, BV16.out⟩ (fun b h _ => ⟨.inl (H.out.hD b h).1, (hR16.out b (.inl (H.out.hD b h).1)).2.2.2.2⟩) hby2 (by decide) HB16.out ?_)
    intro v17 w17 o17 k17 hb17
    have hb17 : ∀ b, v17.ownBlock = some b → vc.ownBlock = some b ∨ ((w14.setCell ⟨c.q4, 0, none⟩ (.slice a14 n14 c14)).alloc (.cells #[(.slice ak k.length ck), (.slice av3 v.length cv3)] 70)).heap.size ≤ b := fun b e => by have := hb17 b e; simpa using this
    have T17 := T16.out.come k17 o17 hb17
    obtain ⟨a17, n17, c17, rfl⟩ := o17.slice'
    have lt := T16.out.lt
    have lcv := T16.out.hc.lt
    have nc17 : ∀ b, b < c.B → vc.ownBlock ≠ some b := fun b hb e => by have := (lcv b e).1; omega
    have q6' := k17.obj (nc17 _ lt.2.2.2.2.1) T16.out.h6
    have z6' : w17.cell? ⟨c.q6, 0, none⟩ = some vc := by simp [World.cell?, q6']
    have f6' : w17.frozen? ⟨c.q6, 0, none⟩ = false := by simp [World.frozen?, q6']
    have k18 := (k17.mono (T := fun b => b = c.q6 ∨ vc.ownBlock = some b) fun b h => .inr h).setCell (p := ⟨c.q6, 0, none⟩) (.inl (.inl rfl)) (.slice a17 n17 c17)
    have nDR : ∀ b, c.DN b → ¬ (b = c.q6 ∨ vc.ownBlock = some b) := fun b h e => by
      have := hR16.out b (.inl (H.out.hD b h).1)
      exact e.elim this.2.1.2.2 this.2.2.2.2
    have nw0 : ¬ (w.heap.size = c.q6 ∨ vc.ownBlock = some w.heap.size) := fun e => by
      have h1 := H.out.lt
      have h2 := H.out.hB
      rcases e with e | e
      · omega
      · have := (H.out.hc.lt _ e).2; omega
    have nw1 : vc.ownBlock ≠ some w.heap.size := fun e => nw0 (.inr e)
    have y17 := k17.obj (p := w.heap.size) nw1 Y16.out
    have y0 : w17.cell? ⟨w.heap.size, 0, none⟩ = some (.slice a1 low.length c1) := by simp [World.cell?, y17]
    have y1 : w17.cell? ⟨w.heap.size, 1, none⟩ = some (.slice a2 high.length c2) := by simp [World.cell?, y17]
    have y2 : w17.cell? ⟨w.heap.size, 2, none⟩ = some (.bool bd) := by simp [World.cell?, y17]
    have hq6w : c.q6 ≠ w.heap.size := fun e => nw0 (.inl e.symm)
    have BK18 := SV.kept byteEl_k BK16.out k18 fun b h _ => nDR b h
    have GL18 := k18.cell (p := ⟨bn2, on2 + i * 6 + 4, none⟩) (nDR _ DB.out) GL16.out
    have GR18 := k18.cell (p := ⟨bn2, on2 + i * 6 + 5, none⟩) (nDR _ DB.out) GR16.out
    have Y18 := k18.obj (p := w.heap.size) nw0 Y16.out
    have K18 := K16.out.trans k18 fun b h => .inl (h.elim (fun h => .inr (.inr (.inl h))) fun h => .inr (.inr (.inr (.inr (.inr h)))))
    have HC17 := Lib.hid (show ∀ b, (Value.slice a17 n17 c17).ownBlock = some b → vc.ownBlock = some b ∨ w.heap.size ≤ b from fun b e => (hb17 b e).imp id fun h => by have := K16.out.size; omega)
    clear o17 k17 hb17 lt lcv nc17 q6' k18 nDR nw1 y17 T16 BK16 BV16 GL16 GR16 Y16 K16 hR16 HB16 hby2 G16 m0 m1 m2 m3 m4 m5 m6 mf z4 nw0
    have T17 := Lib.hid T17
    have BK18 := Lib.hid BK18
    have GL18 := Lib.hid GL18
    have GR18 := Lib.hid GR18
    have Y18 := Lib.hid Y18
    have K18 := Lib.hid K18
    go_wp2_with fail
    generalize w17.setCell ⟨c.q6, 0, none⟩ (.slice a17 n17 c17) = w18 at *
    have nS : ∀ b, R b → b < w.heap.size → ¬ TalkS c vo vg vc b := fun b hb _ e => by
      have := H.out.hR b hb
      rcases e with e | e | e | e | e | e
      · exact this.2.1.1 e
      · exact this.2.1.2.1 e
      · exact this.2.1.2.2 e
      · exact this.2.2.1 e
      · exact this.2.2.2.1 e
      · exact this.2.2.2.2 e
    have BL18 := Lib.hid (H1.out.kept byteEl_k K18.out nS)
    have BH18 := Lib.hid (H2.out.kept byteEl_k K18.out nS)
    clear nS z6' f6' y0 y1 y2 hq6w
    refine (swspan_parts_calls BL18.out BH18.out BK18.out (by have := KV.out; omega)).mono ?_
    rintro e w19 ⟨nv, rfl, bn19, k19⟩
    have BN19 := Lib.hid bn19
    obtain ⟨a19, n19, c19, rfl⟩ : ∃ a n c, nv = .slice a n c := by obtain ⟨a, c, h, _⟩ := bn19; exact ⟨_, _, _, h⟩
    have K19 := Lib.hid k19
    clear bn19 k19
    go_wp2_with fail
    have g1 := heap_alloc_new w19 (.cells #[.slice a1 low.length c1, .slice ak k.length ck, .bool true] 170)
    have k1 := (Kept.refl Noneof w19).alloc (.cells #[.slice a1 low.length c1, .slice ak k.length ck, .bool true] 170)
    have s1 : (w19.alloc (.cells #[.slice a1 low.length c1, .slice ak k.length ck, .bool true] 170)).heap.size = w19.heap.size + 1 := by simp
    generalize w19.alloc (.cells #[.slice a1 low.length c1, .slice ak k.length ck, .bool true] 170) = wx at *
    have g2 := heap_alloc_new wx (.cells #[.slice a19 n19 c19, .slice a2 high.length c2, .bool bd] 170)
    have k2 := (Kept.refl Noneof wx).alloc (.cells #[.slice a19 n19 c19, .slice a2 high.length c2, .bool bd] 170)
    have s2 : (wx.alloc (.cells #[.slice a19 n19 c19, .slice a2 high.length c2, .bool bd] 170)).heap.size = w19.heap.size + 2 := by simp [s1]
    generalize wx.alloc (.cells #[.slice a19 n19 c19, .slice a2 high.length c2, .bool bd] 170) = w20 at *
    rw [s1] at g2
    have k1820 := (K19.out.trans k1 fun _ h => h.elim).trans k2 fun _ h => h.elim
    have G15 := Lib.hid (k2.obj (fun h => h) g1)
    have G16 := Lib.hid g2
    have z19 : w18.heap.size ≤ w19.heap.size := K19.out.size
    have T20 := Lib.hid ((T17.out.kept0 k1820).wide (R' := fun b => (R b ∨ (Value.slice p1 n1 d1).ownBlock = some b ∨ (Value.slice p2 n2 d2).ownBlock = some b ∨ (Value.slice p3 n3 d3).ownBlock = some b ∨ (Value.slice p4 n4 d4).ownBlock = some b ∨ b = w10.heap.size) ∨ w18.heap.size ≤ b ∧ b < w19.heap.size) (fun b h => .inl h) (fun b h => h.imp id fun h => ⟨by omega, by have := T17.out.hB; omega, fun e => by have := (T17.out.ho.lt b e).2; omega, fun e => by have := (T17.out.hg.lt b e).2; omega, fun e => by have := (T17.out.hc.lt b e).2; omega⟩))
    have BL20 := Lib.hid ((BL18.out.kept byteEl_k k1820 fun _ _ _ h => h).wide (D' := fun b => (R b ∨ (Value.slice p1 n1 d1).ownBlock = some b ∨ (Value.slice p2 n2 d2).ownBlock = some b ∨ (Value.slice p3 n3 d3).ownBlock = some b ∨ (Value.slice p4 n4 d4).ownBlock = some b ∨ b = w10.heap.size) ∨ w18.heap.size ≤ b ∧ b < w19.heap.size) byteEl_k fun b h _ => .inl (.inl h))
    have BH20 := Lib.hid ((BH18.out.kept byteEl_k k1820 fun _ _ _ h => h).wide (D' := fun b => (R b ∨ (Value.slice p1 n1 d1).ownBlock = some b ∨ (Value.slice p2 n2 d2).ownBlock = some b ∨ (Value.slice p3 n3 d3).ownBlock = some b ∨ (Value.slice p4 n4 d4).ownBlock = some b ∨ b = w10.heap.size) ∨ w18.heap.size ≤ b ∧ b < w19.heap.size) byteEl_k fun b h _ => .inl (.inl h))
    have BK20 := Lib.hid ((SV.kept byteEl_k BK18.out k1820 fun _ _ _ h => h).wide (D' := fun b => (R b ∨ (Value.slice p1 n1 d1).ownBlock = some b ∨ (Value.slice p2 n2 d2).ownBlock = some b ∨ (Value.slice p3 n3 d3).ownBlock = some b ∨ (Value.slice p4 n4 d4).ownBlock = some b ∨ b = w10.heap.size) ∨ w18.heap.size ≤ b ∧ b < w19.heap.size) byteEl_k fun b h _ => .inl (.inl (H.out.hD b h).1))
    have BN20 := Lib.hid (((BN19.out.bd byteEl_k).kept byteEl_k (k1.trans k2 fun _ h => h.elim) fun _ _ _ h => h).wide (D' := fun b => (R b ∨ (Value.slice p1 n1 d1).ownBlock = some b ∨ (Value.slice p2 n2 d2).ownBlock = some b ∨ (Value.slice p3 n3 d3).ownBlock = some b ∨ (Value.slice p4 n4 d4).ownBlock = some b ∨ b = w10.heap.size) ∨ w18.heap.size ≤ b ∧ b < w19.heap.size) byteEl_k fun b h _ => .inr h)
    have GL20 := Lib.hid (k1820.cell (p := ⟨bn2, on2 + i * 6 + 4, none⟩) (fun h => h) GL18.out)
    have GR20 := Lib.hid (k1820.cell (p := ⟨bn2, on2 + i * 6 + 5, none⟩) (fun h => h) GR18.out)
    have K20 := Lib.hid (K18.out.trans k1820 fun _ h => h.elim)
    have n1516 : ∀ b, w19.heap.size ≤ b → ¬ TalkS c (.slice a14 n14 c14) vg (.slice a17 n17 c17) b := fun b h => T17.out.newS b (by omega)
    have HS2 := Lib.hid s2
    have HZ19 := Lib.hid z19
    have g15 := G15.out
    have t20 := T20.out.h2
    rw [HVN.out] at t20
    have x7 : w20.cell? ⟨c.q7, 0, none⟩ = some (.func (.func 117) #[] #[bp c.q2, bp c.q3, bp c.q4, bp c.q5, bp c.q6, bp c.q7]) := by simp [World.cell?, T20.out.h7]
    have x2 : w20.cell? ⟨c.q2, 0, none⟩ = some (.slice (some ⟨bn2, on2, none⟩) c.L.length cv2) := by simp [World.cell?, t20]
    have x0 : w20.cell? ⟨w19.heap.size, 0, none⟩ = some (.slice a1 low.length c1) := by simp [World.cell?, g15]
    have x1 : w20.cell? ⟨w19.heap.size, 1, none⟩ = some (.slice ak k.length ck) := by simp [World.cell?, g15]
    have x3 : w20.cell? ⟨w19.heap.size, 2, none⟩ = some (.bool true) := by simp [World.cell?, g15]
    have x4 := GL20.out
    clear g1 k1 s1 g2 k2 s2 k1820 z19 T17 BL18 BH18 BK18 BN19 GL18 GR18 K18 K19 g15 t20
    refine wp_region_chain 8 [7] (fun w' => w'.cell? ⟨c.q7, 0, none⟩ = some (.func (.func 117) #[] #[bp c.q2, bp c.q3, bp c.q4, bp c.q5, bp c.q6, bp c.q7]) ∧ w'.cell? ⟨c.q2, 0, none⟩ = some (.slice (some ⟨bn2, on2, none⟩) c.L.length cv2) ∧ w'.cell? ⟨w19.heap.size, 0, none⟩ = some (.slice a1 low.length c1) ∧ w'.cell? ⟨w19.heap.size, 1, none⟩ = some (.slice ak k.length ck) ∧ w'.cell? ⟨w19.heap.size, 2, none⟩ = some (.bool true) ∧ w'.cell? ⟨bn2, on2 + i * 6 + 4, none⟩ = some (.int .i64 (ndOf seed l k v r i).left)) (by kernel_rfl) (by kernel_rfl) ?_ ?_
    · exact ⟨x7, x2, x0, x1, x3, x4⟩
    simp only [List.take_succ_cons, List.take_zero, List.drop_succ_cons, List.drop_zero]
    iterate 7 (refine SeqY.val (v := ?_) (by rfl) (by rfl) (fun wx hSw => ?_) ?_; rotate_left; (focus ((try dsimp only at hSw); go_simp; (try with_reducible rfl))); (try simp only [Act.put, List.setIfInBounds_toArray, List.set_cons_zero, List.set_cons_succ]))
    refine SeqY.act (by rfl) rfl (by rfl) (by rfl) (fun K hK => ?_)
    go_simp
    have b1 := BO1.out
    have b2 := BG1.out
    have b3 := BC1.out
    have bb := Lib.hid (talk_bnd1 b1 b2 b3)
    refine (IL.out _ _ vg _ w20.drew (ol ++ [⟨low, high, bd, (Tr.nd l k v r).size, (Tr.nd l k v r).dg seed, false, [(k, v)]⟩]) gl (cl ++ [(k, v)]) _ _ low k true _ (T20.out.kept0 ((Kept.refl Noneof w20).drew)) (BL20.out.at rfl) (BK20.out.at rfl) NL.out (by rw [len_one]; exact bb.out.1) bb.out.2.1 (by rw [len_one]; exact bb.out.2.2)).mono ?_
    rintro e w21 ⟨⟨v21, rfl⟩, R21, vo21, vg21, vc21, T21, hR21, k21, hb21⟩
    have k21 : Kept (TalkS c (.slice a14 n14 c14) vg (.slice a17 n17 c17)) w20 w21 := ⟨k21.os, k21.tape, k21.output, k21.size, k21.block⟩
    have hb21 : ∀ b, (vo21.ownBlock = some b → (Value.slice a14 n14 c14).ownBlock = some b ∨ w20.heap.size ≤ b) ∧ (vg21.ownBlock = some b → vg.ownBlock = some b ∨ w20.heap.size ≤ b) ∧ (vc21.ownBlock = some b → (Value.slice a17 n17 c17).ownBlock = some b ∨ w20.heap.size ≤ b) := hb21
    have t20 := T20.out
    have n15 : ¬ TalkS c (.slice a14 n14 c14) vg (.slice a17 n17 c17) w19.heap.size := n1516 _ (Nat.le_refl _)
    have n16 : ¬ TalkS c (.slice a14 n14 c14) vg (.slice a17 n17 c17) (w19.heap.size + 1) := n1516 _ (Nat.le_succ _)
    have nbn2 : ¬ TalkS c (.slice a14 n14 c14) vg (.slice a17 n17 c17) bn2 := t20.notS bn2 (.inl (.inl (H.out.hD _ DB.out).1))
    have t21 := T21.h2
    rw [HVN.out] at t21
    have x7' : w21.cell? ⟨c.q7, 0, none⟩ = some (.func (.func 117) #[] #[bp c.q2, bp c.q3, bp c.q4, bp c.q5, bp c.q6, bp c.q7]) := by simp [World.cell?, T21.h7]
    have x2' : w21.cell? ⟨c.q2, 0, none⟩ = some (.slice (some ⟨bn2, on2, none⟩) c.L.length cv2) := by simp [World.cell?, t21]
    have g16 := k21.obj n16 G16.out
    have x0' : w21.cell? ⟨w19.heap.size + 1, 0, none⟩ = some (.slice a19 n19 c19) := by simp [World.cell?, g16]
    have x1' : w21.cell? ⟨w19.heap.size + 1, 1, none⟩ = some (.slice a2 high.length c2) := by simp [World.cell?, g16]
    have x3' : w21.cell? ⟨w19.heap.size + 1, 2, none⟩ = some (.bool bd) := by simp [World.cell?, g16]
    have x4' := k21.cell (p := ⟨bn2, on2 + i * 6 + 5, none⟩) nbn2 GR20.out
    refine hK.out _ _ ⟨x7', x2', k21.cell (p := ⟨w19.heap.size, 0, none⟩) n15 x0, k21.cell (p := ⟨w19.heap.size, 1, none⟩) n15 x1, k21.cell (p := ⟨w19.heap.size, 2, none⟩) n15 x3, k21.cell (p := ⟨bn2, on2 + i * 6 + 4, none⟩) nbn2 x4⟩ ?_
    have BN21 := Lib.hid ((BN20.out.kept byteEl_k k21 fun b h _ => t20.notS b h).wide byteEl_k fun b h _ => hR21 b h)
    have BH21 := Lib.hid ((BH20.out.kept byteEl_k k21 fun b h _ => t20.notS b h).wide byteEl_k fun b h _ => hR21 b h)
    have NN16 := Lib.hid (show ¬ TalkS c vo21 vg21 vc21 (w19.heap.size + 1) from fun e => (TalkS.tr (n := w20.heap.size) hb21 _ e).elim n16 fun h => by have := HS2.out; omega)
    have HR21 := Lib.hid (show ∀ b, R b → R21 b from fun b h => hR21 b (.inl (.inl h)))
    have K20b := Lib.hid (K20.out.trans k21 fun b hb => TalkS.tr (vo := vo) (vg := vg) (vc := vc) (fun b => ⟨HO14.out b, .inl, HC17.out b⟩) b hb)
    have hw20 := K20.out.size
    have HB21 := Lib.hid (show ∀ b, (vo21.ownBlock = some b → vo.ownBlock = some b ∨ w.heap.size ≤ b) ∧ (vg21.ownBlock = some b → vg.ownBlock = some b ∨ w.heap.size ≤ b) ∧ (vc21.ownBlock = some b → vc.ownBlock = some b ∨ w.heap.size ≤ b) from fun b => ⟨fun e => ((hb21 b).1 e).elim (HO14.out b) fun h => .inr (by omega), fun e => ((hb21 b).2.1 e).imp id fun h => by omega, fun e => ((hb21 b).2.2 e).elim (HC17.out b) fun h => .inr (by omega)⟩)
    have T21 := Lib.hid T21
    have BB2 := Lib.hid (talk_bnd2 b1 b2 b3 (talk_le seed u l low k true) (gones_le seed u HU.out l low k true) (comes_le seed u l low k true))
    clear K hK k21 hb21 t20 n15 n16 nbn2 t21 x7 x2 x0 x1 x3 x4 g16 hR21 hw20 bb T20 BL20 BH20 BK20 BN20 GL20 GR20 K20 G15 G16 b1 b2 b3
    (try simp only [Act.put, List.setIfInBounds_toArray, List.set_cons_zero, List.set_cons_succ])
    refine SeqY.nil ?_
    go_wp2_with fail
    refine wp_region_chain 8 [7] (fun w' => w'.cell? ⟨c.q7, 0, none⟩ = some (.func (.func 117) #[] #[bp c.q2, bp c.q3, bp c.q4, bp c.q5, bp c.q6, bp c.q7]) ∧ w'.cell? ⟨c.q2, 0, none⟩ = some (.slice (some ⟨bn2, on2, none⟩) c.L.length cv2) ∧ w'.cell? ⟨w19.heap.size + 1, 0, none⟩ = some (.slice a19 n19 c19) ∧ w'.cell? ⟨w19.heap.size + 1, 1, none⟩ = some (.slice a2 high.length c2) ∧ w'.cell? ⟨w19.heap.size + 1, 2, none⟩ = some (.bool bd) ∧ w'.cell? ⟨bn2, on2 + i * 6 + 5, none⟩ = some (.int .i64 (ndOf seed l k v r i).right)) (by kernel_rfl) (by kernel_rfl) ?_ ?_
    · exact ⟨x7', x2', x0', x1', x3', x4'⟩
    simp only [List.take_succ_cons, List.take_zero, List.drop_succ_cons, List.drop_zero]
    iterate 7 (refine SeqY.val (v := ?_) (by rfl) (by rfl) (fun wx hSw => ?_) ?_; rotate_left; (focus ((try dsimp only at hSw); go_simp; (try with_reducible rfl))); (try simp only [Act.put, List.setIfInBounds_toArray, List.set_cons_zero, List.set_cons_succ]))
    refine SeqY.act (by rfl) rfl (by rfl) (by rfl) (fun K hK => ?_)
    go_simp
    refine (IR.out _ _ _ _ w21.drew _ _ _ _ _ (k ++ [0]) high bd _ (T21.out.kept0 ((Kept.refl Noneof w21).drew)) (BN21.out.at rfl) (BH21.out.at rfl) NR.out (by rw [List.length_append, len_one]; exact BB2.out.1) (by rw [List.length_append]; exact BB2.out.2.1) (by rw [List.length_append, len_one]; exact BB2.out.2.2)).mono ?_
    rintro e w22 ⟨⟨v22, rfl⟩, R22, vo22, vg22, vc22, T22, hR22, k22, hb22⟩
    have k22 : Kept (TalkS c vo21 vg21 vc21) w21 w22 := ⟨k22.os, k22.tape, k22.output, k22.size, k22.block⟩
    have hb22 : ∀ b, (vo22.ownBlock = some b → vo21.ownBlock = some b ∨ w21.heap.size ≤ b) ∧ (vg22.ownBlock = some b → vg21.ownBlock = some b ∨ w21.heap.size ≤ b) ∧ (vc22.ownBlock = some b → vc21.ownBlock = some b ∨ w21.heap.size ≤ b) := hb22
    have t22 := T22.h2
    rw [HVN.out] at t22
    have nn : ∀ b, (b = w19.heap.size + 1 ∨ b = bn2) → ¬ TalkS c vo21 vg21 vc21 b := fun b hb => by
      rcases hb with rfl | rfl
      · exact NN16.out
      · exact T21.out.notS _ (HR21.out _ (H.out.hD _ DB.out).1)
    refine hK.out _ _ ⟨by simp [World.cell?, T22.h7], by simp [World.cell?, t22], k22.cell (p := ⟨w19.heap.size + 1, 0, none⟩) (nn _ (.inl rfl)) x0', k22.cell (p := ⟨w19.heap.size + 1, 1, none⟩) (nn _ (.inl rfl)) x1', k22.cell (p := ⟨w19.heap.size + 1, 2, none⟩) (nn _ (.inl rfl)) x3', k22.cell (p := ⟨bn2, on2 + i * 6 + 5, none⟩) (nn _ (.inr rfl)) x4'⟩ ?_
    clear K hK
    (try simp only [Act.put, List.setIfInBounds_toArray, List.set_cons_zero, List.set_cons_succ])
    refine SeqY.nil ?_
    go_wp2
    refine bodyPost_ret (results_none rfl _ _ _) rfl ?_
    have hs := HS.out
    have q1 : ol ++ talk seed u (.nd l k v r) low high bd = ol ++ [⟨low, high, bd, (Tr.nd l k v r).size, (Tr.nd l k v r).dg seed, false, [(k, v)]⟩] ++ talk seed u l low k true ++ talk seed u r (k ++ [0]) high bd := by rw [talk, if_neg (by rw [hs]; simp)]; simp
    have q2 : gl ++ gones seed u (.nd l k v r) low high bd = gl ++ gones seed u l low k true ++ gones seed u r (k ++ [0]) high bd := by rw [gones, if_neg (by rw [hs]; simp)]; simp
    have q3 : cl ++ comes seed u (.nd l k v r) low high bd = cl ++ [(k, v)] ++ comes seed u l low k true ++ comes seed u r (k ++ [0]) high bd := by rw [comes, if_neg (by rw [hs]; simp)]; simp
    rw [q1, q2, q3]
    have hw21 := K20b.out.size
    exact ⟨⟨_, rfl⟩, R22, vo22, vg22, vc22, T22, fun b h => hR22 b (HR21.out b h), K20b.out.trans k22 fun b hb => TalkS.tr HB21.out b hb, fun b => ⟨fun e => ((hb22 b).1 e).elim ((HB21.out b).1) fun h => .inr (by omega), fun e => ((hb22 b).2.1 e).elim ((HB21.out b).2.1) fun h => .inr (by omega), fun e => ((hb22 b).2.2 e).elim ((HB21.out b).2.2) fun h => .inr (by omega)⟩⟩)
  | true =>
    rw [g1] at e1
    cases g2 : ((u.cut low true high bd).dg seed == (Tr.nd l k v r).dg seed) with
    | false =>
      have hs : sameAt seed u (.nd l k v r) low high bd = false := by unfold sameAt; rw [g1, g2]; rfl
      have HS := Lib.hid hs
      (
    go_wp2_with fail
    have M7 := (Kept.refl (fun b => b = bm) w6).setCell (p := ⟨bm, 5, none⟩) (.inl rfl) (.bool false)
    have T7 := T6.out.kept M7 fun b e => by have e : b = bm := e; subst e; exact lT.out
    have OA7 := OA6.out.kept M7 fun b hb _ => ⟨fun h => h.elim, fun e => by have hb : b = bm := hb; subst hb; exact nA.out e⟩
    have OB7 := OB6.out.kept M7 fun b hb _ => ⟨fun h => h.elim, fun e => by have hb : b = bm := hb; subst hb; exact nB.out e⟩
    have GM7 := setCell_obj GM6.out (.bool false) (j := 5)
    have K7 := K6.out.trans M7 fun b e => .inr (by have := HBM.out; have := S0.out; omega)
    have Y7 := M7.obj (p := w.heap.size) (fun e => hbm1 e.symm) Y6.out
    generalize w6.setCell ⟨bm, 5, none⟩ (.bool false) = w7 at *
    have T7 := Lib.hid T7
    have OA7 := Lib.hid OA7
    have OB7 := Lib.hid OB7
    have GM7 := Lib.hid (show w7.heap[bm]? = some (msgObj (.slice p1 n1 d1) (.slice p2 n2 d2) bd ((Tr.nd l k v r).size : Nat) ((Tr.nd l k v r).dg seed) false (.slice none 0 0)) from GM7)
    have K7 := Lib.hid K7
    have Y7 := Lib.hid Y7
    have D7 := Lib.hid (show SV nodeEl c.DN w7 c.vn c.L from T7.out.hn)
    clear M7 m0 m1 m2 m3 m4 m5 m6 mf y0 y1 y2 z2 z3 z4 z5 N6 N5 BK BV' HVN
    obtain ⟨av2, cv2, hvn2, hcap2, hmx2, hrd2⟩ := D7.out
    obtain ⟨bn2, on2, uk2, uv2, hav2, hDb2, g0, g1, g2, g3, g4, g5, hbk, hbv⟩ := Rd.node hrd2 hLt
    have hnd2 : c.L[i] = ndOf seed l k v r i := by rw [List.getElem?_eq_getElem hLt] at hL; exact Option.some.inj hL
    rw [hnd2] at g4 g5 hbk hbv
    rw [hav2] at hvn2
    obtain ⟨ak, ck, rfl, _⟩ := id hbk
    obtain ⟨av3, cv3, rfl, _⟩ := id hbv
    have HVN := Lib.hid hvn2
    have BK7 := Lib.hid (show BV c.DN w7 (.slice ak k.length ck) k from hbk)
    have BV7 := Lib.hid (show BV c.DN w7 (.slice av3 v.length cv3) v from hbv)
    have DB := Lib.hid hDb2
    have GL7 := Lib.hid g4
    have GR7 := Lib.hid g5
    have z2 : w7.cell? ⟨c.q2, 0, none⟩ = some (.slice (some ⟨bn2, on2, none⟩) c.L.length cv2) := by have h2 := T7.out.h2; rw [HVN.out] at h2; simp [World.cell?, h2]
    clear hrd2 hcap2 hmx2 hbk hbv hDb2 g2 g3 g4 g5 hvn2
    refine wp_region_chain 12 [] (fun w' => w'.cell? ⟨c.q2, 0, none⟩ = some (.slice (some ⟨bn2, on2, none⟩) c.L.length cv2) ∧ w'.cell? ⟨bn2, on2 + i * 6, none⟩ = some (.slice ak k.length ck) ∧ w'.cell? ⟨bn2, on2 + i * 6 + 1, none⟩ = some (.slice av3 v.length cv3)) (by kernel_rfl) (by kernel_rfl) ?_ ?_
    · exact ⟨z2, g0, g1⟩
    simp only [List.take_succ_cons, List.take_zero, List.drop_succ_cons, List.drop_zero]
    iterate 12 (refine SeqY.val (v := ?_) (by rfl) (by rfl) (fun wx hSw => ?_) ?_; rotate_left; (focus ((try dsimp only at hSw); go_simp; (try with_reducible rfl))); (try simp only [Act.put, List.setIfInBounds_toArray, List.set_cons_zero, List.set_cons_succ]))
    refine SeqY.nil ?_
    clear z2 g0 g1
    have kd : Kept Noneof w7 w7.drew := (Kept.refl Noneof w7).drew
    (
    have T8 := Lib.hid (T7.out.kept0 kd)
    have OA8 := Lib.hid (OA7.out.kept kd fun _ h => h.elim)
    have OB8 := Lib.hid (OB7.out.kept kd fun _ h => h.elim)
    have GM8 := Lib.hid (kd.obj (fun h => h) GM7.out)
    have K8 := Lib.hid (K7.out.trans kd fun _ h => h.elim)
    have Y8 := Lib.hid (kd.obj (fun h => h) Y7.out)
    have BK8 := Lib.hid (SV.kept byteEl_k BK7.out kd fun _ _ _ h => h)
    have BV8 := Lib.hid (SV.kept byteEl_k BV7.out kd fun _ _ _ h => h)
    have GL8 := Lib.hid (kd.cell (p := ⟨bn2, on2 + i * 6 + 4, none⟩) (fun h => h) GL7.out)
    have GR8 := Lib.hid (kd.cell (p := ⟨bn2, on2 + i * 6 + 5, none⟩) (fun h => h) GR7.out)
    clear T7 OA7 OB7 GM7 K7 Y7 BK7 BV7 GL7 GR7)
    generalize w7.drew = w8 at *
    clear kd D7
    go_wp2_with fail
    refine (byClone_calls BK8.out).mono ?_
    rintro e w9 ⟨kn, rfl, o9, k9⟩
    have lb8 := Lib.hid (block_lt GM8.out)
    have hs9 := Lib.hid k9.size
    have OK9 := Lib.hid o9
    obtain ⟨p3, n3, d3, rfl⟩ := o9.slice'
    (
    have T9 := Lib.hid (T8.out.kept0 k9)
    have OA9 := Lib.hid (OA8.out.kept k9 fun _ h => h.elim)
    have OB9 := Lib.hid (OB8.out.kept k9 fun _ h => h.elim)
    have GM9 := Lib.hid (k9.obj (fun h => h) GM8.out)
    have K9 := Lib.hid (K8.out.trans k9 fun _ h => h.elim)
    have Y9 := Lib.hid (k9.obj (fun h => h) Y8.out)
    have BK9 := Lib.hid (SV.kept byteEl_k BK8.out k9 fun _ _ _ h => h)
    have BV9 := Lib.hid (SV.kept byteEl_k BV8.out k9 fun _ _ _ h => h)
    have GL9 := Lib.hid (k9.cell (p := ⟨bn2, on2 + i * 6 + 4, none⟩) (fun h => h) GL8.out)
    have GR9 := Lib.hid (k9.cell (p := ⟨bn2, on2 + i * 6 + 5, none⟩) (fun h => h) GR8.out)
    clear T8 OA8 OB8 GM8 K8 Y8 BK8 BV8 GL8 GR8)
    clear o9 k9
    go_wp2_with fail
    refine (byClone_calls BV9.out).mono ?_
    rintro e w10 ⟨vn', rfl, o10, k10⟩
    have k9s := Lib.hid k10.size
    have OK10 := Lib.hid (OK9.out.kept k10 fun _ h => h.elim)
    have OV10 := Lib.hid o10
    obtain ⟨p4, n4, d4, rfl⟩ := o10.slice'
    (
    have T10 := Lib.hid (T9.out.kept0 k10)
    have OA10 := Lib.hid (OA9.out.kept k10 fun _ h => h.elim)
    have OB10 := Lib.hid (OB9.out.kept k10 fun _ h => h.elim)
    have GM10 := Lib.hid (k10.obj (fun h => h) GM9.out)
    have K10 := Lib.hid (K9.out.trans k10 fun _ h => h.elim)
    have Y10 := Lib.hid (k10.obj (fun h => h) Y9.out)
    have BK10 := Lib.hid (SV.kept byteEl_k BK9.out k10 fun _ _ _ h => h)
    have BV10 := Lib.hid (SV.kept byteEl_k BV9.out k10 fun _ _ _ h => h)
    have GL10 := Lib.hid (k10.cell (p := ⟨bn2, on2 + i * 6 + 4, none⟩) (fun h => h) GL9.out)
    have GR10 := Lib.hid (k10.cell (p := ⟨bn2, on2 + i * 6 + 5, none⟩) (fun h => h) GR9.out)
    clear T9 OA9 OB9 GM9 K9 Y9 BK9 BV9 GL9 GR9)
    clear o10 k10 OK9
    have lb10 := Lib.hid (block_lt GM10.out)
    have gm10 := GM10.out
    have m0 : ∀ o, (w10.alloc o).cell? ⟨bm, 0, none⟩ = some (.slice p1 n1 d1) := fun o => ((Kept.refl Noneof w10).alloc o).cell (p := ⟨bm, 0, none⟩) (fun h => h) (by simp [World.cell?, gm10])
    have m1 : ∀ o, (w10.alloc o).cell? ⟨bm, 1, none⟩ = some (.slice p2 n2 d2) := fun o => ((Kept.refl Noneof w10).alloc o).cell (p := ⟨bm, 1, none⟩) (fun h => h) (by simp [World.cell?, gm10])
    have m2 : ∀ o, (w10.alloc o).cell? ⟨bm, 2, none⟩ = some (.bool bd) := fun o => ((Kept.refl Noneof w10).alloc o).cell (p := ⟨bm, 2, none⟩) (fun h => h) (by simp [World.cell?, gm10])
    have m3 : ∀ o, (w10.alloc o).cell? ⟨bm, 3, none⟩ = some (.int .i64 ((Tr.nd l k v r).size : Nat)) := fun o => ((Kept.refl Noneof w10).alloc o).cell (p := ⟨bm, 3, none⟩) (fun h => h) (by simp [World.cell?, gm10])
    have m4 : ∀ o, (w10.alloc o).cell? ⟨bm, 4, none⟩ = some (.int .u64 ((Tr.nd l k v r).dg seed)) := fun o => ((Kept.refl Noneof w10).alloc o).cell (p := ⟨bm, 4, none⟩) (fun h => h) (by simp [World.cell?, gm10])
    have m5 : ∀ o, (w10.alloc o).cell? ⟨bm, 5, none⟩ = some (.bool false) := fun o => ((Kept.refl Noneof w10).alloc o).cell (p := ⟨bm, 5, none⟩) (fun h => h) (by simp [World.cell?, gm10])
    have m6 : ∀ o, (w10.alloc o).cell? ⟨bm, 6, none⟩ = some (.slice none 0 0) := fun o => ((Kept.refl Noneof w10).alloc o).cell (p := ⟨bm, 6, none⟩) (fun h => h) (by simp [World.cell?, gm10])
    have mf : ∀ o j, (w10.alloc o).frozen? ⟨bm, j, none⟩ = false := fun o j => by have := ((Kept.refl Noneof w10).alloc o).obj (fun h => h) gm10; simp [World.frozen?, this]
    have z4 : ∀ o, (w10.alloc o).cell? ⟨c.q4, 0, none⟩ = some vo := fun o => ((Kept.refl Noneof w10).alloc o).cell (p := ⟨c.q4, 0, none⟩) (fun h => h) (by simp [World.cell?, T10.out.h4])
    have kp := (Kept.refl Noneof w10).alloc (.cells #[.slice p3 n3 d3, .slice p4 n4 d4] 70)
    have M12 := (Kept.refl (fun b => b = bm) (w10.alloc (.cells #[.slice p3 n3 d3, .slice p4 n4 d4] 70))).setCell (p := ⟨bm, 6, none⟩) (.inl rfl) (.slice (some ⟨w10.heap.size, 0, none⟩) 1 1)
    have kA := (Kept.refl Noneof ((w10.alloc (.cells #[.slice p3 n3 d3, .slice p4 n4 d4] 70)).setCell ⟨bm, 6, none⟩ (.slice (some ⟨w10.heap.size, 0, none⟩) 1 1))).alloc (msgObj (.slice p1 n1 d1) (.slice p2 n2 d2) bd ((Tr.nd l k v r).size : Nat) ((Tr.nd l k v r).dg seed) false (.slice (some ⟨w10.heap.size, 0, none⟩) 1 1))
    have s12 : ((w10.alloc (.cells #[.slice p3 n3 d3, .slice p4 n4 d4] 70)).setCell ⟨bm, 6, none⟩ (.slice (some ⟨w10.heap.size, 0, none⟩) 1 1)).heap.size = w10.heap.size + 1 := by simp
    have far : ∀ b, w1.heap.size ≤ b → b < w10.heap.size + 1 → c.B ≤ b ∧ vo.ownBlock ≠ some b ∧ vg.ownBlock ≠ some b ∧ vc.ownBlock ≠ some b := fun b h1 h2 => by
      have t := H.out
      have e2 := S0.out
      have e3 := t.hB
      exact ⟨by omega, fun e => by have := (t.ho.lt b e).2; omega, fun e => by have := (t.hg.lt b e).2; omega, fun e => by have := (t.hc.lt b e).2; omega⟩
    have hs10 := lb10.out
    have hs8 := lb8.out
    have h18 : w1.heap.size ≤ w8.heap.size := by have := HBM.out; omega
    have h89 := hs9.out
    have h910 : w9.heap.size ≤ w10.heap.size := k9s.out
    have nC : (Value.slice p3 n3 d3).ownBlock ≠ some bm := fun e => by have := (OK10.out.lt _ e).1; omega
    have nE : (Value.slice p4 n4 d4).ownBlock ≠ some bm := fun e => by have := (OV10.out.lt _ e).1; omega
    have la := OA10.out.lt
    have lb := OB10.out.lt
    have lc := OK10.out.lt
    have ld := OV10.out.lt
    have T12 := (T10.out.kept0 kp).kept M12 fun b e => by have e : b = bm := e; subst e; exact lT.out
    have G13 := heap_alloc_new ((w10.alloc (.cells #[.slice p3 n3 d3, .slice p4 n4 d4] 70)).setCell ⟨bm, 6, none⟩ (.slice (some ⟨w10.heap.size, 0, none⟩) 1 1)) (msgObj (.slice p1 n1 d1) (.slice p2 n2 d2) bd ((Tr.nd l k v r).size : Nat) ((Tr.nd l k v r).dg seed) false (.slice (some ⟨w10.heap.size, 0, none⟩) 1 1))
    rw [s12] at G13
    have G13 := Lib.hid G13
    have GP := kA.obj (p := w10.heap.size) (fun h => h) (M12.obj (p := w10.heap.size) (by omega) (heap_alloc_new w10 (.cells #[.slice p3 n3 d3, .slice p4 n4 d4] 70)))
    have kAA : Kept (fun b => b = bm) w10 (((w10.alloc (.cells #[.slice p3 n3 d3, .slice p4 n4 d4] 70)).setCell ⟨bm, 6, none⟩ (.slice (some ⟨w10.heap.size, 0, none⟩) 1 1)).alloc (msgObj (.slice p1 n1 d1) (.slice p2 n2 d2) bd ((Tr.nd l k v r).size : Nat) ((Tr.nd l k v r).dg seed) false (.slice (some ⟨w10.heap.size, 0, none⟩) 1 1))) := ((kp.mono fun _ h => h.elim).tr M12).trans kA fun _ h => h.elim
    have T13 := Lib.hid ((T12.kept0 kA).wide (R' := (fun b => R b ∨ (Value.slice p1 n1 d1).ownBlock = some b ∨ (Value.slice p2 n2 d2).ownBlock = some b ∨ (Value.slice p3 n3 d3).ownBlock = some b ∨ (Value.slice p4 n4 d4).ownBlock = some b ∨ b = w10.heap.size)) (fun b h => .inl h) (by
      have sz : (((w10.alloc (.cells #[.slice p3 n3 d3, .slice p4 n4 d4] 70)).setCell ⟨bm, 6, none⟩ (.slice (some ⟨w10.heap.size, 0, none⟩) 1 1)).alloc (msgObj (.slice p1 n1 d1) (.slice p2 n2 d2) bd ((Tr.nd l k v r).size : Nat) ((Tr.nd l k v r).dg seed) false (.slice (some ⟨w10.heap.size, 0, none⟩) 1 1))).heap.size = w10.heap.size + 2 := by simp
      rintro b (h | h | h | h | h | h)
      · exact .inl h
      · exact .inr ⟨by have := la b h; omega, far b (la b h).1 (by have := la b h; omega)⟩
      · exact .inr ⟨by have := lb b h; omega, far b (lb b h).1 (by have := lb b h; omega)⟩
      · exact .inr ⟨by have := lc b h; omega, far b (by have := lc b h; omega) (by have := lc b h; omega)⟩
      · exact .inr ⟨by have := ld b h; omega, far b (by have := ld b h; omega) (by have := ld b h; omega)⟩
      · exact .inr ⟨by omega, far b (by omega) (by omega)⟩))
    have BLA := Lib.hid ((OA10.out.kept kAA fun b hb _ => ⟨fun h => h.elim, fun e => by have hb : b = bm := hb; subst hb; exact nA.out e⟩).rd (D' := (fun b => R b ∨ (Value.slice p1 n1 d1).ownBlock = some b ∨ (Value.slice p2 n2 d2).ownBlock = some b ∨ (Value.slice p3 n3 d3).ownBlock = some b ∨ (Value.slice p4 n4 d4).ownBlock = some b ∨ b = w10.heap.size)) (fun _ h => h.elim) fun b h => .inr (.inl h))
    have BLB := Lib.hid ((OB10.out.kept kAA fun b hb _ => ⟨fun h => h.elim, fun e => by have hb : b = bm := hb; subst hb; exact nB.out e⟩).rd (D' := (fun b => R b ∨ (Value.slice p1 n1 d1).ownBlock = some b ∨ (Value.slice p2 n2 d2).ownBlock = some b ∨ (Value.slice p3 n3 d3).ownBlock = some b ∨ (Value.slice p4 n4 d4).ownBlock = some b ∨ b = w10.heap.size)) (fun _ h => h.elim) fun b h => .inr (.inr (.inl h)))
    have BLC := (OK10.out.kept kAA fun b hb _ => ⟨fun h => h.elim, fun e => by have hb : b = bm := hb; subst hb; exact nC e⟩).rd (D' := (fun b => R b ∨ (Value.slice p1 n1 d1).ownBlock = some b ∨ (Value.slice p2 n2 d2).ownBlock = some b ∨ (Value.slice p3 n3 d3).ownBlock = some b ∨ (Value.slice p4 n4 d4).ownBlock = some b ∨ b = w10.heap.size)) (fun _ h => h.elim) fun b h => .inr (.inr (.inr (.inl h)))
    have BLD := (OV10.out.kept kAA fun b hb _ => ⟨fun h => h.elim, fun e => by have hb : b = bm := hb; subst hb; exact nE e⟩).rd (D' := (fun b => R b ∨ (Value.slice p1 n1 d1).ownBlock = some b ∨ (Value.slice p2 n2 d2).ownBlock = some b ∨ (Value.slice p3 n3 d3).ownBlock = some b ∨ (Value.slice p4 n4 d4).ownBlock = some b ∨ b = w10.heap.size)) (fun _ h => h.elim) fun b h => .inr (.inr (.inr (.inr (.inl h))))
    have SP := Lib.hid (sv_pair1 (D := (fun b => R b ∨ (Value.slice p1 n1 d1).ownBlock = some b ∨ (Value.slice p2 n2 d2).ownBlock = some b ∨ (Value.slice p3 n3 d3).ownBlock = some b ∨ (Value.slice p4 n4 d4).ownBlock = some b ∨ b = w10.heap.size)) GP (.inr (.inr (.inr (.inr (.inr rfl))))) BLC BLD)
    have K13 := Lib.hid (K10.out.trans kAA fun b e => .inr (by have := HBM.out; have := S0.out; omega))
    have Y13 := Lib.hid (kAA.obj (p := w.heap.size) (fun e => hbm1 e.symm) Y10.out)
    have nDN : ∀ b, c.DN b → b < w10.heap.size → ¬ b = bm := fun b h _ e => lT.out.2.1 (e ▸ (T10.out.hD b h).1)
    have BK13 := Lib.hid (SV.kept byteEl_k BK10.out kAA nDN)
    have BV13 := Lib.hid (SV.kept byteEl_k BV10.out kAA nDN)
    have nbn : bn2 ≠ bm := fun e => lT.out.2.1 (e ▸ (T10.out.hD _ DB.out).1)
    have GL13 := Lib.hid (kAA.cell (p := ⟨bn2, on2 + i * 6 + 4, none⟩) nbn GL10.out)
    have GR13 := Lib.hid (kAA.cell (p := ⟨bn2, on2 + i * 6 + 5, none⟩) nbn GR10.out)
    have hR13 := Lib.hid T13.out.hR
    have HB13 := Lib.hid T13.out.hB
    have hby : (ol.length + 1) * 104 ≤ 140737488355328 := by have := BO.out; omega
    clear gm10 kp M12 kA far nC nE la lb lc ld T12 GP kAA BLC BLD s12 hs10 hs8 h18 h89 h910 T10 OA10 OB10 GM10 K10 Y10 BK10 BV10 GL10 GR10
    go_wp2_with (at_builtin; refine wl_app_one (E := msgEl) rfl (.tmp 97) (.tmp 99) _ rfl tMsgs (D' := (fun b => R b ∨ (Value.slice p1 n1 d1).ownBlock = some b ∨ (Value.slice p2 n2 d2).ownBlock = some b ∨ (Value.slice p3 n3 d3).ownBlock = some b ∨ (Value.slice p4 n4 d4).ownBlock = some b ∨ b = w10.heap.size)) vo ol rfl T13.out.ho (w10.heap.size + 1) _ ⟨low, high, bd, (Tr.nd l k v r).size, (Tr.nd l k v r).dg seed, false, [(k, v)]⟩ rfl ⟨_, _, G13.out⟩ ⟨_, _, _, rfl, BLA.out, BLB.out, SP.out⟩ (fun b h _ => ⟨h, (hR13.out b h).2.2.1⟩) hby (by decide) HB13.out ?_)
    intro v14 w14 o14 k14 hb14
    have hb14 : ∀ b, v14.ownBlock = some b → vo.ownBlock = some b ∨ (((w10.alloc (.cells #[.slice p3 n3 d3, .slice p4 n4 d4] 70)).setCell ⟨bm, 6, none⟩ (.slice (some ⟨w10.heap.size, 0, none⟩) 1 1)).alloc (msgObj (.slice p1 n1 d1) (.slice p2 n2 d2) bd ((Tr.nd l k v r).size : Nat) ((Tr.nd l k v r).dg seed) false (.slice (some ⟨w10.heap.size, 0, none⟩) 1 1))).heap.size ≤ b := fun b e => by have := hb14 b e; simpa using this
    have T14 := T13.out.say k14 o14 hb14
    obtain ⟨a14, n14, c14, rfl⟩ := o14.slice'
    have lt := T13.out.lt
    have ne := T13.out.ne
    have lov := T13.out.ho.lt
    have hRo := hR13.out
    have no14 : ∀ b, b < c.B → vo.ownBlock ≠ some b := fun b hb e => by have := (lov b e).1; omega
    have q4' := k14.obj (no14 _ lt.2.2.1) T13.out.h4
    have q6' := k14.obj (no14 _ lt.2.2.2.2.1) T13.out.h6
    have z4' : w14.cell? ⟨c.q4, 0, none⟩ = some vo := by simp [World.cell?, q4']
    have f4' : w14.frozen? ⟨c.q4, 0, none⟩ = false := by simp [World.frozen?, q4']
    have z6' : w14.cell? ⟨c.q6, 0, none⟩ = some vc := by simp [World.cell?, q6']
    have k15 := (k14.mono (T := fun b => b = c.q4 ∨ vo.ownBlock = some b) fun b h => .inr h).setCell (p := ⟨c.q4, 0, none⟩) (.inl (.inl rfl)) (.slice a14 n14 c14)
    have nDR : ∀ b, c.DN b → ¬ (b = c.q4 ∨ vo.ownBlock = some b) := fun b h e => by
      have := hRo b (.inl (H.out.hD b h).1)
      exact e.elim this.2.1.1 this.2.2.1
    have BK15 := SV.kept byteEl_k BK13.out k15 fun b h _ => nDR b h
    have BV15 := SV.kept byteEl_k BV13.out k15 fun b h _ => nDR b h
    have GL15 := k15.cell (p := ⟨bn2, on2 + i * 6 + 4, none⟩) (nDR _ DB.out) GL13.out
    have GR15 := k15.cell (p := ⟨bn2, on2 + i * 6 + 5, none⟩) (nDR _ DB.out) GR13.out
    have nw0 : ¬ (w.heap.size = c.q4 ∨ vo.ownBlock = some w.heap.size) := fun e => by
      have h1 := H.out.lt
      have h2 := H.out.hB
      rcases e with e | e
      · omega
      · have := (H.out.ho.lt _ e).2; omega
    have Y15 := k15.obj (p := w.heap.size) nw0 Y13.out
    have K15 := (K13.out.mono (T := TalkS c vo vg vc) fun _ h => h.elim).trans k15 fun b h => .inl (h.elim (fun h => .inl h) fun h => .inr (.inr (.inr (.inl h))))
    have s15 : (w14.setCell ⟨c.q4, 0, none⟩ (.slice a14 n14 c14)).heap.size = w14.heap.size := by simp
    have k16 := (Kept.refl Noneof (w14.setCell ⟨c.q4, 0, none⟩ (.slice a14 n14 c14))).alloc (.cells #[(.slice ak k.length ck), (.slice av3 v.length cv3)] 70)
    have G16 := heap_alloc_new (w14.setCell ⟨c.q4, 0, none⟩ (.slice a14 n14 c14)) (.cells #[(.slice ak k.length ck), (.slice av3 v.length cv3)] 70)
    rw [s15] at G16
    have G16 := Lib.hid G16
    have T16 := Lib.hid (T14.kept0 k16)
    have BK16 := Lib.hid (SV.kept byteEl_k BK15 k16 fun _ _ _ h => h)
    have BV16 := Lib.hid (SV.kept byteEl_k BV15 k16 fun _ _ _ h => h)
    have GL16 := Lib.hid (k16.cell (p := ⟨bn2, on2 + i * 6 + 4, none⟩) (fun h => h) GL15)
    have GR16 := Lib.hid (k16.cell (p := ⟨bn2, on2 + i * 6 + 5, none⟩) (fun h => h) GR15)
    have Y16 := Lib.hid (k16.obj (p := w.heap.size) (fun h => h) Y15)
    have K16 := Lib.hid (K15.trans k16 fun _ h => h.elim)
    have HO14 := Lib.hid (show ∀ b, (Value.slice a14 n14 c14).ownBlock = some b → vo.ownBlock = some b ∨ w.heap.size ≤ b from fun b e => (hb14 b e).imp id fun h => by have := K13.out.size; omega)
    have hR16 := Lib.hid T16.out.hR
    have HB16 := Lib.hid T16.out.hB
    have hby2 : (cl.length + 1) * 48 ≤ 140737488355328 := by have := BC1.out; simp only [Tr.size] at this; omega
    have hq46 : c.q4 ≠ c.q6 := ne.2.2.2.1
    have hq64 : c.q6 ≠ c.q4 := fun e => hq46 e.symm
    clear o14 k14 hb14 T14 lt ne lov hRo no14 q4' q6' k15 nDR BK15 BV15 GL15 GR15 nw0 Y15 K15 s15 k16 T13 BLA BLB SP K13 Y13 BK13 BV13 GL13 GR13 hR13 HB13 hby G13
    go_wp2_with (at_builtin; refine wl_app_one (E := pairEl) rfl (.tmp 101) (.tmp 105) _ rfl tPairs (D' := c.DN) vc cl rfl T16.out.hc w14.heap.size _ (k, v) rfl ⟨_, _, G16.out⟩ ⟨_, _, rfl, BK16.out, BV16.out⟩ (fun b h _ => ⟨.inl (H.out.hD b h).1, (hR16.out b (.inl (H.out.hD b h).1)).2.2.2.2⟩) hby2 (by decide) HB16.out ?_)
    intro v17 w17 o17 k17 hb17
    have hb17 : ∀ b, v17.ownBlock = some b → vc.ownBlock = some b ∨ ((w14.setCell ⟨c.q4, 0, none⟩ (.slice a14 n14 c14)).alloc (.cells #[(.slice ak k.length ck), (.slice av3 v.length cv3)] 70)).heap.size ≤ b := fun b e => by have := hb17 b e; simpa using this
    have T17 := T16.out.come k17 o17 hb17
    obtain ⟨a17, n17, c17, rfl⟩ := o17.slice'
    have lt := T16.out.lt
    have lcv := T16.out.hc.lt
    have nc17 : ∀ b, b < c.B → vc.ownBlock ≠ some b := fun b hb e => by have := (lcv b e).1; omega
    have q6' := k17.obj (nc17 _ lt.2.2.2.2.1) T16.out.h6
    have z6' : w17.cell? ⟨c.q6, 0, none⟩ = some vc := by simp [World.cell?, q6']
    have f6' : w17.frozen? ⟨c.q6, 0, none⟩ = false := by simp [World.frozen?, q6']
    have k18 := (k17.mono (T := fun b => b = c.q6 ∨ vc.ownBlock = some b) fun b h => .inr h).setCell (p := ⟨c.q6, 0, none⟩) (.inl (.inl rfl)) (.slice a17 n17 c17)
    have nDR : ∀ b, c.DN b → ¬ (b = c.q6 ∨ vc.ownBlock = some b) := fun b h e => by
      have := hR16.out b (.inl (H.out.hD b h).1)
      exact e.elim this.2.1.2.2 this.2.2.2.2
    have nw0 : ¬ (w.heap.size = c.q6 ∨ vc.ownBlock = some w.heap.size) := fun e => by
      have h1 := H.out.lt
      have h2 := H.out.hB
      rcases e with e | e
      · omega
      · have := (H.out.hc.lt _ e).2; omega
    have nw1 : vc.ownBlock ≠ some w.heap.size := fun e => nw0 (.inr e)
    have y17 := k17.obj (p := w.heap.size) nw1 Y16.out
    have y0 : w17.cell? ⟨w.heap.size, 0, none⟩ = some (.slice a1 low.length c1) := by simp [World.cell?, y17]
    have y1 : w17.cell? ⟨w.heap.size, 1, none⟩ = some (.slice a2 high.length c2) := by simp [World.cell?, y17]
    have y2 : w17.cell? ⟨w.heap.size, 2, none⟩ = some (.bool bd) := by simp [World.cell?, y17]
    have hq6w : c.q6 ≠ w.heap.size := fun e => nw0 (.inl e.symm)
    have BK18 := SV.kept byteEl_k BK16.out k18 fun b h _ => nDR b h
    have GL18 := k18.cell (p := ⟨bn2, on2 + i * 6 + 4, none⟩) (nDR _ DB.out) GL16.out
    have GR18 := k18.cell (p := ⟨bn2, on2 + i * 6 + 5, none⟩) (nDR _ DB.out) GR16.out
    have Y18 := k18.obj (p := w.heap.size) nw0 Y16.out
    have K18 := K16.out.trans k18 fun b h => .inl (h.elim (fun h => .inr (.inr (.inl h))) fun h => .inr (.inr (.inr (.inr (.inr h)))))
    have HC17 := Lib.hid (show ∀ b, (Value.slice a17 n17 c17).ownBlock = some b → vc.ownBlock = some b ∨ w.heap.size ≤ b from fun b e => (hb17 b e).imp id fun h => by have := K16.out.size; omega)
    clear o17 k17 hb17 lt lcv nc17 q6' k18 nDR nw1 y17 T16 BK16 BV16 GL16 GR16 Y16 K16 hR16 HB16 hby2 G16 m0 m1 m2 m3 m4 m5 m6 mf z4 nw0
    have T17 := Lib.hid T17
    have BK18 := Lib.hid BK18
    have GL18 := Lib.hid GL18
    have GR18 := Lib.hid GR18
    have Y18 := Lib.hid Y18
    have K18 := Lib.hid K18
    go_wp2_with fail
    generalize w17.setCell ⟨c.q6, 0, none⟩ (.slice a17 n17 c17) = w18 at *
    have nS : ∀ b, R b → b < w.heap.size → ¬ TalkS c vo vg vc b := fun b hb _ e => by
      have := H.out.hR b hb
      rcases e with e | e | e | e | e | e
      · exact this.2.1.1 e
      · exact this.2.1.2.1 e
      · exact this.2.1.2.2 e
      · exact this.2.2.1 e
      · exact this.2.2.2.1 e
      · exact this.2.2.2.2 e
    have BL18 := Lib.hid (H1.out.kept byteEl_k K18.out nS)
    have BH18 := Lib.hid (H2.out.kept byteEl_k K18.out nS)
    clear nS z6' f6' y0 y1 y2 hq6w
    refine (swspan_parts_calls BL18.out BH18.out BK18.out (by have := KV.out; omega)).mono ?_
    rintro e w19 ⟨nv, rfl, bn19, k19⟩
    have BN19 := Lib.hid bn19
    obtain ⟨a19, n19, c19, rfl⟩ : ∃ a n c, nv = .slice a n c := by obtain ⟨a, c, h, _⟩ := bn19; exact ⟨_, _, _, h⟩
    have K19 := Lib.hid k19
    clear bn19 k19
    go_wp2_with fail
    have g1 := heap_alloc_new w19 (.cells #[.slice a1 low.length c1, .slice ak k.length ck, .bool true] 170)
    have k1 := (Kept.refl Noneof w19).alloc (.cells #[.slice a1 low.length c1, .slice ak k.length ck, .bool true] 170)
    have s1 : (w19.alloc (.cells #[.slice a1 low.length c1, .slice ak k.length ck, .bool true] 170)).heap.size = w19.heap.size + 1 := by simp
    generalize w19.alloc (.cells #[.slice a1 low.length c1, .slice ak k.length ck, .bool true] 170) = wx at *
    have g2 := heap_alloc_new wx (.cells #[.slice a19 n19 c19, .slice a2 high.length c2, .bool bd] 170)
    have k2 := (Kept.refl Noneof wx).alloc (.cells #[.slice a19 n19 c19, .slice a2 high.length c2, .bool bd] 170)
    have s2 : (wx.alloc (.cells #[.slice a19 n19 c19, .slice a2 high.length c2, .bool bd] 170)).heap.size = w19.heap.size + 2 := by simp [s1]
    generalize wx.alloc (.cells #[.slice a19 n19 c19, .slice a2 high.length c2, .bool bd] 170) = w20 at *
    rw [s1] at g2
    have k1820 := (K19.out.trans k1 fun _ h => h.elim).trans k2 fun _ h => h.elim
    have G15 := Lib.hid (k2.obj (fun h => h) g1)
    have G16 := Lib.hid g2
    have z19 : w18.heap.size ≤ w19.heap.size := K19.out.size
    have T20 := Lib.hid ((T17.out.kept0 k1820).wide (R' := fun b => (R b ∨ (Value.slice p1 n1 d1).ownBlock = some b ∨ (Value.slice p2 n2 d2).ownBlock = some b ∨ (Value.slice p3 n3 d3).ownBlock = some b ∨ (Value.slice p4 n4 d4).ownBlock = some b ∨ b = w10.heap.size) ∨ w18.heap.size ≤ b ∧ b < w19.heap.size) (fun b h => .inl h) (fun b h => h.imp id fun h => ⟨by omega, by have := T17.out.hB; omega, fun e => by have := (T17.out.ho.lt b e).2; omega, fun e => by have := (T17.out.hg.lt b e).2; omega, fun e => by have := (T17.out.hc.lt b e).2; omega⟩))
    have BL20 := Lib.hid ((BL18.out.kept byteEl_k k1820 fun _ _ _ h => h).wide (D' := fun b => (R b ∨ (Value.slice p1 n1 d1).ownBlock = some b ∨ (Value.slice p2 n2 d2).ownBlock = some b ∨ (Value.slice p3 n3 d3).ownBlock = some b ∨ (Value.slice p4 n4 d4).ownBlock = some b ∨ b = w10.heap.size) ∨ w18.heap.size ≤ b ∧ b < w19.heap.size) byteEl_k fun b h _ => .inl (.inl h))
    have BH20 := Lib.hid ((BH18.out.kept byteEl_k k1820 fun _ _ _ h => h).wide (D' := fun b => (R b ∨ (Value.slice p1 n1 d1).ownBlock = some b ∨ (Value.slice p2 n2 d2).ownBlock = some b ∨ (Value.slice p3 n3 d3).ownBlock = some b ∨ (Value.slice p4 n4 d4).ownBlock = some b ∨ b = w10.heap.size) ∨ w18.heap.size ≤ b ∧ b < w19.heap.size) byteEl_k fun b h _ => .inl (.inl h))
    have BK20 := Lib.hid ((SV.kept byteEl_k BK18.out k1820 fun _ _ _ h => h).wide (D' := fun b => (R b ∨ (Value.slice p1 n1 d1).ownBlock = some b ∨ (Value.slice p2 n2 d2).ownBlock = some b ∨ (Value.slice p3 n3 d3).ownBlock = some b ∨ (Value.slice p4 n4 d4).ownBlock = some b ∨ b = w10.heap.size) ∨ w18.heap.size ≤ b ∧ b < w19.heap.size) byteEl_k fun b h _ => .inl (.inl (H.out.hD b h).1))
    have BN20 := Lib.hid (((BN19.out.bd byteEl_k).kept byteEl_k (k1.trans k2 fun _ h => h.elim) fun _ _ _ h => h).wide (D' := fun b => (R b ∨ (Value.slice p1 n1 d1).ownBlock = some b ∨ (Value.slice p2 n2 d2).ownBlock = some b ∨ (Value.slice p3 n3 d3).ownBlock = some b ∨ (Value.slice p4 n4 d4).ownBlock = some b ∨ b = w10.heap.size) ∨ w18.heap.size ≤ b ∧ b < w19.heap.size) byteEl_k fun b h _ => .inr h)
    have GL20 := Lib.hid (k1820.cell (p := ⟨bn2, on2 + i * 6 + 4, none⟩) (fun h => h) GL18.out)
    have GR20 := Lib.hid (k1820.cell (p := ⟨bn2, on2 + i * 6 + 5, none⟩) (fun h => h) GR18.out)
    have K20 := Lib.hid (K18.out.trans k1820 fun _ h => h.elim)
    have n1516 : ∀ b, w19.heap.size ≤ b → ¬ TalkS c (.slice a14 n14 c14) vg (.slice a17 n17 c17) b := fun b h => T17.out.newS b (by omega)
    have HS2 := Lib.hid s2
    have HZ19 := Lib.hid z19
    have g15 := G15.out
    have t20 := T20.out.h2
    rw [HVN.out] at t20
    have x7 : w20.cell? ⟨c.q7, 0, none⟩ = some (.func (.func 117) #[] #[bp c.q2, bp c.q3, bp c.q4, bp c.q5, bp c.q6, bp c.q7]) := by simp [World.cell?, T20.out.h7]
    have x2 : w20.cell? ⟨c.q2, 0, none⟩ = some (.slice (some ⟨bn2, on2, none⟩) c.L.length cv2) := by simp [World.cell?, t20]
    have x0 : w20.cell? ⟨w19.heap.size, 0, none⟩ = some (.slice a1 low.length c1) := by simp [World.cell?, g15]
    have x1 : w20.cell? ⟨w19.heap.size, 1, none⟩ = some (.slice ak k.length ck) := by simp [World.cell?, g15]
    have x3 : w20.cell? ⟨w19.heap.size, 2, none⟩ = some (.bool true) := by simp [World.cell?, g15]
    have x4 := GL20.out
    clear g1 k1 s1 g2 k2 s2 k1820 z19 T17 BL18 BH18 BK18 BN19 GL18 GR18 K18 K19 g15 t20
    refine wp_region_chain 8 [7] (fun w' => w'.cell? ⟨c.q7, 0, none⟩ = some (.func (.func 117) #[] #[bp c.q2, bp c.q3, bp c.q4, bp c.q5, bp c.q6, bp c.q7]) ∧ w'.cell? ⟨c.q2, 0, none⟩ = some (.slice (some ⟨bn2, on2, none⟩) c.L.length cv2) ∧ w'.cell? ⟨w19.heap.size, 0, none⟩ = some (.slice a1 low.length c1) ∧ w'.cell? ⟨w19.heap.size, 1, none⟩ = some (.slice ak k.length ck) ∧ w'.cell? ⟨w19.heap.size, 2, none⟩ = some (.bool true) ∧ w'.cell? ⟨bn2, on2 + i * 6 + 4, none⟩ = some (.int .i64 (ndOf seed l k v r i).left)) (by kernel_rfl) (by kernel_rfl) ?_ ?_
    · exact ⟨x7, x2, x0, x1, x3, x4⟩
    simp only [List.take_succ_cons, List.take_zero, List.drop_succ_cons, List.drop_zero]
    iterate 7 (refine SeqY.val (v := ?_) (by rfl) (by rfl) (fun wx hSw => ?_) ?_; rotate_left; (focus ((try dsimp only at hSw); go_simp; (try with_reducible rfl))); (try simp only [Act.put, List.setIfInBounds_toArray, List.set_cons_zero, List.set_cons_succ]))
    refine SeqY.act (by rfl) rfl (by rfl) (by rfl) (fun K hK => ?_)
    go_simp
    have b1 := BO1.out
    have b2 := BG1.out
    have b3 := BC1.out
    have bb := Lib.hid (talk_bnd1 b1 b2 b3)
    refine (IL.out _ _ vg _ w20.drew (ol ++ [⟨low, high, bd, (Tr.nd l k v r).size, (Tr.nd l k v r).dg seed, false, [(k, v)]⟩]) gl (cl ++ [(k, v)]) _ _ low k true _ (T20.out.kept0 ((Kept.refl Noneof w20).drew)) (BL20.out.at rfl) (BK20.out.at rfl) NL.out (by rw [len_one]; exact bb.out.1) bb.out.2.1 (by rw [len_one]; exact bb.out.2.2)).mono ?_
    rintro e w21 ⟨⟨v21, rfl⟩, R21, vo21, vg21, vc21, T21, hR21, k21, hb21⟩
    have k21 : Kept (TalkS c (.slice a14 n14 c14) vg (.slice a17 n17 c17)) w20 w21 := ⟨k21.os, k21.tape, k21.output, k21.size, k21.block⟩
    have hb21 : ∀ b, (vo21.ownBlock = some b → (Value.slice a14 n14 c14).ownBlock = some b ∨ w20.heap.size ≤ b) ∧ (vg21.ownBlock = some b → vg.ownBlock = some b ∨ w20.heap.size ≤ b) ∧ (vc21.ownBlock = some b → (Value.slice a17 n17 c17).ownBlock = some b ∨ w20.heap.size ≤ b) := hb21
    have t20 := T20.out
    have n15 : ¬ TalkS c (.slice a14 n14 c14) vg (.slice a17 n17 c17) w19.heap.size := n1516 _ (Nat.le_refl _)
    have n16 : ¬ TalkS c (.slice a14 n14 c14) vg (.slice a17 n17 c17) (w19.heap.size + 1) := n1516 _ (Nat.le_succ _)
    have nbn2 : ¬ TalkS c (.slice a14 n14 c14) vg (.slice a17 n17 c17) bn2 := t20.notS bn2 (.inl (.inl (H.out.hD _ DB.out).1))
    have t21 := T21.h2
    rw [HVN.out] at t21
    have x7' : w21.cell? ⟨c.q7, 0, none⟩ = some (.func (.func 117) #[] #[bp c.q2, bp c.q3, bp c.q4, bp c.q5, bp c.q6, bp c.q7]) := by simp [World.cell?, T21.h7]
    have x2' : w21.cell? ⟨c.q2, 0, none⟩ = some (.slice (some ⟨bn2, on2, none⟩) c.L.length cv2) := by simp [World.cell?, t21]
    have g16 := k21.obj n16 G16.out
    have x0' : w21.cell? ⟨w19.heap.size + 1, 0, none⟩ = some (.slice a19 n19 c19) := by simp [World.cell?, g16]
    have x1' : w21.cell? ⟨w19.heap.size + 1, 1, none⟩ = some (.slice a2 high.length c2) := by simp [World.cell?, g16]
    have x3' : w21.cell? ⟨w19.heap.size + 1, 2, none⟩ = some (.bool bd) := by simp [World.cell?, g16]
    have x4' := k21.cell (p := ⟨bn2, on2 + i * 6 + 5, none⟩) nbn2 GR20.out
    refine hK.out _ _ ⟨x7', x2', k21.cell (p := ⟨w19.heap.size, 0, none⟩) n15 x0, k21.cell (p := ⟨w19.heap.size, 1, none⟩) n15 x1, k21.cell (p := ⟨w19.heap.size, 2, none⟩) n15 x3, k21.cell (p := ⟨bn2, on2 + i * 6 + 4, none⟩) nbn2 x4⟩ ?_
    have BN21 := Lib.hid ((BN20.out.kept byteEl_k k21 fun b h _ => t20.notS b h).wide byteEl_k fun b h _ => hR21 b h)
    have BH21 := Lib.hid ((BH20.out.kept byteEl_k k21 fun b h _ => t20.notS b h).wide byteEl_k fun b h _ => hR21 b h)
    have NN16 := Lib.hid (show ¬ TalkS c vo21 vg21 vc21 (w19.heap.size + 1) from fun e => (TalkS.tr (n := w20.heap.size) hb21 _ e).elim n16 fun h => by have := HS2.out; omega)
    have HR21 := Lib.hid (show ∀ b, R b → R21 b from fun b h => hR21 b (.inl (.inl h)))
    have K20b := Lib.hid (K20.out.trans k21 fun b hb => TalkS.tr (vo := vo) (vg := vg) (vc := vc) (fun b => ⟨HO14.out b, .inl, HC17.out b⟩) b hb)
    have hw20 := K20.out.size
    have HB21 := Lib.hid (show ∀ b, (vo21.ownBlock = some b → vo.ownBlock = some b ∨ w.heap.size ≤ b) ∧ (vg21.ownBlock = some b → vg.ownBlock = some b ∨ w.heap.size ≤ b) ∧ (vc21.ownBlock = some b → vc.ownBlock = some b ∨ w.heap.size ≤ b) from fun b => ⟨fun e => ((hb21 b).1 e).elim (HO14.out b) fun h => .inr (by omega), fun e => ((hb21 b).2.1 e).imp id fun h => by omega, fun e => ((hb21 b).2.2 e).elim (HC17.out b) fun h => .inr (by omega)⟩)
    have T21 := Lib.hid T21
    have BB2 := Lib.hid (talk_bnd2 b1 b2 b3 (talk_le seed u l low k true) (gones_le seed u HU.out l low k true) (comes_le seed u l low k true))
    clear K hK k21 hb21 t20 n15 n16 nbn2 t21 x7 x2 x0 x1 x3 x4 g16 hR21 hw20 bb T20 BL20 BH20 BK20 BN20 GL20 GR20 K20 G15 G16 b1 b2 b3
    (try simp only [Act.put, List.setIfInBounds_toArray, List.set_cons_zero, List.set_cons_succ])
    refine SeqY.nil ?_
    go_wp2_with fail
    refine wp_region_chain 8 [7] (fun w' => w'.cell? ⟨c.q7, 0, none⟩ = some (.func (.func 117) #[] #[bp c.q2, bp c.q3, bp c.q4, bp c.q5, bp c.q6, bp c.q7]) ∧ w'.cell? ⟨c.q2, 0, none⟩ = some (.slice (some ⟨bn2, on2, none⟩) c.L.length cv2) ∧ w'.cell? ⟨w19.heap.size + 1, 0, none⟩ = some (.slice a19 n19 c19) ∧ w'.cell? ⟨w19.heap.size + 1, 1, none⟩ = some (.slice a2 high.length c2) ∧ w'.cell? ⟨w19.heap.size + 1, 2, none⟩ = some (.bool bd) ∧ w'.cell? ⟨bn2, on2 + i * 6 + 5, none⟩ = some (.int .i64 (ndOf seed l k v r i).right)) (by kernel_rfl) (by kernel_rfl) ?_ ?_
    · exact ⟨x7', x2', x0', x1', x3', x4'⟩
    simp only [List.take_succ_cons, List.take_zero, List.drop_succ_cons, List.drop_zero]
    iterate 7 (refine SeqY.val (v := ?_) (by rfl) (by rfl) (fun wx hSw => ?_) ?_; rotate_left; (focus ((try dsimp only at hSw); go_simp; (try with_reducible rfl))); (try simp only [Act.put, List.setIfInBounds_toArray, List.set_cons_zero, List.set_cons_succ]))
    refine SeqY.act (by rfl) rfl (by rfl) (by rfl) (fun K hK => ?_)
    go_simp
    refine (IR.out _ _ _ _ w21.drew _ _ _ _ _ (k ++ [0]) high bd _ (T21.out.kept0 ((Kept.refl Noneof w21).drew)) (BN21.out.at rfl) (BH21.out.at rfl) NR.out (by rw [List.length_append, len_one]; exact BB2.out.1) (by rw [List.length_append]; exact BB2.out.2.1) (by rw [List.length_append, len_one]; exact BB2.out.2.2)).mono ?_
    rintro e w22 ⟨⟨v22, rfl⟩, R22, vo22, vg22, vc22, T22, hR22, k22, hb22⟩
    have k22 : Kept (TalkS c vo21 vg21 vc21) w21 w22 := ⟨k22.os, k22.tape, k22.output, k22.size, k22.block⟩
    have hb22 : ∀ b, (vo22.ownBlock = some b → vo21.ownBlock = some b ∨ w21.heap.size ≤ b) ∧ (vg22.ownBlock = some b → vg21.ownBlock = some b ∨ w21.heap.size ≤ b) ∧ (vc22.ownBlock = some b → vc21.ownBlock = some b ∨ w21.heap.size ≤ b) := hb22
    have t22 := T22.h2
    rw [HVN.out] at t22
    have nn : ∀ b, (b = w19.heap.size + 1 ∨ b = bn2) → ¬ TalkS c vo21 vg21 vc21 b := fun b hb => by
      rcases hb with rfl | rfl
      · exact NN16.out
      · exact T21.out.notS _ (HR21.out _ (H.out.hD _ DB.out).1)
    refine hK.out _ _ ⟨by simp [World.cell?, T22.h7], by simp [World.cell?, t22], k22.cell (p := ⟨w19.heap.size + 1, 0, none⟩) (nn _ (.inl rfl)) x0', k22.cell (p := ⟨w19.heap.size + 1, 1, none⟩) (nn _ (.inl rfl)) x1', k22.cell (p := ⟨w19.heap.size + 1, 2, none⟩) (nn _ (.inl rfl)) x3', k22.cell (p := ⟨bn2, on2 + i * 6 + 5, none⟩) (nn _ (.inr rfl)) x4'⟩ ?_
    clear K hK
    (try simp only [Act.put, List.setIfInBounds_toArray, List.set_cons_zero, List.set_cons_succ])
    refine SeqY.nil ?_
    go_wp2
    refine bodyPost_ret (results_none rfl _ _ _) rfl ?_
    have hs := HS.out
    have q1 : ol ++ talk seed u (.nd l k v r) low high bd = ol ++ [⟨low, high, bd, (Tr.nd l k v r).size, (Tr.nd l k v r).dg seed, false, [(k, v)]⟩] ++ talk seed u l low k true ++ talk seed u r (k ++ [0]) high bd := by rw [talk, if_neg (by rw [hs]; simp)]; simp
    have q2 : gl ++ gones seed u (.nd l k v r) low high bd = gl ++ gones seed u l low k true ++ gones seed u r (k ++ [0]) high bd := by rw [gones, if_neg (by rw [hs]; simp)]; simp
    have q3 : cl ++ comes seed u (.nd l k v r) low high bd = cl ++ [(k, v)] ++ comes seed u l low k true ++ comes seed u r (k ++ [0]) high bd := by rw [comes, if_neg (by rw [hs]; simp)]; simp
    rw [q1, q2, q3]
    have hw21 := K20b.out.size
    exact ⟨⟨_, rfl⟩, R22, vo22, vg22, vc22, T22, fun b h => hR22 b (HR21.out b h), K20b.out.trans k22 fun b hb => TalkS.tr HB21.out b hb, fun b => ⟨fun e => ((hb22 b).1 e).elim ((HB21.out b).1) fun h => .inr (by omega), fun e => ((hb22 b).2.1 e).elim ((HB21.out b).2.1) fun h => .inr (by omega), fun e => ((hb22 b).2.2 e).elim ((HB21.out b).2.2) fun h => .inr (by omega)⟩⟩)
    | true =>
      have hs : sameAt seed u (.nd l k v r) low high bd = true := by unfold sameAt; rw [g1, g2]; rfl
      (
    have M7 := (Kept.refl (fun b => b = bm) w6).setCell (p := ⟨bm, 5, none⟩) (.inl rfl) (.bool true)
    have T7 := T6.out.kept M7 fun b e => by subst e; exact lT.out
    have OA7 := OA6.out.kept M7 fun b hb _ => ⟨fun h => h.elim, fun e => by have hb : b = bm := hb; subst hb; exact nA.out e⟩
    have OB7 := OB6.out.kept M7 fun b hb _ => ⟨fun h => h.elim, fun e => by have hb : b = bm := hb; subst hb; exact nB.out e⟩
    have GM7 := setCell_obj GM6.out (.bool true) (j := 5)
    have A7 := (Kept.refl Noneof (w6.setCell ⟨bm, 5, none⟩ (.bool true))).alloc (msgObj (.slice p1 n1 d1) (.slice p2 n2 d2) bd ((Tr.nd l k v r).size : Nat) ((Tr.nd l k v r).dg seed) true (.slice none 0 0))
    have G8 := heap_alloc_new (w6.setCell ⟨bm, 5, none⟩ (.bool true)) (msgObj (.slice p1 n1 d1) (.slice p2 n2 d2) bd ((Tr.nd l k v r).size : Nat) ((Tr.nd l k v r).dg seed) true (.slice none 0 0))
    rw [show (w6.setCell ⟨bm, 5, none⟩ (.bool true)).heap.size = w6.heap.size by simp] at G8
    have G8 := Lib.hid G8
    have OA8 := Lib.hid (OA7.kept A7 fun _ h => h.elim)
    have OB8 := Lib.hid (OB7.kept A7 fun _ h => h.elim)
    have GM8 := Lib.hid (A7.obj (fun h => h) GM7)
    have K8 := Lib.hid ((K6.out.trans M7 fun b e => .inr (by have := HBM.out; have := S0.out; omega)).trans A7 fun _ h => h.elim)
    have T8 := Lib.hid ((T7.kept0 A7).wide (R' := fun b => R b ∨ (Value.slice p1 n1 d1).ownBlock = some b ∨ (Value.slice p2 n2 d2).ownBlock = some b) (fun b h => .inl h) (by
      have t := H.out
      have e3 := t.hB
      have e2 := S0.out
      have la := OA8.out.lt
      have lb := OB8.out.lt
      have far : ∀ b, w1.heap.size ≤ b → b < ((w6.setCell ⟨bm, 5, none⟩ (.bool true)).alloc (msgObj (.slice p1 n1 d1) (.slice p2 n2 d2) bd ((Tr.nd l k v r).size : Nat) ((Tr.nd l k v r).dg seed) true (.slice none 0 0))).heap.size → b < ((w6.setCell ⟨bm, 5, none⟩ (.bool true)).alloc (msgObj (.slice p1 n1 d1) (.slice p2 n2 d2) bd ((Tr.nd l k v r).size : Nat) ((Tr.nd l k v r).dg seed) true (.slice none 0 0))).heap.size ∧ c.B ≤ b ∧ vo.ownBlock ≠ some b ∧ vg.ownBlock ≠ some b ∧ vc.ownBlock ≠ some b := fun b h1 h2 => ⟨h2, by omega, fun e => by have := (t.ho.lt b e).2; omega, fun e => by have := (t.hg.lt b e).2; omega, fun e => by have := (t.hc.lt b e).2; omega⟩
      rintro b (h | h | h)
      · exact .inl h
      · exact .inr (far b (la b h).1 (la b h).2)
      · exact .inr (far b (lb b h).1 (lb b h).2)))
    have hR8 := Lib.hid T8.out.hR
    have hB8 := T8.out.hB
    have bo := BO.out
    have BLA := Lib.hid (OA8.out.rd (D' := fun b => R b ∨ (Value.slice p1 n1 d1).ownBlock = some b ∨ (Value.slice p2 n2 d2).ownBlock = some b) (fun _ h => h.elim) fun b h => .inr (.inl h))
    have BLB := Lib.hid (OB8.out.rd (D' := fun b => R b ∨ (Value.slice p1 n1 d1).ownBlock = some b ∨ (Value.slice p2 n2 d2).ownBlock = some b) (fun _ h => h.elim) fun b h => .inr (.inr h))
    have HB8 := Lib.hid hB8
    have hby : (ol.length + 1) * 104 ≤ 140737488355328 := by omega
    clear M7 T7 OA7 OB7 GM7 A7 hB8 bo
    go_wp2_with (at_builtin; refine wl_app_one (E := msgEl) rfl (.tmp 68) (.tmp 70) _ rfl tMsgs (D' := fun b => R b ∨ (Value.slice p1 n1 d1).ownBlock = some b ∨ (Value.slice p2 n2 d2).ownBlock = some b) vo ol rfl T8.out.ho w6.heap.size _ ⟨low, high, bd, (Tr.nd l k v r).size, ((Tr.nd l k v r).dg seed), true, []⟩ rfl ⟨_, _, G8.out⟩ ⟨_, _, _, rfl, BLA.out, BLB.out, SV.nilv _ _ _⟩ (fun b h _ => ⟨h, (hR8.out b h).2.2.1⟩) hby (by decide) HB8.out ?_)
    intro v9 w9 o9 k9 hb9
    have hb9 : ∀ b, v9.ownBlock = some b → vo.ownBlock = some b ∨ ((w6.setCell ⟨bm, 5, none⟩ (.bool true)).alloc (msgObj (.slice p1 n1 d1) (.slice p2 n2 d2) bd ((Tr.nd l k v r).size : Nat) ((Tr.nd l k v r).dg seed) true (.slice none 0 0))).heap.size ≤ b := fun b e => by have := hb9 b e; simpa using this
    have T9 := Lib.hid (T8.out.say k9 o9 hb9)
    have LV := Lib.hid o9.lt
    obtain ⟨a9, n9, c9, rfl⟩ := o9.slice'
    have no9 : ∀ b, b < c.B → vo.ownBlock ≠ some b := fun b hb e => by have := (T8.out.ho.lt b e).1; omega
    have q9 : w9.heap[c.q4]? = some (.cells #[vo] 85) := k9.obj (no9 _ T8.out.lt.2.2.1) T8.out.h4
    have z9 : w9.cell? ⟨c.q4, 0, none⟩ = some vo := by simp [World.cell?, q9]
    have f9 : w9.frozen? ⟨c.q4, 0, none⟩ = false := by simp [World.frozen?, q9]
    have gm9 := k9.obj (p := bm) lT.out.2.2.1 GM8.out
    have m9 : w9.cell? ⟨bm, 5, none⟩ = some (.bool true) := by simp [World.cell?, gm9]
    have K9 := Lib.hid ((K8.out.mono (T := TalkS c vo vg vc) fun _ h => h.elim).trans k9 fun b h => .inl (.inr (.inr (.inr (.inl h)))))
    have K9' := Lib.hid (K9.out.setCell (p := ⟨c.q4, 0, none⟩) (.inl (.inl rfl)) (.slice a9 n9 c9))
    have HB9 := Lib.hid hb9
    have Y9 := Lib.hid (k9.obj (p := w.heap.size) (fun e => by have := (H.out.ho.lt _ e).2; omega) (((Kept.refl Noneof (w6.setCell ⟨bm, 5, none⟩ (.bool true))).alloc (msgObj (.slice p1 n1 d1) (.slice p2 n2 d2) bd ((Tr.nd l k v r).size : Nat) ((Tr.nd l k v r).dg seed) true (.slice none 0 0))).obj (fun h => h) (((Kept.refl (fun b => b = bm) w6).setCell (p := ⟨bm, 5, none⟩) (.inl rfl) (.bool true)).obj (p := w.heap.size) (fun e => hbm1 e.symm) Y6.out)))
    clear o9 k9 hb9 q9 gm9 no9)
      go_wp2
      refine bodyPost_ret (results_none rfl _ _ _) rfl ?_
      have q1 : talk seed u (.nd l k v r) low high bd = [⟨low, high, bd, (Tr.nd l k v r).size, (Tr.nd l k v r).dg seed, true, []⟩] := by rw [talk, if_pos hs]
      have q2 : gones seed u (.nd l k v r) low high bd = [] := by rw [gones, if_pos hs]
      have q3 : comes seed u (.nd l k v r) low high bd = [] := by rw [comes, if_pos hs]
      rw [q1, q2, q3, List.append_nil, List.append_nil]
      have TF := T9.out
      exact ⟨⟨_, rfl⟩, _, _, vg, vc, TF, fun b h => .inl h, K9'.out, fun b => ⟨fun e => (HB9.out b e).imp id fun h => by have := K8.out.size; omega, fun h => .inl h, fun h => .inl h⟩⟩
end Go.Proofs.Ytaopjdjbpamhhaa
/- Proved: contract of the talk of a mirror (Mirror's closure) at every span. Conditions: what TalkIn says. -/
namespace Go.Proofs.Ytaopjdjbpamhhaa
open Go Go.RowKit
set_option linter.unusedVariables false
set_option linter.unusedSimpArgs false

theorem swMirror_1_calls {seed : Int} {u : Tr} {c : TK} (hg : Srt u.pairs) (hu : u.size ≤ 1000000) (hcL : c.L.length ≤ 1000000) : ∀ (t : Tr), t.ok → ∀ (R : Nat → Prop) (vo vg vc : Value) (w : World) (ol : List Msg) (gl : List Bts) (cl : List (Bts × Bts)) (lo hi : Value) (low high : Bts) (bd : Bool) (at' : Int), TalkIn seed u c R vo vg vc w ol gl cl → BV R w lo low → BV R w hi high → NodesAt seed c.L t at' → ol.length + 2 * t.size + 1 ≤ 1000000 → gl.length + (t.size + 1) * 1000000 ≤ 1000000000000 → cl.length + t.size ≤ 1000000 →
      Calls Try.prog 117 #[.agg #[lo, hi, .bool bd], .int .i64 at', bp c.q2, bp c.q3, bp c.q4, bp c.q5, bp c.q6, bp c.q7] w (TalkPost seed u c R vo vg vc w (ol ++ talk seed u t low high bd) (gl ++ gones seed u t low high bd) (cl ++ comes seed u t low high bd))
  | .nil, _, R, vo, vg, vc, w, ol, gl, cl, lo, hi, low, high, bd, at', h, h1, h2, hn, b1, b2, b3 => by
    have hn : at' = -1 := hn
    subst hn
    exact swMirror_1_nil hg hu h h1 h2 (Nat.le_trans (Nat.le_trans (Nat.le_add_right _ _) (Nat.le_add_right _ _)) b1) (Nat.le_trans (Nat.le_add_right _ _) b2)
  | .nd l k v r, ok, R, vo, vg, vc, w, ol, gl, cl, lo, hi, low, high, bd, at', h, h1, h2, hn, b1, b2, b3 =>
    swMirror_1_nd hg hu ok.2.1 hcL (swMirror_1_calls hg hu hcL l ok.1) (swMirror_1_calls hg hu hcL r ok.2.2) h h1 h2 hn b1 b2 b3
end Go.Proofs.Ytaopjdjbpamhhaa
/- Proved: contract of swap.Mirror on two maps of one seed. Conditions: maps in memory, at different places, whose blocks are different. -/
namespace Go.Proofs.Ytaopjdjbpamhhaa
open Go Go.RowKit
set_option linter.unusedVariables false
set_option linter.unusedSimpArgs false

/-- A map without some keys; a map with some pairs. -/
def dropAll (seed : Int) (u : Tr) (ks : List Bts) : Tr := ks.foldl (fun t k => if (t.get k).isSome then t.drop seed k else t) u
def putAll (seed : Int) (u : Tr) (ps : List (Bts × Bts)) : Tr := ps.foldl (fun t p => t.put seed p.1 p.2) u

theorem alloc5 (w : World) (o1 o2 o3 o4 o5 : Obj) : (((((w.alloc o1).alloc o2).alloc o3).alloc o4).alloc o5).heap[w.heap.size]? = some o1 ∧ (((((w.alloc o1).alloc o2).alloc o3).alloc o4).alloc o5).heap[w.heap.size + 1]? = some o2 ∧ (((((w.alloc o1).alloc o2).alloc o3).alloc o4).alloc o5).heap[w.heap.size + 1 + 1]? = some o3 ∧ (((((w.alloc o1).alloc o2).alloc o3).alloc o4).alloc o5).heap[w.heap.size + 1 + 1 + 1]? = some o4 ∧ (((((w.alloc o1).alloc o2).alloc o3).alloc o4).alloc o5).heap[w.heap.size + 1 + 1 + 1 + 1]? = some o5 ∧ (((((w.alloc o1).alloc o2).alloc o3).alloc o4).alloc o5).heap.size = w.heap.size + 5 ∧ Kept Noneof w (((((w.alloc o1).alloc o2).alloc o3).alloc o4).alloc o5) := by
  have g1 := heap_alloc_new w o1
  have g2 := heap_alloc_new (w.alloc o1) o2
  have g3 := heap_alloc_new ((w.alloc o1).alloc o2) o3
  have g4 := heap_alloc_new (((w.alloc o1).alloc o2).alloc o3) o4
  have g5 := heap_alloc_new ((((w.alloc o1).alloc o2).alloc o3).alloc o4) o5
  simp only [World.size_alloc] at g2 g3 g4 g5
  have k : ∀ (A : World) (o : Obj), Kept Noneof A (A.alloc o) := fun A o => (Kept.refl _ A).alloc o
  exact ⟨(k _ _).obj (fun h => h) ((k _ _).obj (fun h => h) ((k _ _).obj (fun h => h) ((k _ _).obj (fun h => h) g1))), (k _ _).obj (fun h => h) ((k _ _).obj (fun h => h) ((k _ _).obj (fun h => h) g2)), (k _ _).obj (fun h => h) ((k _ _).obj (fun h => h) g3), (k _ _).obj (fun h => h) g4, g5, by simp only [World.size_alloc], (((((Kept.refl _ w).alloc _).alloc _).alloc _).alloc _).alloc _⟩
theorem mir_bnd {n : Nat} (h : n ≤ 100000) : ([] : List Bts).length + (n + 1) * 1000000 ≤ 1000000000000 := by simp only [List.length_nil]; omega
theorem dropAll_succ (seed : Int) (u : Tr) (G : List Bts) (n : Nat) (h : n < G.length) : dropAll seed u (G.take (n + 1)) = if ((dropAll seed u (G.take n)).get G[n]).isSome then (dropAll seed u (G.take n)).drop seed G[n] else dropAll seed u (G.take n) := by
  unfold dropAll
  rw [List.take_add_one, List.getElem?_eq_getElem h, List.foldl_append]
  rfl
theorem putAll_succ (seed : Int) (u : Tr) (C : List (Bts × Bts)) (n : Nat) (h : n < C.length) : putAll seed u (C.take (n + 1)) = (putAll seed u (C.take n)).put seed C[n].1 C[n].2 := by
  unfold putAll
  rw [List.take_add_one, List.getElem?_eq_getElem h, List.foldl_append]
  rfl
theorem dropAll_size (seed : Int) : ∀ (G : List Bts) (u : Tr), (dropAll seed u G).size ≤ u.size
  | [], u => Nat.le_refl _
  | k :: G, u => by
    show (dropAll seed (if (u.get k).isSome then u.drop seed k else u) G).size ≤ _
    refine Nat.le_trans (dropAll_size seed G _) ?_
    split
    · exact Tr.drop_size seed k u
    · exact Nat.le_refl _
theorem putAll_size (seed : Int) : ∀ (C : List (Bts × Bts)) (u : Tr), (putAll seed u C).size ≤ u.size + C.length
  | [], u => Nat.le_refl _
  | p :: C, u => by
    show (putAll seed (u.put seed p.1 p.2) C).size ≤ _
    have h1 := putAll_size seed C (u.put seed p.1 p.2)
    have h2 := Tr.put_size seed p.1 p.2 u
    simp only [List.length_cons]
    omega
theorem comes_ok (seed : Int) (u : Tr) : ∀ (t : Tr) (low high : Bts) (bd : Bool), t.ok → ∀ p ∈ comes seed u t low high bd, okP p
  | .nil, _, _, _, _ => by simp [comes]
  | .nd l k v r, low, high, bd, ok => by
    have h1 := comes_ok seed u l low k true ok.1
    have h2 := comes_ok seed u r (k ++ [0]) high bd ok.2.2
    rw [comes]
    split
    · simp
    · intro p hp
      simp only [List.mem_cons, List.mem_append] at hp
      rcases hp with rfl | hp | hp
      · exact ok.2.1
      · exact h1 p hp
      · exact h2 p hp
theorem Rd.bytes {D : Nat → Prop} {w : World} {a : Option Addr} {l : List Bts} (h : Rd bytesEl D w a l) {i : Nat} (hi : i < l.length) : ∃ b o v, a = some ⟨b, o, none⟩ ∧ D b ∧ w.cell? ⟨b, o + i, none⟩ = some v ∧ BV D w v l[i] := by
  obtain ⟨b, o, cs, rfl, hD, hc, v, rfl, h1⟩ := h i hi
  have k : bytesEl.k = 1 := rfl
  rw [k] at hc
  exact ⟨b, o, v, rfl, hD, by simpa using hc 0 (by simp), h1⟩
theorem okP_allowed {p : Bts × Bts} (h : okP p) : allowedK p.1 p.2 = true := by
  obtain ⟨h1, h2, h3⟩ := h
  simp [allowedK, h1, h2, h3]
theorem map_ne {s1 s2 : Int} {w : World} {m1 m2 : Nat} {t1 t2 : Tr} {F1 F2 : Nat → Prop} (h1 : MapAt s1 w m1 t1 F1) (h2 : MapAt s2 w m2 t2 F2) (hne : m1 ≠ m2) : (binOp .eql 83 (bp m1) (bp m2)).run Try.prog w = .ok (.bool false) w := by
  obtain ⟨p1, _, _, k1⟩ := h1
  obtain ⟨p2, _, _, k2⟩ := h2
  have hi : (Try.prog.info? 123).map (·.size) = some 3 := by kernel_rfl
  cases hj : Try.prog.info? 123 with
  | none => rw [hj] at hi; cases hi
  | some j =>
    rw [hj] at hi
    have hs : j.size = 3 := by simpa using hi
    exact run_eql_ptr_other w (te := 123) (by kernel_rfl) hj (by omega) (fun e => hne (congrArg Addr.block e)) k1.ho k2.ho

set_option maxRecDepth 100000 in
set_option maxHeartbeats 8000000 in
theorem swMirror_calls {seed : Int} {w : World} {m1 m2 : Nat} {t u : Tr} {F1 F2 : Nat → Prop} (hf : MapAt seed w m1 t F1) (ht : MapAt seed w m2 u F2) (hne : m1 ≠ m2) (hg : Srt u.pairs) (hok : t.ok) (h1 : t.size ≤ 100000) (h2 : u.size ≤ 100000) (h12 : u.size + t.size < 100000) (hd : ∀ b, F2 b → b < w.heap.size) :
    Calls Try.prog 56 #[bp m1, bp m2] w fun e w' => ∃ v F2', e = .returned (.tuple #[v, .int .i64 0]) ∧ SV msgEl (fun b => ¬ F2' b) w' v (talk seed u t [] [] false) ∧ MapAt seed w' m2 (putAll seed (dropAll seed u (gones seed u t [] [] false)) (comes seed u t [] [] false)) F2' ∧ (∀ b, F2' b → F2 b ∨ w.heap.size ≤ b) ∧ Kept F2 w w' := by
  have HF := Lib.hid hf
  have HT := Lib.hid ht
  have HG := Lib.hid hg
  have OK := Lib.hid hok
  have S1 := Lib.hid h1
  have S2 := Lib.hid h2
  have HD := Lib.hid hd
  have NE := Lib.hid hne
  have S12 := Lib.hid h12
  clear hf ht hg hok h1 h2 h12 hd
  go_enter Try.func56, Try.ntmps56
  have heq : ∀ o, (binOp .eql 83 (bp m1) (bp m2)).run Try.prog (w.alloc o) = .ok (.bool false) (w.alloc o) := fun o => map_ne (HF.out.kept ((Kept.refl Noneof w).alloc o) fun _ _ h => h) (HT.out.kept ((Kept.refl Noneof w).alloc o) fun _ _ h => h) NE.out
  go_wp2_with fail
  have G3 := heap_alloc_new w (.cells #[bp m2] 83)
  have K1 := (Kept.refl Noneof w).alloc (.cells #[bp m2] 83)
  have s3 : (w.alloc (.cells #[bp m2] 83)).heap.size = w.heap.size + 1 := by simp
  generalize w.alloc (.cells #[bp m2] 83) = w1 at *
  refine (orKin_calls (HF.out.kept K1 fun _ _ h => h) (HT.out.kept K1 fun _ _ h => h)).mono ?_
  rintro e w2 ⟨rfl, dw⟩
  have K2 := K1.drewn dw
  have G3 := (((Kept.refl Noneof w1).drewn dw)).obj (fun h => h) G3
  have e2 : w2.heap.size = w.heap.size + 1 := by rw [dw.heap, s3]
  have hkin : (seed == seed) = true := by simp
  clear dw heq K1 s3
  go_wp2_with fail
  refine (orNodes_calls (HF.out.kept K2 fun _ _ h => h) (by have := S1.out; omega)).mono ?_
  rintro e w3 ⟨vn, rfl, on, k3⟩
  have ON := Lib.hid on
  obtain ⟨an, cn, hvn⟩ := on.slice
  rw [Tr.nodes_len] at hvn
  subst hvn
  have K3 := Lib.hid (K2.trans k3 fun _ h => h.elim)
  have G3 := Lib.hid (k3.obj (fun h => h) G3)
  have E3 := Lib.hid (show w.heap.size + 1 ≤ w3.heap.size by have := k3.size; omega)
  have K2s := Lib.hid K2.size
  clear on K2 k3 e2 hkin
  have hst : ∀ (W : World) (a : Addr) (g : Fn) (x y : Array Value), (store a (.func g x y)).run Try.prog W = stored Try.prog W a (.func g x y) .plain := fun W a g x y => run_store _ _ _ _ _ rfl
  by_cases hz : t.size = 0
  · have hn : t = .nil := by cases t with
      | nil => rfl
      | nd l k v r => simp [Tr.size] at hz
    have ON : Hid (Own 172 nodeEl (fun b => w2.heap.size ≤ b) w2.heap.size w3 (.slice an 0 cn) (t.nodes seed 0)) := by rw [← hz]; exact ON
    rw [hz]
    go_wp2_with fail
    (
    obtain ⟨g2, g4, g5, g6, g7, s5, k35⟩ := alloc5 w3 (.cells #[.slice an 0 cn] 166) (.cells #[.slice none 0 0] 85) (.cells #[.slice none 0 0] 51) (.cells #[.slice none 0 0] 65) (.cells #[.func (.func 117) #[] #[bp w3.heap.size, bp w.heap.size, bp (w3.heap.size + 1), bp (w3.heap.size + 1 + 1), bp (w3.heap.size + 1 + 1 + 1), bp (w3.heap.size + 1 + 1 + 1 + 1)]] 168)
    generalize ((((w3.alloc (.cells #[.slice an 0 cn] 166)).alloc (.cells #[.slice none 0 0] 85)).alloc (.cells #[.slice none 0 0] 51)).alloc (.cells #[.slice none 0 0] 65)).alloc (.cells #[.func (.func 117) #[] #[bp w3.heap.size, bp w.heap.size, bp (w3.heap.size + 1), bp (w3.heap.size + 1 + 1), bp (w3.heap.size + 1 + 1 + 1), bp (w3.heap.size + 1 + 1 + 1 + 1)]] 168) = w4 at *
    have e3 := E3.out
    have SN : SV nodeEl (fun b => w2.heap.size ≤ b ∧ b < w3.heap.size) w4 (.slice an 0 cn) (t.nodes seed 0) := ((ON.out.sv.bd nodeEl_k).wide (D' := fun b => w2.heap.size ≤ b ∧ b < w3.heap.size) nodeEl_k fun b h _ => by omega).kept nodeEl_k k35 fun _ _ _ h => h
    have K4 := Lib.hid (K3.out.trans k35 fun _ h => h.elim)
    have TI : TalkIn seed u ⟨w3.heap.size, w.heap.size, w3.heap.size + 1, w3.heap.size + 1 + 1, w3.heap.size + 1 + 1 + 1, w3.heap.size + 1 + 1 + 1 + 1, .slice an 0 cn, m2, F2, fun b => w2.heap.size ≤ b ∧ b < w3.heap.size, w3.heap.size + 5, t.nodes seed 0⟩ (fun b => w2.heap.size ≤ b ∧ b < w3.heap.size) (.slice none 0 0) (.slice none 0 0) (.slice none 0 0) w4 [] [] [] :=
      ⟨g2, k35.obj (fun h => h) G3.out, g4, g5, g6, g7, SN, HT.out.kept K4.out fun _ _ h => h, Own.nil _ _ _ _ _, Own.nil _ _ _ _ _, Own.nil _ _ _ _ _, ⟨by simp, by simp; omega, by simp, by simp, by simp, by simp⟩, ⟨by simp, by simp; omega, by simp, by simp, by simp, by simp; omega, by simp; omega, by simp, by simp, by simp; omega, by simp; omega, by simp⟩,
        fun b h => ⟨h, by have : b < w3.heap.size := h.2; simp only; omega⟩, fun b h => by have := HD.out b h; simp only; omega, fun b h => ⟨by omega, by simp only; omega, by simp [Value.ownBlock], by simp [Value.ownBlock], by simp [Value.ownBlock]⟩, fun b => by simp [Value.ownBlock], by simp only; omega, fun b h e => by have := HD.out b e; have := K2s.out; omega⟩
    clear g2 g4 g5 g6 g7 k35 SN
    refine (swMirror_1_calls (c := ⟨w3.heap.size, w.heap.size, w3.heap.size + 1, w3.heap.size + 1 + 1, w3.heap.size + 1 + 1 + 1, w3.heap.size + 1 + 1 + 1 + 1, .slice an 0 cn, m2, F2, fun b => w2.heap.size ≤ b ∧ b < w3.heap.size, w3.heap.size + 5, t.nodes seed 0⟩) HG.out (by have := S2.out; omega) (by rw [Tr.nodes_len]; have := S1.out; omega) t OK.out _ _ _ _ w4 [] [] [] _ _ [] [] false _ TI (BV.nil _ _) (BV.nil _ _) (by subst hn; rfl) (by have := S1.out; simp only [List.length_nil]; omega) (mir_bnd S1.out) (by have := S1.out; simp only [List.length_nil]; omega)).mono ?_
    rintro e w5 ⟨⟨v5, rfl⟩, R5, vo, vg, vc, T5, hR5, k5, hb5⟩
    (
    rw [List.nil_append, List.nil_append, List.nil_append] at T5
    generalize hG : gones seed u t [] [] false = G at *
    generalize hC : comes seed u t [] [] false = C at *
    generalize hO : talk seed u t [] [] false = O at *
    have hlG : G.length ≤ 1000000000000 := by rw [← hG]; exact Nat.le_trans (gones_le seed u (by have := S2.out; omega) t [] [] false) (by have := mir_bnd S1.out; simpa using this)
    have hlC : C.length ≤ 100000 := by rw [← hC]; exact Nat.le_trans (comes_le seed u t [] [] false) S1.out
    have HT5 := Lib.hid T5
    have K5 := Lib.hid k5
    obtain ⟨ao, co, rfl⟩ := T5.ho.slice
    obtain ⟨ag, cg, rfl⟩ := T5.hg.slice
    obtain ⟨ac, cc, rfl⟩ := T5.hc.slice
    have z5 : w5.cell? ⟨w3.heap.size + 1 + 1, 0, none⟩ = some (.slice ag G.length cg) := by have := T5.h5; simp [World.cell?, this]
    clear T5 k5 hb5 TI
    have hF0 : ∀ b, R5 b ∨ w3.heap.size + 5 ≤ b → ¬ F2 b := fun b h e => h.elim (fun h => HT5.out.hRF b h e) fun h => by have := HD.out b e; have := E3.out; omega
    have HF0 := Lib.hid hF0
    have SG := Lib.hid (show SV bytesEl (fun b => R5 b ∨ w3.heap.size + 5 ≤ b) w5 (.slice ag G.length cg) G from HT5.out.hg.sv)
    have SC := Lib.hid (show SV pairEl (fun b => R5 b ∨ w3.heap.size + 5 ≤ b) w5 (.slice ac C.length cc) C from HT5.out.hc.sv)
    have M5 := Lib.hid (show MapAt seed w5 m2 u F2 from HT5.out.hm)
    have hFw : ¬ F2 w.heap.size := fun e => by have := HD.out _ e; omega
    have z3 : w5.cell? ⟨w.heap.size, 0, none⟩ = some (bp m2) := by have := HT5.out.h3; simp only at this; simp [World.cell?, this]
    have Z3 := Lib.hid z3
    have HFW := Lib.hid hFw
    clear hF0 hFw z3
    go_wp2_with fail
    go_loopw [37] (fun i wr => ∃ n : Nat, n ≤ G.length ∧ i = .int .i64 n ∧ Hid (MapAt seed wr m2 (dropAll seed u (G.take n)) F2) ∧ Hid (Kept F2 w5 wr)) (fun i _ => G.length - (intOf i).toNat)
    case atStart => exact ⟨0, Nat.zero_le _, rfl, M5, Lib.hid (Kept.refl _ _)⟩
    case round =>
      obtain ⟨n, hn, rfl, hm, kw⟩ := hrel
      have z3 := kw.out.cell (p := ⟨w.heap.size, 0, none⟩) HFW.out Z3.out
      by_cases hl : n < G.length
      · obtain ⟨_, _, hsl, _, _, rd⟩ := SG.out
        simp only [Value.slice.injEq] at hsl
        obtain ⟨rfl, -, rfl⟩ := hsl
        have rd := rd.kept bytesEl_k kw.out fun b h _ => HF0.out b h
        obtain ⟨b1, o1, kv, rfl, hDb, g0, hkv⟩ := Rd.bytes rd hl
        have HKV := Lib.hid hkv
        obtain ⟨a7, c7, rfl, _⟩ := id hkv
        clear rd hkv
        go_wp2_with fail
        cases hget : ((dropAll seed u (G.take n)).get G[n]).isSome
        · refine (orMapDrop_none hm.out HKV.out (by simpa using hget)).mono ?_
          rintro e w7 ⟨rfl, rfl⟩
          go_wp2
          go_roundw
          case rel => exact ⟨n + 1, by omega, by go_num, by rw [dropAll_succ seed u G n hl, hget]; exact hm, kw⟩
          case measure => simp [intOf]; omega
        · refine (orMapDrop_ok hm.out HKV.out (fun b h _ => HF0.out b h) hget).mono ?_
          rintro e w7 ⟨rfl, hm7, k7⟩
          go_wp2
          go_roundw
          case rel => exact ⟨n + 1, by omega, by go_num, by rw [dropAll_succ seed u G n hl, hget]; exact Lib.hid hm7, Lib.hid (kw.out.tr k7)⟩
          case measure => simp [intOf]; omega
      · obtain rfl : n = G.length := by omega
        have M6 := Lib.hid (show MapAt seed wr m2 (dropAll seed u G) F2 by have := hm.out; rwa [List.take_length] at this)
        have z6 : wr.cell? ⟨w3.heap.size + 1 + 1 + 1, 0, none⟩ = some (.slice ac C.length cc) := kw.out.cell (p := ⟨w3.heap.size + 1 + 1 + 1, 0, none⟩) (fun e => by have := HD.out (w3.heap.size + 1 + 1 + 1) e; have := E3.out; omega) (by have := HT5.out.h6; simp only at this; simp [World.cell?, this])
        have U1 := Lib.hid (show (dropAll seed u G).size + C.length < 100000 by have := dropAll_size seed G u; have := S12.out; rw [← hC]; have := comes_le seed u t [] [] false; omega)
        have CO := Lib.hid (show ∀ p ∈ C, okP p by rw [← hC]; exact comes_ok seed u t [] [] false OK.out)
        clear hm
        generalize hU : dropAll seed u G = U at *
        go_wp2_with fail
        go_loopw [47] (fun i wq => ∃ (n : Nat) (F' : Nat → Prop), n ≤ C.length ∧ i = .int .i64 n ∧ Hid (MapAt seed wq m2 (putAll seed U (C.take n)) F') ∧ Hid (∀ b, F' b → F2 b ∨ w5.heap.size ≤ b) ∧ Hid (Kept F2 w5 wq)) (fun i _ => C.length - (intOf i).toNat)
        case atStart => exact ⟨0, F2, Nat.zero_le _, rfl, M6, Lib.hid fun b h => .inl h, kw⟩
        case round =>
          obtain ⟨n, F', hn, rfl, hm, hF', kq⟩ := hrel
          have z3' := kq.out.cell (p := ⟨w.heap.size, 0, none⟩) HFW.out Z3.out
          by_cases hl : n < C.length
          · obtain ⟨_, _, hsl, _, _, rd⟩ := SC.out
            simp only [Value.slice.injEq] at hsl
            obtain ⟨rfl, -, rfl⟩ := hsl
            have rd := rd.kept pairEl_k kq.out fun b h _ => HF0.out b h
            obtain ⟨b1, o1, uk, uv, rfl, hDb, g0, g1, hkv, hvv⟩ := Rd.pair rd hl
            have HKV := Lib.hid hkv
            have HVV := Lib.hid hvv
            obtain ⟨a7, c7, rfl, _⟩ := id hkv
            obtain ⟨a8, c8, rfl, _⟩ := id hvv
            have zA : ∀ o, (wr.alloc o).cell? ⟨w.heap.size, 0, none⟩ = some (bp m2) := fun o => ((Kept.refl Noneof _).alloc o).cell (p := ⟨w.heap.size, 0, none⟩) (fun h => h) z3'
            clear rd hkv hvv
            have ka := (Kept.refl Noneof wr).alloc (.cells #[.slice a7 C[n].1.length c7, .slice a8 C[n].2.length c8] 70)
            have hps : (putAll seed U (C.take n)).size < 100000 := by
              have h1 := putAll_size seed (C.take n) U
              have h2 := U1.out
              rw [List.length_take] at h1
              omega
            have HPS := Lib.hid hps
            have KA := Lib.hid ka
            clear hps ka
            go_wp2_with fail
            refine (orMapPut_ok (hm.out.kept KA.out fun _ _ h => h) (HKV.out.kept byteEl_k KA.out fun _ _ _ h => h) (HVV.out.kept byteEl_k KA.out fun _ _ _ h => h) (okP_allowed (CO.out _ (List.getElem_mem hl))) HPS.out).mono ?_
            rintro e w7 ⟨rfl, F7, hm7, k7, hF7⟩
            have hM7 := Lib.hid hm7
            have hFF := Lib.hid (show ∀ b, F7 b → F2 b ∨ w5.heap.size ≤ b from fun b h => (hF7 b h).elim (hF'.out b) fun h => .inr (by have := kq.out.size; have := KA.out.size; omega))
            have hKK := Lib.hid ((kq.out.trans KA.out fun _ h => h.elim).trans k7 hF'.out)
            clear hm7 hF7 k7 zA
            go_wp2
            go_roundw
            case rel => exact ⟨n + 1, F7, by omega, by go_num, by rw [putAll_succ seed U C n hl]; exact hM7, hFF, hKK⟩
            case measure => simp [intOf]; omega
          · obtain rfl : n = C.length := by omega
            have M7 := Lib.hid (show MapAt seed wr m2 (putAll seed U C) F' by have := hm.out; rwa [List.take_length] at this)
            have z4 : wr.cell? ⟨w3.heap.size + 1, 0, none⟩ = some (.slice ao O.length co) := kq.out.cell (p := ⟨w3.heap.size + 1, 0, none⟩) (fun e => by have := HD.out (w3.heap.size + 1) e; have := E3.out; omega) (by have := HT5.out.h4; simp only at this; simp [World.cell?, this])
            have hsv := ((HT5.out.ho.sv.bd msgEl_k).kept msgEl_k kq.out fun b h _ => HF0.out b h.1).wide (D' := fun b => ¬ F' b) msgEl_k fun b h _ e => (hF'.out b e).elim (HF0.out b h.1) fun e => by omega
            have HSV := Lib.hid hsv
            have hw5 := K5.out.size
            have hw4 := K4.out.size
            have e3 := E3.out
            have KF := Lib.hid (((K4.out.trans K5.out fun b e => .inr (by
              rcases e with e | e | e | e | e | e
              · simp only at e; omega
              · simp only at e; omega
              · simp only at e; omega
              · cases e
              · cases e
              · cases e)).mono (T := F2) fun _ h => h.elim).tr kq.out)
            clear hsv
            go_wp2
            go_ret2
            exact ⟨.slice ao O.length co, F', rfl, by rw [hO]; exact HSV.out, by rw [hG, hC, hU]; exact M7.out, fun b h => (hF'.out b h).imp id fun h => by omega, KF.out⟩))
  · have hpos : 0 < t.size := by omega
    have NA : NodesAt seed (t.nodes seed 0) t 0 := by
      cases t with
      | nil => exact absurd rfl hz
      | nd l k v r => exact ⟨[], [], by simp, rfl⟩
    go_wp2_with fail
    (
    obtain ⟨g2, g4, g5, g6, g7, s5, k35⟩ := alloc5 w3 (.cells #[.slice an t.size cn] 166) (.cells #[.slice none 0 0] 85) (.cells #[.slice none 0 0] 51) (.cells #[.slice none 0 0] 65) (.cells #[.func (.func 117) #[] #[bp w3.heap.size, bp w.heap.size, bp (w3.heap.size + 1), bp (w3.heap.size + 1 + 1), bp (w3.heap.size + 1 + 1 + 1), bp (w3.heap.size + 1 + 1 + 1 + 1)]] 168)
    generalize ((((w3.alloc (.cells #[.slice an t.size cn] 166)).alloc (.cells #[.slice none 0 0] 85)).alloc (.cells #[.slice none 0 0] 51)).alloc (.cells #[.slice none 0 0] 65)).alloc (.cells #[.func (.func 117) #[] #[bp w3.heap.size, bp w.heap.size, bp (w3.heap.size + 1), bp (w3.heap.size + 1 + 1), bp (w3.heap.size + 1 + 1 + 1), bp (w3.heap.size + 1 + 1 + 1 + 1)]] 168) = w4 at *
    have e3 := E3.out
    have SN : SV nodeEl (fun b => w2.heap.size ≤ b ∧ b < w3.heap.size) w4 (.slice an t.size cn) (t.nodes seed 0) := ((ON.out.sv.bd nodeEl_k).wide (D' := fun b => w2.heap.size ≤ b ∧ b < w3.heap.size) nodeEl_k fun b h _ => by omega).kept nodeEl_k k35 fun _ _ _ h => h
    have K4 := Lib.hid (K3.out.trans k35 fun _ h => h.elim)
    have TI : TalkIn seed u ⟨w3.heap.size, w.heap.size, w3.heap.size + 1, w3.heap.size + 1 + 1, w3.heap.size + 1 + 1 + 1, w3.heap.size + 1 + 1 + 1 + 1, .slice an t.size cn, m2, F2, fun b => w2.heap.size ≤ b ∧ b < w3.heap.size, w3.heap.size + 5, t.nodes seed 0⟩ (fun b => w2.heap.size ≤ b ∧ b < w3.heap.size) (.slice none 0 0) (.slice none 0 0) (.slice none 0 0) w4 [] [] [] :=
      ⟨g2, k35.obj (fun h => h) G3.out, g4, g5, g6, g7, SN, HT.out.kept K4.out fun _ _ h => h, Own.nil _ _ _ _ _, Own.nil _ _ _ _ _, Own.nil _ _ _ _ _, ⟨by simp, by simp; omega, by simp, by simp, by simp, by simp⟩, ⟨by simp, by simp; omega, by simp, by simp, by simp, by simp; omega, by simp; omega, by simp, by simp, by simp; omega, by simp; omega, by simp⟩,
        fun b h => ⟨h, by have : b < w3.heap.size := h.2; simp only; omega⟩, fun b h => by have := HD.out b h; simp only; omega, fun b h => ⟨by omega, by simp only; omega, by simp [Value.ownBlock], by simp [Value.ownBlock], by simp [Value.ownBlock]⟩, fun b => by simp [Value.ownBlock], by simp only; omega, fun b h e => by have := HD.out b e; have := K2s.out; omega⟩
    clear g2 g4 g5 g6 g7 k35 SN
    refine (swMirror_1_calls (c := ⟨w3.heap.size, w.heap.size, w3.heap.size + 1, w3.heap.size + 1 + 1, w3.heap.size + 1 + 1 + 1, w3.heap.size + 1 + 1 + 1 + 1, .slice an t.size cn, m2, F2, fun b => w2.heap.size ≤ b ∧ b < w3.heap.size, w3.heap.size + 5, t.nodes seed 0⟩) HG.out (by have := S2.out; omega) (by rw [Tr.nodes_len]; have := S1.out; omega) t OK.out _ _ _ _ w4 [] [] [] _ _ [] [] false _ TI (BV.nil _ _) (BV.nil _ _) NA (by have := S1.out; simp only [List.length_nil]; omega) (mir_bnd S1.out) (by have := S1.out; simp only [List.length_nil]; omega)).mono ?_
    rintro e w5 ⟨⟨v5, rfl⟩, R5, vo, vg, vc, T5, hR5, k5, hb5⟩
    (
    rw [List.nil_append, List.nil_append, List.nil_append] at T5
    generalize hG : gones seed u t [] [] false = G at *
    generalize hC : comes seed u t [] [] false = C at *
    generalize hO : talk seed u t [] [] false = O at *
    have hlG : G.length ≤ 1000000000000 := by rw [← hG]; exact Nat.le_trans (gones_le seed u (by have := S2.out; omega) t [] [] false) (by have := mir_bnd S1.out; simpa using this)
    have hlC : C.length ≤ 100000 := by rw [← hC]; exact Nat.le_trans (comes_le seed u t [] [] false) S1.out
    have HT5 := Lib.hid T5
    have K5 := Lib.hid k5
    obtain ⟨ao, co, rfl⟩ := T5.ho.slice
    obtain ⟨ag, cg, rfl⟩ := T5.hg.slice
    obtain ⟨ac, cc, rfl⟩ := T5.hc.slice
    have z5 : w5.cell? ⟨w3.heap.size + 1 + 1, 0, none⟩ = some (.slice ag G.length cg) := by have := T5.h5; simp [World.cell?, this]
    clear T5 k5 hb5 TI
    have hF0 : ∀ b, R5 b ∨ w3.heap.size + 5 ≤ b → ¬ F2 b := fun b h e => h.elim (fun h => HT5.out.hRF b h e) fun h => by have := HD.out b e; have := E3.out; omega
    have HF0 := Lib.hid hF0
    have SG := Lib.hid (show SV bytesEl (fun b => R5 b ∨ w3.heap.size + 5 ≤ b) w5 (.slice ag G.length cg) G from HT5.out.hg.sv)
    have SC := Lib.hid (show SV pairEl (fun b => R5 b ∨ w3.heap.size + 5 ≤ b) w5 (.slice ac C.length cc) C from HT5.out.hc.sv)
    have M5 := Lib.hid (show MapAt seed w5 m2 u F2 from HT5.out.hm)
    have hFw : ¬ F2 w.heap.size := fun e => by have := HD.out _ e; omega
    have z3 : w5.cell? ⟨w.heap.size, 0, none⟩ = some (bp m2) := by have := HT5.out.h3; simp only at this; simp [World.cell?, this]
    have Z3 := Lib.hid z3
    have HFW := Lib.hid hFw
    clear hF0 hFw z3
    go_wp2_with fail
    go_loopw [37] (fun i wr => ∃ n : Nat, n ≤ G.length ∧ i = .int .i64 n ∧ Hid (MapAt seed wr m2 (dropAll seed u (G.take n)) F2) ∧ Hid (Kept F2 w5 wr)) (fun i _ => G.length - (intOf i).toNat)
    case atStart => exact ⟨0, Nat.zero_le _, rfl, M5, Lib.hid (Kept.refl _ _)⟩
    case round =>
      obtain ⟨n, hn, rfl, hm, kw⟩ := hrel
      have z3 := kw.out.cell (p := ⟨w.heap.size, 0, none⟩) HFW.out Z3.out
      by_cases hl : n < G.length
      · obtain ⟨_, _, hsl, _, _, rd⟩ := SG.out
        simp only [Value.slice.injEq] at hsl
        obtain ⟨rfl, -, rfl⟩ := hsl
        have rd := rd.kept bytesEl_k kw.out fun b h _ => HF0.out b h
        obtain ⟨b1, o1, kv, rfl, hDb, g0, hkv⟩ := Rd.bytes rd hl
        have HKV := Lib.hid hkv
        obtain ⟨a7, c7, rfl, _⟩ := id hkv
        clear rd hkv
        go_wp2_with fail
        cases hget : ((dropAll seed u (G.take n)).get G[n]).isSome
        · refine (orMapDrop_none hm.out HKV.out (by simpa using hget)).mono ?_
          rintro e w7 ⟨rfl, rfl⟩
          go_wp2
          go_roundw
          case rel => exact ⟨n + 1, by omega, by go_num, by rw [dropAll_succ seed u G n hl, hget]; exact hm, kw⟩
          case measure => simp [intOf]; omega
        · refine (orMapDrop_ok hm.out HKV.out (fun b h _ => HF0.out b h) hget).mono ?_
          rintro e w7 ⟨rfl, hm7, k7⟩
          go_wp2
          go_roundw
          case rel => exact ⟨n + 1, by omega, by go_num, by rw [dropAll_succ seed u G n hl, hget]; exact Lib.hid hm7, Lib.hid (kw.out.tr k7)⟩
          case measure => simp [intOf]; omega
      · obtain rfl : n = G.length := by omega
        have M6 := Lib.hid (show MapAt seed wr m2 (dropAll seed u G) F2 by have := hm.out; rwa [List.take_length] at this)
        have z6 : wr.cell? ⟨w3.heap.size + 1 + 1 + 1, 0, none⟩ = some (.slice ac C.length cc) := kw.out.cell (p := ⟨w3.heap.size + 1 + 1 + 1, 0, none⟩) (fun e => by have := HD.out (w3.heap.size + 1 + 1 + 1) e; have := E3.out; omega) (by have := HT5.out.h6; simp only at this; simp [World.cell?, this])
        have U1 := Lib.hid (show (dropAll seed u G).size + C.length < 100000 by have := dropAll_size seed G u; have := S12.out; rw [← hC]; have := comes_le seed u t [] [] false; omega)
        have CO := Lib.hid (show ∀ p ∈ C, okP p by rw [← hC]; exact comes_ok seed u t [] [] false OK.out)
        clear hm
        generalize hU : dropAll seed u G = U at *
        go_wp2_with fail
        go_loopw [47] (fun i wq => ∃ (n : Nat) (F' : Nat → Prop), n ≤ C.length ∧ i = .int .i64 n ∧ Hid (MapAt seed wq m2 (putAll seed U (C.take n)) F') ∧ Hid (∀ b, F' b → F2 b ∨ w5.heap.size ≤ b) ∧ Hid (Kept F2 w5 wq)) (fun i _ => C.length - (intOf i).toNat)
        case atStart => exact ⟨0, F2, Nat.zero_le _, rfl, M6, Lib.hid fun b h => .inl h, kw⟩
        case round =>
          obtain ⟨n, F', hn, rfl, hm, hF', kq⟩ := hrel
          have z3' := kq.out.cell (p := ⟨w.heap.size, 0, none⟩) HFW.out Z3.out
          by_cases hl : n < C.length
          · obtain ⟨_, _, hsl, _, _, rd⟩ := SC.out
            simp only [Value.slice.injEq] at hsl
            obtain ⟨rfl, -, rfl⟩ := hsl
            have rd := rd.kept pairEl_k kq.out fun b h _ => HF0.out b h
            obtain ⟨b1, o1, uk, uv, rfl, hDb, g0, g1, hkv, hvv⟩ := Rd.pair rd hl
            have HKV := Lib.hid hkv
            have HVV := Lib.hid hvv
            obtain ⟨a7, c7, rfl, _⟩ := id hkv
            obtain ⟨a8, c8, rfl, _⟩ := id hvv
            have zA : ∀ o, (wr.alloc o).cell? ⟨w.heap.size, 0, none⟩ = some (bp m2) := fun o => ((Kept.refl Noneof _).alloc o).cell (p := ⟨w.heap.size, 0, none⟩) (fun h => h) z3'
            clear rd hkv hvv
            have ka := (Kept.refl Noneof wr).alloc (.cells #[.slice a7 C[n].1.length c7, .slice a8 C[n].2.length c8] 70)
            have hps : (putAll seed U (C.take n)).size < 100000 := by
              have h1 := putAll_size seed (C.take n) U
              have h2 := U1.out
              rw [List.length_take] at h1
              omega
            have HPS := Lib.hid hps
            have KA := Lib.hid ka
            clear hps ka
            go_wp2_with fail
            refine (orMapPut_ok (hm.out.kept KA.out fun _ _ h => h) (HKV.out.kept byteEl_k KA.out fun _ _ _ h => h) (HVV.out.kept byteEl_k KA.out fun _ _ _ h => h) (okP_allowed (CO.out _ (List.getElem_mem hl))) HPS.out).mono ?_
            rintro e w7 ⟨rfl, F7, hm7, k7, hF7⟩
            have hM7 := Lib.hid hm7
            have hFF := Lib.hid (show ∀ b, F7 b → F2 b ∨ w5.heap.size ≤ b from fun b h => (hF7 b h).elim (hF'.out b) fun h => .inr (by have := kq.out.size; have := KA.out.size; omega))
            have hKK := Lib.hid ((kq.out.trans KA.out fun _ h => h.elim).trans k7 hF'.out)
            clear hm7 hF7 k7 zA
            go_wp2
            go_roundw
            case rel => exact ⟨n + 1, F7, by omega, by go_num, by rw [putAll_succ seed U C n hl]; exact hM7, hFF, hKK⟩
            case measure => simp [intOf]; omega
          · obtain rfl : n = C.length := by omega
            have M7 := Lib.hid (show MapAt seed wr m2 (putAll seed U C) F' by have := hm.out; rwa [List.take_length] at this)
            have z4 : wr.cell? ⟨w3.heap.size + 1, 0, none⟩ = some (.slice ao O.length co) := kq.out.cell (p := ⟨w3.heap.size + 1, 0, none⟩) (fun e => by have := HD.out (w3.heap.size + 1) e; have := E3.out; omega) (by have := HT5.out.h4; simp only at this; simp [World.cell?, this])
            have hsv := ((HT5.out.ho.sv.bd msgEl_k).kept msgEl_k kq.out fun b h _ => HF0.out b h.1).wide (D' := fun b => ¬ F' b) msgEl_k fun b h _ e => (hF'.out b e).elim (HF0.out b h.1) fun e => by omega
            have HSV := Lib.hid hsv
            have hw5 := K5.out.size
            have hw4 := K4.out.size
            have e3 := E3.out
            have KF := Lib.hid (((K4.out.trans K5.out fun b e => .inr (by
              rcases e with e | e | e | e | e | e
              · simp only at e; omega
              · simp only at e; omega
              · simp only at e; omega
              · cases e
              · cases e
              · cases e)).mono (T := F2) fun _ h => h.elim).tr kq.out)
            clear hsv
            go_wp2
            go_ret2
            exact ⟨.slice ao O.length co, F', rfl, by rw [hO]; exact HSV.out, by rw [hG, hC, hU]; exact M7.out, fun b h => (hF'.out b h).imp id fun h => by omega, KF.out⟩))
end Go.Proofs.Ytaopjdjbpamhhaa
/- Proved: plain facts: what a map has behind a mirror; the reference's recursion tells the same messages and leaves the same pairs. No program. No condition. -/
namespace Go.Proofs.Ytaopjdjbpamhhaa
open Go Go.RowKit
set_option linter.unusedVariables false
set_option linter.unusedSimpArgs false

theorem getK_ins : ∀ {l : List (Bts × Bts)} {k v x : Bts}, Srt l → getK (ins l k v) x = if k = x then some v else getK l x
  | [], k, v, x, _ => by
    rw [ins, getK, getK]
    by_cases e : k = x
    · subst e; rw [if_neg (by rw [cmpB_self]; omega), if_pos (cmpB_self _), if_pos rfl]
    · rw [if_neg e]
      split
      · rfl
      · rw [if_neg fun h => e (cmpB_zero h)]
  | p :: l, k, v, x, hs => by
    have hs' := List.pairwise_cons.1 hs
    have ih := getK_ins (l := l) (k := k) (v := v) (x := x) hs'.2
    rw [ins]
    by_cases c : cmpB p.1 k < 0
    · rw [if_pos c, getK, getK, ih]
      by_cases d : cmpB p.1 x < 0
      · rw [if_pos d, if_pos d]
      · rw [if_neg d, if_neg d, if_neg (fun e : k = x => d (e ▸ c))]
    · rw [if_neg c]
      by_cases e : cmpB p.1 k = 0
      · rw [if_pos e]
        have e := cmpB_zero e
        subst e
        rw [getK, getK]
        by_cases d : p.1 = x
        · rw [← d, if_neg (by rw [cmpB_self]; omega), if_pos (cmpB_self _), if_pos rfl]
        · rw [if_neg d]
          split
          · rfl
          · rw [if_neg fun h => d (cmpB_zero h), if_neg fun h => d (cmpB_zero h)]
      · rw [if_neg e, getK]
        have c' : cmpB k p.1 < 0 := by have := cmpB_neg p.1 k; omega
        by_cases d : k = x
        · subst d
          rw [if_neg (by rw [cmpB_self]; omega), if_pos (cmpB_self _), if_pos rfl]
        · rw [if_neg d]
          by_cases d1 : cmpB k x < 0
          · rw [if_pos d1]
          · rw [if_neg d1, if_neg fun h => d (cmpB_zero h)]
            have d2 : cmpB x k < 0 := by have := cmpB_neg k x; have : ¬ cmpB k x = 0 := fun h => d (cmpB_zero h); omega
            have d3 := not_lt_of (cmpB_trans d2 c')
            rw [getK, if_neg d3.1, if_neg d3.2]
theorem getK_del : ∀ {l : List (Bts × Bts)} {k x : Bts}, Srt l → getK (del l k) x = if k = x then none else getK l x
  | [], k, x, _ => by simp [del, getK]
  | p :: l, k, x, hs => by
    have hs' := List.pairwise_cons.1 hs
    have ih := getK_del (l := l) (k := k) (x := x) hs'.2
    rw [del]
    by_cases c : cmpB p.1 k < 0
    · rw [if_pos c, getK, getK, ih]
      by_cases d : cmpB p.1 x < 0
      · rw [if_pos d, if_pos d]
      · rw [if_neg d, if_neg d, if_neg (fun e : k = x => d (e ▸ c))]
    · rw [if_neg c]
      by_cases e : cmpB p.1 k = 0
      · rw [if_pos e]
        have e := cmpB_zero e
        subst e
        by_cases d : p.1 = x
        · subst d
          rw [if_pos rfl]
          exact getK_gt0 fun q hq => hs'.1 q hq
        · rw [if_neg d, getK]
          by_cases d1 : cmpB p.1 x < 0
          · rw [if_pos d1]
          · rw [if_neg d1, if_neg fun h => d (cmpB_zero h)]
            have d2 : cmpB x p.1 < 0 := by have := cmpB_neg p.1 x; have : ¬ cmpB p.1 x = 0 := fun h => d (cmpB_zero h); omega
            exact getK_gt0 fun q hq => cmpB_trans d2 (hs'.1 q hq)
      · rw [if_neg e]
        by_cases d : k = x
        · subst d
          rw [if_pos rfl, getK, if_neg c, if_neg e]
        · rw [if_neg d]
theorem getK_iff {l : List (Bts × Bts)} {k v : Bts} (h : Srt l) : getK l k = some v ↔ (k, v) ∈ l := ⟨getK_mem, fun hm => mem_getK h hm⟩
theorem srt_getK {a b : List (Bts × Bts)} (ha : Srt a) (hb : Srt b) (h : ∀ k, getK a k = getK b k) : a = b :=
  srt_ext ha hb fun p => by rw [show p = (p.1, p.2) from rfl, ← getK_iff ha, ← getK_iff hb, h]
theorem inS_key (low : Bts) (fr : Bool) (high : Bts) (tt : Bool) (x v v' : Bts) : inS low fr high tt (x, v) = inS low fr high tt (x, v') := rfl
theorem srt_filter {l : List (Bts × Bts)} (f : Bts × Bts → Bool) (h : Srt l) : Srt (l.filter f) := List.Pairwise.sublist List.filter_sublist h
theorem getK_filter {l : List (Bts × Bts)} {low high x : Bts} {fr tt : Bool} (h : Srt l) : getK (l.filter (inS low fr high tt)) x = if inS low fr high tt (x, []) = true then getK l x else none := by
  refine Option.ext fun v => ?_
  rw [getK_iff (srt_filter _ h), List.mem_filter, ← getK_iff h]
  split
  · next c => exact ⟨fun h => h.1, fun h => ⟨h, c⟩⟩
  · next c => exact ⟨fun h => absurd h.2 c, fun h => by cases h⟩

section
variable {seed : Int}
theorem gk_put {u : Tr} {k v x : Bts} (h : u.good seed) : getK (u.put seed k v).pairs x = if k = x then some v else getK u.pairs x := by
  rw [(Tr.put_good h).2, getK_ins (Tr.good_srt h)]
/-- Drop where it is there. -/
def Tr.dropIf (seed : Int) (u : Tr) (k : Bts) : Tr := if (u.get k).isSome then u.drop seed k else u
theorem Tr.dropIf_good {u : Tr} {k : Bts} (h : u.good seed) : (u.dropIf seed k).good seed := by
  unfold Tr.dropIf
  split
  · exact (Tr.drop_good h).1
  · exact h
theorem gk_dropIf {u : Tr} {k x : Bts} (h : u.good seed) : getK (u.dropIf seed k).pairs x = if k = x then none else getK u.pairs x := by
  unfold Tr.dropIf
  split
  · rw [(Tr.drop_good h).2, getK_del (Tr.good_srt h)]
  · next c =>
    split
    · next e =>
      subst e
      rw [← Tr.get_pairs h]
      simpa using c
    · rfl
theorem dropAll_cons (u : Tr) (k : Bts) (ks : List Bts) : dropAll seed u (k :: ks) = dropAll seed (u.dropIf seed k) ks := rfl
theorem dropAll_good : ∀ {ks : List Bts} {u : Tr}, u.good seed → (dropAll seed u ks).good seed
  | [], _, h => h
  | k :: ks, u, h => by rw [dropAll_cons]; exact dropAll_good (Tr.dropIf_good h)
theorem gk_dropAll : ∀ {ks : List Bts} {u : Tr} {x : Bts}, u.good seed → getK (dropAll seed u ks).pairs x = if x ∈ ks then none else getK u.pairs x
  | [], _, _, _ => by simp [dropAll]
  | k :: ks, u, x, h => by
    rw [dropAll_cons, gk_dropAll (Tr.dropIf_good h), gk_dropIf h]
    by_cases e : k = x
    · subst e; simp
    · have e' : ¬ x = k := fun h => e h.symm
      simp [e, e']
/-- What the last pair of a key says. -/
def lastK : List (Bts × Bts) → Bts → Option Bts
  | [], _ => none
  | p :: l, x => (lastK l x).or (if p.1 = x then some p.2 else none)
theorem lastK_append : ∀ (a b : List (Bts × Bts)) (x : Bts), lastK (a ++ b) x = (lastK b x).or (lastK a x)
  | [], b, x => by simp [lastK]
  | p :: a, b, x => by rw [List.cons_append, lastK, lastK_append a b, lastK, Option.or_assoc]
theorem lastK_none : ∀ {l : List (Bts × Bts)} {x : Bts}, (∀ p ∈ l, ¬ p.1 = x) → lastK l x = none
  | [], _, _ => rfl
  | p :: l, x, h => by rw [lastK, lastK_none fun q hq => h q (by simp [hq]), if_neg (h p (by simp))]; rfl
theorem putAll_cons (u : Tr) (p : Bts × Bts) (ps : List (Bts × Bts)) : putAll seed u (p :: ps) = putAll seed (u.put seed p.1 p.2) ps := rfl
theorem putAll_good : ∀ {ps : List (Bts × Bts)} {u : Tr}, u.good seed → (putAll seed u ps).good seed
  | [], _, h => h
  | p :: ps, u, h => by rw [putAll_cons]; exact putAll_good (Tr.put_good h).1
theorem putAll_pairs : ∀ {ps : List (Bts × Bts)} {u : Tr}, u.good seed → (putAll seed u ps).pairs = ps.foldl (fun out p => putK out p.1 p.2) u.pairs
  | [], _, _ => rfl
  | p :: ps, u, h => by rw [putAll_cons, putAll_pairs (Tr.put_good h).1, (Tr.put_good h).2, List.foldl_cons, putK_ins]
theorem gk_putAll : ∀ {ps : List (Bts × Bts)} {u : Tr} {x : Bts}, u.good seed → getK (putAll seed u ps).pairs x = (lastK ps x).or (getK u.pairs x)
  | [], _, _, _ => by simp [putAll, lastK]
  | p :: ps, u, x, h => by
    rw [putAll_cons, gk_putAll (Tr.put_good h).1, gk_put h, lastK, Option.or_assoc]
    by_cases e : p.1 = x
    · simp [e]
    · simp [e]
theorem Tr.ext {t u : Tr} (ht : t.good seed) (hu : u.good seed) (h : ∀ k, getK t.pairs k = getK u.pairs k) : t = u := Tr.canon ht hu (srt_getK (Tr.good_srt ht) (Tr.good_srt hu) h)

/-! ### The reference's recursion -/
/-- Two maps have the same in a span. -/
def Agree (u u' : Tr) (low high : Bts) (bd : Bool) : Prop := ∀ x, inS low true high bd (x, []) = true → getK u'.pairs x = getK u.pairs x
theorem Agree.filter {u u' : Tr} {low high : Bts} {bd : Bool} (h : Agree u u' low high bd) (hu : u.good seed) (hu' : u'.good seed) : u'.pairs.filter (inS low true high bd) = u.pairs.filter (inS low true high bd) :=
  srt_getK (srt_filter _ (Tr.good_srt hu')) (srt_filter _ (Tr.good_srt hu)) fun k => by
    rw [getK_filter (Tr.good_srt hu'), getK_filter (Tr.good_srt hu)]
    split
    · next c => exact h k c
    · rfl
theorem Agree.cut {u u' : Tr} {low high : Bts} {bd : Bool} (h : Agree u u' low high bd) (hu : u.good seed) (hu' : u'.good seed) : u'.cut low true high bd = u.cut low true high bd := by
  obtain ⟨g1, e1⟩ := Tr.cut_good low true high bd hu
  obtain ⟨g2, e2⟩ := Tr.cut_good low true high bd hu'
  exact Tr.canon g2 g1 (by rw [e1, e2, h.filter hu hu'])
theorem Agree.same {u u' t : Tr} {low high : Bts} {bd : Bool} (h : Agree u u' low high bd) (hu : u.good seed) (hu' : u'.good seed) : sameAt seed u' t low high bd = sameAt seed u t low high bd := by
  unfold sameAt
  rw [h.cut hu hu']
def refT (seed : Int) : Tr → Tr → Bts → Bts → Bool → Tr
  | u, .nil, low, high, bd => if sameAt seed u .nil low high bd = true then u else dropAll seed u (spanKeys u.pairs low high bd)
  | u, .nd l k v r, low, high, bd => if sameAt seed u (.nd l k v r) low high bd = true then u else refT seed (refT seed (u.put seed k v) l low k true) r (k ++ [0]) high bd
def talkR (seed : Int) : Tr → Tr → Bts → Bts → Bool → List Msg
  | u, .nil, low, high, bd => [⟨low, high, bd, 0, 0, sameAt seed u .nil low high bd, []⟩]
  | u, .nd l k v r, low, high, bd => if sameAt seed u (.nd l k v r) low high bd = true then [⟨low, high, bd, (Tr.nd l k v r).size, (Tr.nd l k v r).dg seed, true, []⟩] else ⟨low, high, bd, (Tr.nd l k v r).size, (Tr.nd l k v r).dg seed, false, [(k, v)]⟩ :: (talkR seed (u.put seed k v) l low k true ++ talkR seed (refT seed (u.put seed k v) l low k true) r (k ++ [0]) high bd)
theorem refT_good : ∀ {t u : Tr} {low high : Bts} {bd : Bool}, u.good seed → (refT seed u t low high bd).good seed
  | .nil, u, _, _, _, h => by
    rw [refT]
    split
    · exact h
    · exact dropAll_good h
  | .nd l k v r, u, _, _, _, h => by
    rw [refT]
    split
    · exact h
    · exact refT_good (refT_good (Tr.put_good h).1)
/-- The pairs of a tree lie in a span. -/
def Tr.inSpan (t : Tr) (low high : Bts) (bd : Bool) : Prop := ∀ p ∈ t.pairs, inS low true high bd (p.1, []) = true
theorem inSpan_parts {l r : Tr} {k v low high : Bts} {bd : Bool} (hg : (Tr.nd l k v r).good seed) (h : (Tr.nd l k v r).inSpan low high bd) :
    inS low true high bd (k, []) = true ∧ l.inSpan low k true ∧ r.inSpan (k ++ [0]) high bd := by
  obtain ⟨_, _, pl, pr⟩ := hg
  have hk : inS low true high bd (k, []) = true := h (k, v) (by simp [Tr.pairs])
  refine ⟨hk, fun p hp => ?_, fun p hp => ?_⟩
  · rw [(span_parts hk (p.1, [])).1, h p (by simp [Tr.pairs, hp])]
    simpa using (pl p hp).1
  · rw [(span_parts hk (p.1, [])).2, h p (by simp [Tr.pairs, hp])]
    simpa using (pr p hp).1
/-- Keys on the two sides. -/
theorem span_left {low high k x : Bts} {bd : Bool} (hk : inS low true high bd (k, []) = true) (h : inS low true k true (x, []) = true) : inS low true high bd (x, []) = true ∧ cmpB x k < 0 := by
  rw [(span_parts hk (x, [])).1] at h
  simpa using h
theorem span_right {low high k x : Bts} {bd : Bool} (hk : inS low true high bd (k, []) = true) (h : inS (k ++ [0]) true high bd (x, []) = true) : inS low true high bd (x, []) = true ∧ cmpB k x < 0 := by
  rw [(span_parts hk (x, [])).2] at h
  simpa using h
theorem lt_ne {a b : Bts} (h : cmpB a b < 0) : ¬ a = b := fun e => by rw [e, cmpB_self] at h; omega
theorem comes_in {u : Tr} : ∀ {t : Tr} {low high : Bts} {bd : Bool}, t.good seed → t.inSpan low high bd → ∀ p ∈ comes seed u t low high bd, inS low true high bd (p.1, []) = true
  | .nil, _, _, _, _, _ => by simp [comes]
  | .nd l k v r, low, high, bd, hg, hi => by
    obtain ⟨hk, hl, hr⟩ := inSpan_parts hg hi
    have h1 := comes_in (u := u) hg.1 hl
    have h2 := comes_in (u := u) hg.2.1 hr
    rw [comes]
    split
    · simp
    · intro p hp
      simp only [List.mem_cons, List.mem_append] at hp
      rcases hp with rfl | hp | hp
      · exact hk
      · exact (span_left hk (h1 p hp)).1
      · exact (span_right hk (h2 p hp)).1
theorem spanKeys_iff {u : Tr} {low high x : Bts} {bd : Bool} (hu : u.good seed) : x ∈ spanKeys u.pairs low high bd ↔ inS low true high bd (x, []) = true ∧ (getK u.pairs x).isSome = true := by
  unfold spanKeys
  rw [List.mem_map]
  constructor
  · rintro ⟨p, hp, rfl⟩
    obtain ⟨h1, h2⟩ := List.mem_filter.1 hp
    exact ⟨h2, by rw [mem_getK (Tr.good_srt hu) h1]; rfl⟩
  · rintro ⟨h1, h2⟩
    obtain ⟨v, hv⟩ := Option.isSome_iff_exists.1 h2
    exact ⟨(x, v), List.mem_filter.2 ⟨getK_mem hv, h1⟩, rfl⟩
theorem gones_in {u : Tr} (hu : u.good seed) : ∀ {t : Tr} {low high : Bts} {bd : Bool}, t.good seed → t.inSpan low high bd → ∀ x ∈ gones seed u t low high bd, inS low true high bd (x, []) = true
  | .nil, low, high, bd, _, _ => by
    rw [gones]
    split
    · simp
    · intro x hx; exact ((spanKeys_iff hu).1 hx).1
  | .nd l k v r, low, high, bd, hg, hi => by
    obtain ⟨hk, hl, hr⟩ := inSpan_parts hg hi
    have h1 := gones_in hu hg.1 hl
    have h2 := gones_in hu hg.2.1 hr
    rw [gones]
    split
    · simp
    · intro x hx
      rcases List.mem_append.1 hx with hx | hx
      · exact (span_left hk (h1 x hx)).1
      · exact (span_right hk (h2 x hx)).1
/-- What a map has behind a mirror of a span. -/
def behind (seed : Int) (u t : Tr) (low high : Bts) (bd : Bool) (x : Bts) (a : Option Bts) : Option Bts := (lastK (comes seed u t low high bd) x).or (if x ∈ gones seed u t low high bd then none else a)
theorem behind_out {u t : Tr} {low high x : Bts} {bd : Bool} (hu : u.good seed) (hg : t.good seed) (hi : t.inSpan low high bd) (hx : ¬ inS low true high bd (x, []) = true) (a : Option Bts) : behind seed u t low high bd x a = a := by
  unfold behind
  rw [lastK_none (x := x) (fun p hp e => hx (by rw [← e]; exact comes_in hg hi p hp)), if_neg (fun h => hx (gones_in hu hg hi x h))]
  rfl
theorem behind_nd {u l r : Tr} {k v low high x : Bts} {bd : Bool} (hu : u.good seed) (hg : (Tr.nd l k v r).good seed) (hi : (Tr.nd l k v r).inSpan low high bd) (hs : ¬ sameAt seed u (.nd l k v r) low high bd = true) (a : Option Bts) :
    behind seed u (.nd l k v r) low high bd x a = behind seed u r (k ++ [0]) high bd x (behind seed u l low k true x (if k = x then some v else a)) := by
  obtain ⟨hk, hl, hr⟩ := inSpan_parts hg hi
  have e1 : comes seed u (.nd l k v r) low high bd = (k, v) :: (comes seed u l low k true ++ comes seed u r (k ++ [0]) high bd) := by rw [comes, if_neg hs]
  have e2 : gones seed u (.nd l k v r) low high bd = gones seed u l low k true ++ gones seed u r (k ++ [0]) high bd := by rw [gones, if_neg hs]
  have c1 := comes_in (u := u) hg.1 hl
  have c2 := comes_in (u := u) hg.2.1 hr
  have g1 := gones_in hu hg.1 hl
  have g2 := gones_in hu hg.2.1 hr
  unfold behind
  rw [e1, e2, lastK, lastK_append]
  by_cases x1 : k = x
  · subst x1
    have n1 : ∀ y, inS low true k true (y, []) = true → ¬ y = k := fun y h => lt_ne (span_left hk h).2
    have n2 : ∀ y, inS (k ++ [0]) true high bd (y, []) = true → ¬ y = k := fun y h e => lt_ne (span_right hk h).2 e.symm
    rw [lastK_none fun p hp => n1 _ (c1 p hp), lastK_none fun p hp => n2 _ (c2 p hp), if_neg fun h => n2 _ (g2 k h) rfl, if_neg fun h => n1 _ (g1 k h) rfl]
    simp
  · rw [if_neg x1, if_neg x1]
    by_cases i2 : inS (k ++ [0]) true high bd (x, []) = true
    · have n1 : ¬ inS low true k true (x, []) = true := fun h => (not_lt_of (span_left hk h).2).1 (span_right hk i2).2
      have q1 : lastK (comes seed u l low k true) x = none := lastK_none fun p hp e => n1 (by rw [← e]; exact c1 p hp)
      have q2 : ¬ x ∈ gones seed u l low k true := fun h => n1 (g1 x h)
      rw [q1, if_neg q2]
      simp [q2]
    · have q1 : lastK (comes seed u r (k ++ [0]) high bd) x = none := lastK_none fun p hp e => i2 (by rw [← e]; exact c2 p hp)
      have q2 : ¬ x ∈ gones seed u r (k ++ [0]) high bd := fun h => i2 (g2 x h)
      rw [q1, if_neg q2]
      simp [q2]
theorem refT_behind {u : Tr} (hu : u.good seed) : ∀ {t u' : Tr} {low high : Bts} {bd : Bool}, t.good seed → t.inSpan low high bd → u'.good seed → Agree u u' low high bd → ∀ x, getK (refT seed u' t low high bd).pairs x = behind seed u t low high bd x (getK u'.pairs x)
  | .nil, u', low, high, bd, hg, hi, hu', ha, x => by
    rw [refT, ha.same hu hu', behind, gones, comes]
    split
    · simp [lastK]
    · rw [gk_dropAll hu']
      have : spanKeys u'.pairs low high bd = spanKeys u.pairs low high bd := by unfold spanKeys; rw [ha.filter hu hu']
      rw [this]
      simp [lastK]
  | .nd l k v r, u', low, high, bd, hg, hi, hu', ha, x => by
    obtain ⟨hk, hl, hr⟩ := inSpan_parts hg hi
    by_cases hs : sameAt seed u (.nd l k v r) low high bd = true
    · rw [refT, ha.same hu hu', if_pos hs, behind, gones, comes, if_pos hs, if_pos hs]
      simp [lastK]
    · have g1 := (Tr.put_good (key := k) (val := v) hu').1
      have a1 : Agree u (u'.put seed k v) low k true := fun y hy => by
        obtain ⟨y1, y2⟩ := span_left hk hy
        rw [gk_put hu', if_neg fun e => lt_ne y2 e.symm, ha y y1]
      have ih1 := refT_behind hu (t := l) hg.1 hl g1 a1
      have g2 := refT_good (t := l) (low := low) (high := k) (bd := true) g1
      have a2 : Agree u (refT seed (u'.put seed k v) l low k true) (k ++ [0]) high bd := fun y hy => by
        obtain ⟨y1, y2⟩ := span_right hk hy
        rw [ih1, behind_out hu hg.1 hl (fun h => (not_lt_of (span_left hk h).2).1 y2), gk_put hu', if_neg (lt_ne y2), ha y y1]
      rw [refT, ha.same hu hu', if_neg hs, refT_behind hu hg.2.1 hr g2 a2, ih1, gk_put hu', behind_nd hu hg hi hs]
theorem talkR_talk {u : Tr} (hu : u.good seed) : ∀ {t u' : Tr} {low high : Bts} {bd : Bool}, t.good seed → t.inSpan low high bd → u'.good seed → Agree u u' low high bd → talkR seed u' t low high bd = talk seed u t low high bd
  | .nil, u', low, high, bd, _, _, hu', ha => by rw [talkR, talk, ha.same hu hu']
  | .nd l k v r, u', low, high, bd, hg, hi, hu', ha => by
    obtain ⟨hk, hl, hr⟩ := inSpan_parts hg hi
    rw [talkR, talk, ha.same hu hu']
    split
    · rfl
    · next hs =>
      have g1 := (Tr.put_good (key := k) (val := v) hu').1
      have a1 : Agree u (u'.put seed k v) low k true := fun y hy => by
        obtain ⟨y1, y2⟩ := span_left hk hy
        rw [gk_put hu', if_neg fun e => lt_ne y2 e.symm, ha y y1]
      have g2 := refT_good (t := l) (low := low) (high := k) (bd := true) g1
      have a2 : Agree u (refT seed (u'.put seed k v) l low k true) (k ++ [0]) high bd := fun y hy => by
        obtain ⟨y1, y2⟩ := span_right hk hy
        rw [refT_behind hu hg.1 hl g1 a1, behind_out hu hg.1 hl (fun h => (not_lt_of (span_left hk h).2).1 y2), gk_put hu', if_neg (lt_ne y2), ha y y1]
      rw [talkR_talk hu hg.1 hl g1 a1, talkR_talk hu hg.2.1 hr g2 a2]
theorem inSpan_all (t : Tr) : t.inSpan [] [] false := fun p _ => inS_all _
/-- The receiver of a mirror. -/
def mirT (seed : Int) (u t : Tr) : Tr := putAll seed (dropAll seed u (gones seed u t [] [] false)) (comes seed u t [] [] false)
theorem mirT_good {u t : Tr} (hu : u.good seed) : (mirT seed u t).good seed := putAll_good (dropAll_good hu)
theorem gk_mirT {u t : Tr} (hu : u.good seed) (x : Bts) : getK (mirT seed u t).pairs x = behind seed u t [] [] false x (getK u.pairs x) := by
  unfold mirT behind
  rw [gk_putAll (dropAll_good hu), gk_dropAll hu]
theorem refT_mirT {u t : Tr} (hu : u.good seed) (ht : t.good seed) : refT seed u t [] [] false = mirT seed u t :=
  Tr.ext (refT_good hu) (mirT_good hu) fun x => by rw [gk_mirT hu, refT_behind hu ht (inSpan_all t) hu fun _ _ => rfl]

/-! ### Where no spans meet -/
/-- A message says 'the same' of spans that differ. -/
def metB (F U : List (Bts × Bts)) (m : Msg) : Bool := m.same && !sameP (F.filter (inS m.low true m.high m.bd)) (U.filter (inS m.low true m.high m.bd))
theorem sameP_eq {a b : List (Bts × Bts)} (h : sameP a b = true) : a = b := by
  simp only [sameP, Bool.and_eq_true, beq_iff_eq, List.all_eq_true] at h
  refine List.ext_getElem h.1 fun i h1 h2 => ?_
  have := h.2 (a[i], b[i]) (by rw [← List.getElem_zip (h := by simp; omega)]; exact List.getElem_mem _)
  exact Prod.ext (cmpB_zero this.1) (cmpB_zero this.2)
theorem behind_get {F : List (Bts × Bts)} {u : Tr} (hF : Srt F) (hu : u.good seed) : ∀ {t : Tr} {low high : Bts} {bd : Bool}, t.good seed → t.pairs = F.filter (inS low true high bd) → (∀ m ∈ talk seed u t low high bd, metB F u.pairs m = false) → ∀ x, inS low true high bd (x, []) = true → behind seed u t low high bd x (getK u.pairs x) = getK F x
  | .nil, low, high, bd, hg, ht, hm, x, hx => by
    have hn : getK F x = none := by
      have := getK_filter (low := low) (high := high) (x := x) (fr := true) (tt := bd) hF
      rw [← ht, if_pos hx] at this
      exact this.symm
    rw [hn, behind, comes, gones]
    by_cases hs : sameAt seed u .nil low high bd = true
    · have h1 := hm _ (by rw [talk]; exact List.mem_singleton.2 rfl)
      simp only [metB, hs, Bool.true_and, Bool.not_eq_false'] at h1
      have h1 := sameP_eq h1
      have := getK_filter (low := low) (high := high) (x := x) (fr := true) (tt := bd) (Tr.good_srt hu)
      rw [if_pos hx, ← h1, getK_filter hF, if_pos hx, hn] at this
      rw [if_pos hs, ← this]
      simp [lastK]
    · rw [if_neg hs]
      split
      · simp [lastK]
      · next c =>
        rw [spanKeys_iff hu] at c
        have : ¬ (getK u.pairs x).isSome = true := fun h => c ⟨hx, h⟩
        simpa [lastK] using this
  | .nd l k v r, low, high, bd, hg, ht, hm, x, hx => by
    have hi : (Tr.nd l k v r).inSpan low high bd := fun p hp => by
      rw [ht] at hp
      exact (List.mem_filter.1 hp).2
    obtain ⟨hk, el, er⟩ := Tr.parts_of hg ht
    obtain ⟨_, hl, hr⟩ := inSpan_parts hg hi
    by_cases hs : sameAt seed u (.nd l k v r) low high bd = true
    · have h1 := hm ⟨low, high, bd, (Tr.nd l k v r).size, (Tr.nd l k v r).dg seed, true, []⟩ (by rw [talk, if_pos hs]; exact List.mem_singleton.2 rfl)
      simp only [metB, Bool.true_and, Bool.not_eq_false'] at h1
      have h1 := sameP_eq h1
      rw [behind, comes, gones, if_pos hs, if_pos hs]
      have := getK_filter (low := low) (high := high) (x := x) (fr := true) (tt := bd) (Tr.good_srt hu)
      rw [if_pos hx, ← h1, getK_filter hF, if_pos hx] at this
      simp [lastK, this]
    · have hm' : ∀ m, m ∈ talk seed u l low k true ∨ m ∈ talk seed u r (k ++ [0]) high bd → metB F u.pairs m = false := fun m h => hm m (by
        rw [talk, if_neg hs]
        exact List.mem_cons_of_mem _ (List.mem_append.2 h))
      rw [behind_nd hu hg hi hs]
      by_cases x1 : k = x
      · subst x1
        rw [if_pos rfl, behind_out hu hg.1 hl (fun h => lt_ne (span_left hk h).2 rfl), behind_out hu hg.2.1 hr (fun h => lt_ne (span_right hk h).2 rfl)]
        have : (k, v) ∈ F.filter (inS low true high bd) := by rw [← ht]; simp [Tr.pairs]
        exact ((getK_iff hF).2 (List.mem_filter.1 this).1).symm
      · rw [if_neg x1]
        by_cases i1 : inS low true k true (x, []) = true
        · have n2 : ¬ inS (k ++ [0]) true high bd (x, []) = true := fun h => (not_lt_of (span_left hk i1).2).1 (span_right hk h).2
          rw [behind_out hu hg.2.1 hr n2, behind_get hF hu hg.1 el (fun m h => hm' m (.inl h)) x i1]
        · have i2 : inS (k ++ [0]) true high bd (x, []) = true := by
            rw [(span_parts hk (x, [])).2, hx, Bool.true_and, decide_eq_true_eq]
            have q1 : ¬ cmpB x k < 0 := fun h => i1 (by rw [(span_parts hk (x, [])).1, hx]; simpa using h)
            have q2 : ¬ cmpB k x = 0 := fun h => x1 (cmpB_zero h)
            have := cmpB_neg k x
            show cmpB k x < 0
            omega
          rw [behind_out hu hg.1 hl i1, behind_get hF hu hg.2.1 er (fun m h => hm' m (.inr h)) x i2]
theorem filter_all (l : List (Bts × Bts)) : l.filter (inS [] true [] false) = l := List.filter_eq_self.2 fun p _ => inS_all p
theorem mirT_eq {u t : Tr} (hu : u.good seed) (ht : t.good seed) (hm : ∀ m ∈ talk seed u t [] [] false, metB t.pairs u.pairs m = false) : mirT seed u t = t :=
  Tr.ext (mirT_good hu) ht fun x => by rw [gk_mirT hu, behind_get (Tr.good_srt ht) hu ht (filter_all _).symm hm x (inS_all _)]
theorem same_self {t : Tr} (ht : t.good seed) : sameAt seed t t [] [] false = true := by
  obtain ⟨g, e⟩ := Tr.cut_good [] true [] false ht
  have : t.cut [] true [] false = t := Tr.canon g ht (by rw [e, filter_all])
  simp [sameAt, this]
theorem talk_self {t : Tr} (ht : t.good seed) : ∃ m, talk seed t t [] [] false = [m] ∧ m.same = true ∧ m.size = t.size := by
  have h := same_self ht
  cases t with
  | nil => exact ⟨_, rfl, h, rfl⟩
  | nd l k v r => exact ⟨_, by rw [talk, if_pos h], rfl, rfl⟩
end
end Go.Proofs.Ytaopjdjbpamhhaa
/- Proved: contract of bytes.Join without a separator, over rows of bytes in memory. Conditions: rows in memory, of at most a hundred million bytes. -/
namespace Go.Proofs.Ytaopjdjbpamhhaa
open Go Go.RowKit
set_option linter.unusedVariables false
set_option linter.unusedSimpArgs false

def joinRen : Shelf.Ren := ⟨fun n => if n = 14 then 130 else 167, fun n => if n = 0 then 0 else if n = 3 then 3 else if n = 4 then 4 else if n = 5 then 5 else if n = 9 then 9 else if n = 20 then 20 else if n = 22 then 31 else 51, fun n => n⟩
theorem joinLays : SlLaysJ.n14 Try.prog joinRen where
  mixed := by kernel_rfl
  f14 := by kernel_rfl
  f15 := by kernel_rfl
  t0 := Try.underlying0
  a0 := Try.isAgg0
  z0 := Try.sizeOf0
  v0 := Try.zeroValue0
  t3 := Try.underlying3
  a3 := Try.isAgg3
  z3 := Try.sizeOf3
  v3 := Try.zeroValue3
  t4 := Try.underlying4
  a4 := Try.isAgg4
  z4 := Try.sizeOf4
  v4 := Try.zeroValue4
  t9 := Try.underlying9
  a9 := Try.isAgg9
  z9 := Try.sizeOf9
  v9 := Try.zeroValue9
  t20 := Try.underlying20
  a20 := Try.isAgg20
  z20 := Try.sizeOf20
  v20 := Try.zeroValue20
  t22 := Try.underlying31
  a22 := Try.isAgg31
  z22 := Try.sizeOf31
  v22 := Try.zeroValue31
  t26 := Try.underlying51
  a26 := Try.isAgg51
  z26 := Try.sizeOf51
  v26 := Try.zeroValue51
  t5 := Try.underlying5
  z5 := Try.sizeOf5
  i5 := by kernel_rfl

theorem FreshBytes.bv {B : Nat} {w : World} {v : Value} {l : Bts} (h : Lib.FreshBytes B w v l) (hl : l.length ≤ 140737488355328) : BV (fun b => B ≤ b) w v l := by
  obtain ⟨g, cap, zs, rfl, hg, hc, _, hz, hr, hb, hcell, _⟩ := h
  refine ⟨_, cap, rfl, ⟨hc, fun h => by cases h⟩, hl, fun i hi => ⟨g, 0, [.int .u8 ((l[i].toNat : Nat) : Int)], rfl, hg, fun j hj => ?_, rfl⟩⟩
  obtain rfl : j = 0 := by simpa using hj
  have hiz : i < zs.length := by omega
  have e : l[i] = UInt8.ofNat zs[i].toNat := by
    have h1 : l[i]? = (Lib.bytesOf (zs.take l.length))[i]? := by rw [hb]
    rw [List.getElem?_eq_getElem hi] at h1
    simp only [Lib.bytesOf, List.getElem?_map, List.getElem?_take, if_pos hi, List.getElem?_eq_getElem hiz, Option.map_some, Option.some.injEq] at h1
    exact h1
  have hx := hr _ (List.getElem_mem hiz)
  have k : byteEl.k = 1 := rfl
  rw [k, Nat.zero_add, Nat.mul_one, Nat.add_zero, hcell i (by omega)]
  simp only [List.getElem_cons_zero]
  rw [e, UInt8.toNat_ofNat', List.getD_eq_getElem?_getD, List.getElem?_eq_getElem hiz, Option.getD_some]
  congr 2
  omega
theorem BV.holds {D : Nat → Prop} {w : World} {v : Value} {l : Bts} (h : BV D w v l) : Lib.HoldsBytes w v l := by
  obtain ⟨a, c, rfl, ⟨hc, hn⟩, _, rd⟩ := h
  refine ⟨a, c, rfl, fun e => ?_, fun ad e i x hx => ?_⟩
  · have := hn e
    exact List.eq_nil_of_length_eq_zero (by omega)
  · obtain ⟨hi, rfl⟩ := List.getElem?_eq_some_iff.1 hx
    obtain ⟨b, o, rfl, _, hcell⟩ := Rd.byte rd hi
    obtain rfl := Option.some.inj e
    rw [Addr.add_lit]
    exact hcell
theorem lens_flatten (ls : List Bts) : Lib.lens ls = ls.flatten.length := by simp [Lib.lens, List.length_flatten]
theorem join_flatten (ls : List Bts) : Lib.join ls [] = ls.flatten := by
  cases ls with
  | nil => rfl
  | cons x r => rw [Lib.join_cons]; simp [Lib.joinTail]

theorem byJoin_calls {D : Nat → Prop} {w : World} {v : Value} {ls : List Bts} (h : SV bytesEl D w v ls) (hs : ls.flatten.length ≤ 140737488355328) :
    Calls Try.prog 130 #[v, .slice none 0 0] w fun e w' => ∃ v', e = .returned v' ∧ BV (fun b => w.heap.size ≤ b) w' v' ls.flatten ∧ Kept Noneof w w' := by
  have e14 : joinRen.f 14 = 130 := rfl
  obtain ⟨a, c, rfl, ⟨hc, hn⟩, hl, rd⟩ := h
  rcases Nat.lt_or_ge ls.length 2 with h2 | h2
  · match ls, h2, hc, rd, hs with
    | [], _, hc, rd, _ =>
      have := Any.bytes_Join_none joinLays a c (.slice none 0 0) w
      rw [e14] at this
      refine this.mono ?_
      rintro e w' ⟨rfl, rfl⟩
      exact ⟨_, rfl, ⟨_, 0, rfl, ⟨Nat.le_refl _, fun h => by cases h⟩, by simp, Rd.nil _ _ _ _⟩, (Kept.refl _ _).alloc _⟩
    | [l0], _, hc, rd, hs =>
      obtain ⟨b, o, v0, rfl, _, hcell, hv⟩ := Rd.bytes rd (i := 0) (by simp)
      rw [Nat.add_zero] at hcell
      simp only [List.getElem_cons_zero] at hv
      simp only [List.flatten_cons, List.flatten_nil, List.append_nil] at hs ⊢
      obtain ⟨p0, c0, rfl, hnil, hcells⟩ := hv.holds
      rcases Nat.eq_zero_or_pos l0.length with hz | hz
      · obtain rfl := List.eq_nil_of_length_eq_zero hz
        have := Any.bytes_Join_one_empty joinLays b o c p0 c0 (.slice none 0 0) w hcell
        rw [e14] at this
        refine this.mono ?_
        rintro e w' ⟨rfl, rfl⟩
        exact ⟨_, rfl, BV.nil _ _, Kept.refl _ _⟩
      · cases p0 with
        | none => have := hnil rfl; rw [this] at hz; simp at hz
        | some ad =>
          have := Any.bytes_Join_one joinLays b o c ad c0 l0 (.slice none 0 0) w hcell (hcells ad rfl) hz hs
          rw [e14] at this
          refine this.mono ?_
          rintro e w' ⟨v', rfl, hf, hb⟩
          exact ⟨v', rfl, FreshBytes.bv hf hs, Kept.of_below hb _⟩
  · obtain ⟨b, o, v0, rfl, _, _, _⟩ := Rd.bytes rd (i := 0) (by omega)
    obtain ⟨V, hV⟩ := Deep.choose_lt (α := Value) (n := ls.length) (p := fun i u => w.cell? ⟨b, o + i, none⟩ = some u ∧ ∀ l, ls[i]? = some l → Lib.HoldsBytes w u l) (fun i hi => by
      obtain ⟨b', o', u, e, _, hcell, hu⟩ := Rd.bytes rd hi
      simp only [Option.some.injEq, Addr.mk.injEq, and_true] at e
      obtain ⟨rfl, rfl⟩ := e
      refine ⟨u, hcell, fun l hl => ?_⟩
      rw [List.getElem?_eq_getElem hi] at hl
      rw [← Option.some.inj hl]
      exact hu.holds)
    have hP : Lib.PartsAt w ⟨b, o, none⟩ ((List.range ls.length).map V) ls := by
      refine ⟨by simp, fun i u hu => ?_, fun i u l hu hl => ?_⟩
      · obtain ⟨hi, rfl⟩ := List.getElem?_eq_some_iff.1 hu
        have hi' : i < ls.length := by simpa using hi
        rw [Addr.add_lit]
        simpa using (hV i hi').1
      · obtain ⟨hi, rfl⟩ := List.getElem?_eq_some_iff.1 hu
        have hi' : i < ls.length := by simpa using hi
        simpa using (hV i hi').2 l hl
    have := Any.bytes_Join_many joinLays b o ls.length c _ ls (.slice none 0 0) [] w rfl h2 hP hc ⟨none, 0, rfl, fun _ => rfl, fun a h => by cases h⟩ hl (by rw [lens_flatten]; simpa using hs)
    rw [e14] at this
    refine this.mono ?_
    rintro e w' ⟨v', rfl, hf, hb⟩
    rw [join_flatten] at hf
    exact ⟨v', rfl, FreshBytes.bv hf hs, Kept.of_below hb _⟩
end Go.Proofs.Ytaopjdjbpamhhaa
