/- Proved: arguments that can be read as data are slices that read as lists; no program is named. No condition. -/
import Derived.Test.YtaopjdjbpamhhaaBase
import Derived.Deep.Slices
import Derived.SizedLaws
import Derived.ChangeSame
import Derived.OpenShut
namespace Go.Proofs.Ytaopjdjbpamhhaa
open Go Go.RowKit Go.ChangeShapes Go.WideShapes
set_option linter.unusedVariables false
set_option linter.unusedSimpArgs false

/-- Cells of a type that can be read as data read as an element. -/
def Opens (P : Program) (e : TypeId) {α : Type} (E : El α) : Prop :=
  ∀ (H : Type) (enc : TypeId × Value → H) (w : World) (base : Nat) (spare : Nat → Bool) (held : Bool) (fuel : Nat) (cs : List Value) (x : DataW H × List MemPlace),
    DataW.trod enc P w base spare held fuel e cs = some x → (∀ n ∈ x.1.weights P e, n ≤ reachBytes) → ∃ y, E.R (fun b => b < w.heap.size) w cs y

theorem weightsAll_mem {H : Type} {P : Program} {e : TypeId} : ∀ {l : List (DataW H)} {d : DataW H}, d ∈ l → ∀ n ∈ d.weights P e, n ∈ DataW.weightsAll P e l
  | d0 :: l, d, hd, n, hn => by
    rw [DataW.weightsAll, List.mem_append]
    rcases List.mem_cons.1 hd with rfl | hd
    · exact .inl hn
    · exact .inr (weightsAll_mem hd n hn)
  | [], _, hd, _, _ => by cases hd

section
variable {H : Type} {enc : TypeId × Value → H} {P : Program} {w : World} {base : Nat} {spare : Nat → Bool} {held : Bool} {fuel : Nat} {t e : TypeId} {cs : List Value} {x : DataW H × List MemPlace}
theorem opens_cells {α : Type} [Inhabited α] {E : El α} (hk : 0 < E.k) (hO : Opens P e E) (ht : P.underlying t = some (.slice e)) (hc : P.cellsOf e = E.k) (hb : 1 ≤ P.bytesOf e)
    (h : DataW.trod enc P w base spare held fuel t cs = some x) (hw : ∀ n ∈ x.1.weights P t, n ≤ reachBytes) : ∃ v l, cs = [v] ∧ SV E (fun b => b < w.heap.size) w v l := by
  rcases Deep.open_slice ht h with ⟨rfl, rfl⟩ | ⟨a, len, cap, m, n, D, Pl, rfl, hba, hl, hm, hmm, rfl, hx⟩
  · exact ⟨_, [], rfl, none, 0, rfl, ⟨Nat.le_refl _, fun _ => rfl⟩, by simp, Rd.nil _ _ _ _⟩
  · have hlm : len ≤ m := by rw [hmm]; split <;> omega
    have hlen : len ≤ 140737488355328 := by
      have h1 := hw ((((List.range len).map D).length + ((List.range (m - len)).map fun j => D (len + j)).length) * P.bytesOf e) (by simp only [DataW.weights, ht]; exact List.mem_cons_self)
      simp only [List.length_map, List.length_range] at h1
      have h2 := reachBytes_lt
      have h3 : (len + (m - len)) * 1 ≤ (len + (m - len)) * P.bytesOf e := Nat.mul_le_mul_left _ hb
      omega
    obtain ⟨f, hf⟩ := Deep.choose_lt (n := len) (p := fun i y => ∃ cs', w.cells? base (a.add (i * P.cellsOf e)) (P.cellsOf e) = some cs' ∧ E.R (fun b => b < w.heap.size) w cs' y) (fun i hi => by
      obtain ⟨cs', h1, h2⟩ := hx i (by omega)
      obtain ⟨y, hy⟩ := hO _ _ _ _ _ _ _ _ _ h2 (fun n hn => hw n (by
        simp only [DataW.weights, ht]
        refine List.mem_cons_of_mem _ (List.mem_append.2 (.inl ?_))
        exact weightsAll_mem (List.mem_map.2 ⟨i, by simpa using hi, rfl⟩) n hn))
      exact ⟨y, cs', h1, hy⟩)
    refine ⟨_, (List.range len).map f, rfl, some a, cap, by simp, ⟨by simpa using hl, fun h => by cases h⟩, by simpa using hlen, fun i hi => ?_⟩
    have hi' : i < len := by simpa using hi
    have at0 : ∀ i, i < len → ∃ cs', cs'.length = E.k ∧ (∀ j (hj : j < cs'.length), w.cell? ((a.add (i * E.k)).add j) = some cs'[j]) ∧ E.R (fun b => b < w.heap.size) w cs' (f i) := fun i hi => by
      obtain ⟨cs', h1, h2⟩ := hf i hi
      rw [hc] at h1
      obtain ⟨_, h3, h4⟩ := World.cells?_some h1
      refine ⟨cs', h3, fun j hj => ?_, h2⟩
      rw [h4 j (by omega), List.getElem?_eq_getElem hj]
    obtain ⟨c0, l0, g0, _⟩ := at0 0 (by omega)
    have s0 := g0 0 (by omega)
    rw [Nat.zero_mul, show (a.add 0).add 0 = a by simp [Addr.add]] at s0
    have hsp := World.cell?_spot s0
    obtain ⟨b, o, s⟩ := a
    have hsp : s = none := hsp
    subst hsp
    obtain ⟨cs', l1, g1, r1⟩ := at0 i hi'
    refine ⟨b, o, cs', rfl, cell_lt s0, fun j hj => ?_, by simpa using r1⟩
    have := g1 j hj
    rwa [Addr.add_lit, Addr.add_lit, Nat.add_assoc] at this
end

theorem opens_byte {P : Program} {e : TypeId} (he : P.underlying e = some (.int .u8)) : Opens P e byteEl := by
  intro H enc w base spare held fuel cs x h _
  obtain ⟨n, rfl, _, hw⟩ := DataW.trod_int he h
  have hb : 0 ≤ n ∧ n ≤ 255 := bounds_u8 hw
  refine ⟨UInt8.ofNat n.toNat, ?_⟩
  show [Value.int .u8 n] = [Value.int .u8 _]
  rw [UInt8.toNat_ofNat']
  congr 2
  omega
theorem opens_bytes {P : Program} {t e : TypeId} (ht : P.underlying t = some (.slice e)) (he : P.underlying e = some (.int .u8)) (hc : P.cellsOf e = 1) (hb : 1 ≤ P.bytesOf e) : Opens P t bytesEl := by
  intro H enc w base spare held fuel cs x h hw
  obtain ⟨v, l, rfl, hs⟩ := opens_cells byteEl_k (opens_byte he) ht hc hb h hw
  exact ⟨l, v, rfl, hs⟩
/-- A struct of two slices of bytes. -/
theorem opens_pair {P : Program} {s t e : TypeId} {f0 f1 : Field} (hs : P.underlying s = some (.struct #[f0, f1])) (o0 : f0.offset = 0) (o1 : f1.offset = 1) (t0 : f0.type = t) (t1 : f1.type = t) (ct : P.cellsOf t = 1) (cs2 : P.cellsOf s = 2)
    (ht : P.underlying t = some (.slice e)) (he : P.underlying e = some (.int .u8)) (hc : P.cellsOf e = 1) (hb : 1 ≤ P.bytesOf e) : Opens P s pairEl := by
  intro H enc w base spare held fuel cs x h hw
  obtain ⟨xs, n, _, rfl, hlen, hxl, hf⟩ := DataW.trod_struct hs h
  have g0 := hf 0 f0 rfl
  have g1 := hf 1 f1 rfl
  rw [o0, t0, ct] at g0
  rw [o1, t1, ct] at g1
  rw [cs2] at hlen
  match xs, hxl, cs, hlen with
  | [y0, y1], _, [v0, v1], _ =>
    simp only [List.drop_zero, List.take_succ_cons, List.take_zero, List.getElem?_cons_zero] at g0
    simp only [List.drop_succ_cons, List.drop_zero, List.take_succ_cons, List.take_zero, List.getElem?_cons_succ, List.getElem?_cons_zero] at g1
    have w0 : ∀ n ∈ y0.1.weights P t, n ≤ reachBytes := fun n hn => hw n (by
      simp only [DataW.weights, hs, List.map_cons, List.map_nil, DataW.weightsEach, t0, t1, List.mem_append]
      exact .inl hn)
    have w1 : ∀ n ∈ y1.1.weights P t, n ≤ reachBytes := fun n hn => hw n (by
      simp only [DataW.weights, hs, List.map_cons, List.map_nil, DataW.weightsEach, t0, t1, List.mem_append]
      exact .inr (.inl hn))
    obtain ⟨k, u, hu, h1⟩ := opens_bytes ht he hc hb _ _ _ _ _ _ _ _ _ g0 w0
    obtain ⟨k', u', hu', h1'⟩ := opens_bytes ht he hc hb _ _ _ _ _ _ _ _ _ g1 w1
    simp only [List.cons.injEq, and_true] at hu hu'
    subst hu
    subst hu'
    exact ⟨(k, k'), _, _, rfl, h1, h1'⟩
/-- An argument. -/
theorem open_arg {α : Type} [Inhabited α] {E : El α} {P : Program} {H : Type} {enc : TypeId × Value → H} {w : World} {base : Nat} {spare : Nat → Bool} {held : Bool} {t e : TypeId} {v : Value} {d : DataW H} {ps : List MemPlace} {ts : List TypeId} {ds : List (DataW H)} {j : Nat}
    (hk : 0 < E.k) (hO : Opens P e E) (ht : P.underlying t = some (.slice e)) (hc : P.cellsOf e = E.k) (hb : 1 ≤ P.bytesOf e) (h : DataW.Trod enc P w base spare held t v d ps) (hv : v.cells = #[v])
    (hsz : (DataW.weightsEach P ts ds).all (· ≤ reachBytes) = true) (hj : ts[j]? = some t) (hd : ds[j]? = some d) : ∃ l, SV E (fun b => b < w.heap.size) w v l := by
  obtain ⟨fuel, hf⟩ := h
  rw [hv] at hf
  obtain ⟨v', l, hv', hs⟩ := opens_cells hk hO ht hc hb hf (fun n hn => by
    have := List.all_eq_true.1 hsz n (DataW.weights_mem_each hj hd n hn)
    simpa using this)
  obtain rfl : v = v' := by simpa using hv'
  exact ⟨l, hs⟩
end Go.Proofs.Ytaopjdjbpamhhaa
