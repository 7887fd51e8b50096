/- Proved: a law for a region that draws its order and whose operations may make memory: one walk in the order of the text serves every order; no program is named. No condition. -/
import Derived.Test.YtaopjdjbpamhhaaBase
import Derived.StillTail
import Derived.Lib.Hide
namespace Go.Proofs.Ytaopjdjbpamhhaa
open Go Go.RowKit
set_option linter.unusedVariables false
set_option linter.unusedSimpArgs false

/-- What is said of an operation: it yields a value by itself; it leaves the value c; it leaves some value, of which Φ is known. -/
inductive Kd where
  | val
  | con (c : Value)
  | act (V : Value → Prop) (Φ : Value → World → Prop)
def kds (l : List (Nat × Kd)) (i : Nat) : Kd := (l.lookup i).getD .val
/-- Operation i waits for k, by a chain of edges. -/
def waitsN (ops : Array Oper) : Nat → Nat → Nat → Bool
  | 0, _, _ => false
  | f + 1, i, k => match ops[i]? with
    | none => false
    | some o => o.after.any fun e => Region.binds .any e && (e.on == k || waitsN ops f e.on k)
def waits (ops : Array Oper) (i k : Nat) : Bool := waitsN ops ops.size i k
def Act.val (a : Act) : Option Tmp → Value
  | some d => a.tmps.getD d undef
  | none => undef
def Held (ops : Array Oper) (Ext : World → World → Prop) (w0 : World) (K : Nat → Kd) (j : Nat) (a : Act) (w : World) : Prop :=
  ∀ V Φ o, K j = .act V Φ → ops[j]? = some o → ∃ w1, Ext w0 w1 ∧ Φ (Act.val a o.dst) w1 ∧ Ext w1 w
def Cls (ops : Array Oper) (Ext : World → World → Prop) (w0 : World) (K : Nat → Kd) (i : Nat) (a : Act) (w : World) : Prop :=
  Ext w0 w ∧ ∀ j, j < i → waits ops i j = true → Held ops Ext w0 K j a w
/-- The value that a slot gets: none where there is no slot. -/
def rv (d : Option Tmp) (u : Value) : Value := match d with | some _ => u | none => undef
/-- What an operation leaves, and where. -/
def Res (P : Program) (o : Oper) (a : Act) (w : World) (R : Value → World → Prop) : Prop :=
  match (execOp a.eval o).run P w with
  | .ok (.value u) w' => R u w'
  | .ok .skip w' => R undef w'
  | .ok (.enter f args) w' => Calls P f args w' fun
      | .returned u, w'' => R u w''
      | _, _ => False
  | .ok (.row row args) w' => Rows P row args w' R
  | _ => False
def Spec (P : Program) (ops : Array Oper) (Ext : World → World → Prop) (w0 : World) (K : Nat → Kd) (i : Nat) (o : Oper) (a : Act) (V : Value → Prop) : Prop :=
  if Region.wanted o (yielded ops a.tmps) = true then
    match K i with
    | .val => ∃ v, V = (fun u => u = v) ∧ ∀ w, Cls ops Ext w0 K i a w → (execOp a.eval o).run P w = .ok (.value v) w
    | .con c => V = (fun u => u = c) ∧ ∀ w, Cls ops Ext w0 K i a w → Res P o a w fun u w' => u = c ∧ Ext w w'
    | .act V0 Φ => (∃ v, V0 v) ∧ V = V0 ∧ ∀ w, Cls ops Ext w0 K i a w → Res P o a w fun u w' => V0 u ∧ Ext w w' ∧ Φ (rv o.dst u) w'
  else V = (fun u => u = undef)
/-- The walk in the order of the text. -/
def SeqG (P : Program) (ops : Array Oper) (Ext : World → World → Prop) (w0 : World) (K : Nat → Kd) (Fin : Act → Prop) : List Nat → Act → Prop
  | [], a => Fin a
  | i :: rest, a => ∃ o, ops[i]? = some o ∧ ∃ V, Spec P ops Ext w0 K i o a V ∧ ∀ v, V v → SeqG P ops Ext w0 K Fin rest (a.put o.dst v)

/-- What is asked of the region itself. -/
structure HeadOk (ops : Array Oper) (K : Nat → Kd) (n : Nat) : Prop where
  nosel : Region.noSelect ops = true
  le : n ≤ ops.size
  look : ∀ i k oi ok d, i < n → k < n → ops[i]? = some oi → ops[k]? = some ok → ok.dst = some d → d ∈ oi.looksAt ops → waits ops i k = true
  dst : ∀ i k oi ok d, i < n → k < n → i ≠ k → ops[i]? = some oi → ops[k]? = some ok → oi.dst = some d → ok.dst ≠ some d
  ord : ∀ i k, i < n → k < n → waits ops i k = true → k < i
  edge : ∀ i oi, i < n → ops[i]? = some oi → ∀ e ∈ oi.after, Region.binds .any e = true → e.on < i
  act : ∀ i V Φ oi, i < n → K i = .act V Φ → ops[i]? = some oi → oi.guard = none
def headB (ops : Array Oper) (K : Nat → Kd) (n : Nat) : Bool :=
  Region.noSelect ops && decide (n ≤ ops.size) && (List.range n).all fun i => match ops[i]? with
    | none => false
    | some oi =>
      (match K i with | .act .. => oi.guard.isNone | _ => true) && (oi.after.all fun e => !Region.binds .any e || decide (e.on < i)) &&
      (List.range n).all fun k => match ops[k]? with
        | none => false
        | some ok => (!waits ops i k || decide (k < i)) && match ok.dst with
          | none => true
          | some d => (!(oi.looksAt ops).contains d || waits ops i k) && (i == k || oi.dst != some d)
theorem HeadOk.of {ops : Array Oper} {K : Nat → Kd} {n : Nat} (h : headB ops K n = true) : HeadOk ops K n := by
  unfold headB at h
  simp only [Bool.and_eq_true, decide_eq_true_eq, List.all_eq_true, List.mem_range] at h
  obtain ⟨⟨h1, h2⟩, h3⟩ := h
  have pair : ∀ i k oi ok, i < n → k < n → ops[i]? = some oi → ops[k]? = some ok → (waits ops i k = true → k < i) ∧ ∀ d, ok.dst = some d → (d ∈ oi.looksAt ops → waits ops i k = true) ∧ (i = k ∨ oi.dst ≠ some d) := by
    intro i k oi ok hi hk ho hok
    have := h3 i hi
    simp only [ho, Bool.and_eq_true, List.all_eq_true, List.mem_range] at this
    have := this.2 k hk
    simp only [hok, Bool.and_eq_true, Bool.or_eq_true, Bool.not_eq_true', decide_eq_true_eq] at this
    obtain ⟨w1, w2⟩ := this
    refine ⟨fun hw => w1.resolve_left (by rw [hw]; simp), fun d hd => ?_⟩
    simp only [hd, Bool.and_eq_true, Bool.or_eq_true, Bool.not_eq_true', beq_iff_eq, bne_iff_ne, ne_eq] at w2
    refine ⟨fun hm => w2.1.resolve_left ?_, w2.2⟩
    intro hc
    have : (oi.looksAt ops).contains d = true := by simpa using hm
    rw [hc] at this
    cases this
  refine ⟨h1, h2, fun i k oi ok d hi hk ho hok hd hm => ((pair i k oi ok hi hk ho hok).2 d hd).1 hm, fun i k oi ok d hi hk hne ho hok hd hd' => ?_, fun i k hi hk hw => ?_, fun i oi hi ho e he hb => ?_, fun i V Φ oi hi hK ho => ?_⟩
  · exact (((pair i k oi ok hi hk ho hok).2 d hd').2.resolve_left hne) hd
  · have hik : i < ops.size := by omega
    have hkk : k < ops.size := by omega
    exact (pair i k _ _ hi hk (Array.getElem?_eq_getElem hik) (Array.getElem?_eq_getElem hkk)).1 hw
  · have := h3 i hi
    simp only [ho, Bool.and_eq_true] at this
    have := Array.all_eq_true_iff_forall_mem.1 this.1.2 e he
    simpa [hb] using this
  · have := h3 i hi
    simp only [ho, Bool.and_eq_true] at this
    have := this.1.1
    simp only [hK, Bool.and_eq_true, Option.isNone_iff_eq_none] at this
    exact this

section
variable {P : Program} {ops : Array Oper} {Ext : World → World → Prop} {w0 : World} {K : Nat → Kd} {n : Nat} {Fin : Act → Prop}
theorem Act.val_put_ne {a : Act} {x y : Option Tmp} {v : Value} (h : ∀ d, x = some d → y ≠ some d) : Act.val (a.put x v) y = Act.val a y := by
  cases y with
  | none => rfl
  | some e =>
    cases x with
    | none => rfl
    | some d =>
      have hne : d ≠ e := fun he => h d rfl (he ▸ rfl)
      simp [Act.val, Act.put, Array.getD_eq_getD_getElem?, Array.getElem?_setIfInBounds_ne hne]
theorem Act.val_put_eq {a : Act} {d : Tmp} {v : Value} (h : d < a.tmps.size) : Act.val (a.put (some d) v) (some d) = v := by
  simp [Act.val, Act.put, Array.getD_eq_getD_getElem?, h]
theorem Act.put_size (a : Act) (x : Option Tmp) (v : Value) : (a.put x v).tmps.size = a.tmps.size := by cases x <;> simp [Act.put]

theorem Held.put {a : Act} {x : Option Tmp} {v : Value} {w : World} {j : Nat} (h : ∀ o, ops[j]? = some o → ∀ d, x = some d → o.dst ≠ some d) : Held ops Ext w0 K j (a.put x v) w ↔ Held ops Ext w0 K j a w := by
  unfold Held
  constructor
  · intro H V Φ o hK ho
    have := H V Φ o hK ho
    rwa [Act.val_put_ne (h o ho)] at this
  · intro H V Φ o hK ho
    rw [Act.val_put_ne (h o ho)]
    exact H V Φ o hK ho

/-- Two operations of the head, of which none waits for the other, do not feel each other. -/
theorem Spec.put (H : HeadOk ops K n) {i k : Nat} {oi ok : Oper} (hi : i < n) (hk : k < n) (hoi : ops[i]? = some oi) (hok : ops[k]? = some ok) (hik : waits ops i k = false) {a : Act} {v : Value} {V : Value → Prop} :
    Spec P ops Ext w0 K i oi (a.put ok.dst v) V ↔ Spec P ops Ext w0 K i oi a V := by
  have hl : ∀ d, ok.dst = some d → d ∉ oi.looksAt ops := fun d hd hm => by rw [H.look i k oi ok d hi hk hoi hok hd hm] at hik; cases hik
  have e1 := execOp_put (ops := ops) oi (fun cs b => Region.noSelect_spec H.nosel i oi cs b hoi) a ok.dst v hl
  have e2 := wanted_put (ops := ops) oi a ok.dst v hl
  have e3 : ∀ w, Cls ops Ext w0 K i (a.put ok.dst v) w ↔ Cls ops Ext w0 K i a w := by
    intro w
    unfold Cls
    refine and_congr_right fun _ => forall_congr' fun j => imp_congr_right fun hji => imp_congr_right fun hj => Held.put fun o ho d hd => ?_
    exact H.dst k j ok o d hk (by omega) (fun e => by subst e; rw [hj] at hik; cases hik) hok ho hd
  unfold Spec Res
  simp only [e1, e2, e3]

theorem Spec.uniq {i : Nat} {o : Oper} {a : Act} {w : World} {V V' : Value → Prop} (hc : Cls ops Ext w0 K i a w) (h : Spec P ops Ext w0 K i o a V) (h' : Spec P ops Ext w0 K i o a V') : V = V' := by
  unfold Spec at h h'
  split at h
  · rename_i hw
    rw [if_pos hw] at h'
    cases hK : K i with
    | val =>
      rw [hK] at h h'
      obtain ⟨v, rfl, h1⟩ := h
      obtain ⟨v', rfl, h2⟩ := h'
      have := (h1 w hc).symm.trans (h2 w hc)
      simp only [Result.ok.injEq, Next.value.injEq, and_true] at this
      rw [this]
    | con c => rw [hK] at h h'; rw [h.1, h'.1]
    | act V0 Φ => rw [hK] at h h'; rw [h.2.1, h'.2.1]
  · rename_i hw
    rw [if_neg hw] at h'
    rw [h, h']
theorem Spec.some {i : Nat} {o : Oper} {a : Act} {V : Value → Prop} (h : Spec P ops Ext w0 K i o a V) : ∃ v, V v := by
  unfold Spec at h
  split at h
  · cases hK : K i with
    | val =>
      rw [hK] at h
      obtain ⟨v, rfl, _⟩ := h
      exact ⟨v, rfl⟩
    | con c => rw [hK] at h; rw [h.1]; exact ⟨c, rfl⟩
    | act V0 Φ => rw [hK] at h; rw [h.2.1]; exact h.1
  · rw [h]; exact ⟨undef, rfl⟩

/-- An operation that waits for nobody that is still to come may come up first. -/
theorem SeqG.extract (H : HeadOk ops K n) {i : Nat} {oi : Oper} {w : World} (hi : i < n) (hoi : ops[i]? = some oi) {post : List Nat} : ∀ (pre : List Nat) (a : Act), (∀ k ∈ pre, k < n ∧ k ≠ i ∧ waits ops i k = false ∧ waits ops k i = false) → Cls ops Ext w0 K i a w →
    SeqG P ops Ext w0 K Fin (pre ++ i :: post) a → ∃ V, Spec P ops Ext w0 K i oi a V ∧ ∀ v, V v → SeqG P ops Ext w0 K Fin (pre ++ post) (a.put oi.dst v)
  | [], a, _, hc, h => by
    obtain ⟨o, ho, V, hV, hr⟩ := h
    obtain rfl : o = oi := Option.some.inj (ho.symm.trans hoi)
    exact ⟨V, hV, hr⟩
  | k :: pre, a, hp, hc, h => by
    obtain ⟨ok, hok, Vk, hVk, hr⟩ := h
    obtain ⟨hkn, hki, hik, hwk⟩ := hp k (by simp)
    have hc' : ∀ v, Cls ops Ext w0 K i (a.put ok.dst v) w := fun v => ⟨hc.1, fun j hj hw => (Held.put fun o ho d hd => H.dst k j ok o d hkn (by omega) (fun e => by subst e; rw [hw] at hik; cases hik) hok ho hd).2 (hc.2 j hj hw)⟩
    have step : ∀ vk, Vk vk → ∃ V, Spec P ops Ext w0 K i oi a V ∧ ∀ v, V v → SeqG P ops Ext w0 K Fin (pre ++ post) ((a.put ok.dst vk).put oi.dst v) := fun vk hvk => by
      obtain ⟨V, h1, h2⟩ := SeqG.extract H hi hoi pre (a.put ok.dst vk) (fun k' hk' => hp k' (by simp [hk'])) (hc' vk) (hr vk hvk)
      exact ⟨V, (Spec.put H hi hkn hoi hok hik).1 h1, h2⟩
    obtain ⟨vk0, hvk0⟩ := hVk.some
    obtain ⟨V, h1, _⟩ := step vk0 hvk0
    refine ⟨V, h1, fun v hv => ⟨ok, hok, Vk, (Spec.put H hkn hi hok hoi hwk).2 hVk, fun vk hvk => ?_⟩⟩
    obtain ⟨V', h3, h4⟩ := step vk hvk
    obtain rfl := Spec.uniq hc h1 h3
    rw [Act.put_comm a v vk (fun d hd => H.dst i k oi ok d hi hkn (Ne.symm hki) hoi hok hd)]
    exact h4 v hv

theorem waitsN_listed {listed : Array Bool} (hc : ∀ j oj, ops[j]? = some oj → listed.getD j false = true → ∀ e ∈ oj.after, Region.binds .any e = true → listed.getD e.on false = true) {k : Nat} :
    ∀ (f i : Nat), (∀ oi, ops[i]? = some oi → ∀ e ∈ oi.after, Region.binds .any e = true → listed.getD e.on false = true) → waitsN ops f i k = true → listed.getD k false = true
  | 0, _, _, h => by simp [waitsN] at h
  | f + 1, i, hi, h => by
    unfold waitsN at h
    cases ho : ops[i]? with
    | none => rw [ho] at h; simp at h
    | some o =>
      rw [ho] at h
      obtain ⟨e, he, hb⟩ := Array.any_eq_true'.1 h
      simp only [Bool.and_eq_true, Bool.or_eq_true, beq_iff_eq] at hb
      have hl := hi o ho e he hb.1
      rcases hb.2 with rfl | hw
      · exact hl
      · exact waitsN_listed hc f e.on (fun oj hoj => hc e.on oj hoj hl) hw

def unl (n : Nat) (listed : Array Bool) : List Nat := (List.range n).filter fun i => !listed.getD i true
theorem mem_unl {listed : Array Bool} {i : Nat} : i ∈ unl n listed ↔ i < n ∧ listed.getD i true = false := by simp [unl]
theorem unl_set {listed : Array Bool} {i : Nat} (hi : i < listed.size) {pre post : List Nat} (h : unl n listed = pre ++ i :: post) : unl n (listed.setIfInBounds i true) = pre ++ post := by
  have hnd : (unl n listed).Nodup := List.Pairwise.filter _ List.nodup_range
  have e : unl n (listed.setIfInBounds i true) = (unl n listed).filter fun k => k != i := by
    unfold unl
    rw [List.filter_filter]
    refine List.filter_congr fun k _ => ?_
    by_cases hk : i = k
    · subst hk; simp [hi]
    · rw [getD_set_ne true hk]; simp [Ne.symm hk]
  rw [e, h]
  rw [h] at hnd
  have h2 := List.nodup_append.1 hnd
  have h3 := List.nodup_cons.1 h2.2.1
  rw [List.filter_append, List.filter_cons]
  simp only [bne_self_eq_false, Bool.false_eq_true, if_false]
  rw [List.filter_eq_self.2, List.filter_eq_self.2]
  · intro k hk; simp; rintro rfl; exact h3.1 hk
  · intro k hk; simp; rintro rfl; exact h2.2.2 k hk k (by simp) rfl

theorem Res.wp {o : Oper} {a : Act} {w : World} {R : Value → World → Prop} {next : Act → World → Prop} {Q : Exit → Act → World → Prop} (h : Res P o a w R) (hn : ∀ u w', R u w' → next (a.put o.dst u) w') : o.wp P a w next Q := by
  unfold Res at h
  unfold Oper.wp
  generalize (execOp a.eval o).run P w = r at *
  cases r with
  | ok x w' =>
    cases x <;> simp only [Oper.upon] at h ⊢
    case value u => exact hn _ _ h
    case skip => exact hn _ _ h
    case enter f args =>
      refine Calls.mono h fun e w'' he => ?_
      cases e with
      | returned u => exact hn _ _ he
      | panicked c => exact he.elim
      | outgrown => exact he.elim
    case row row args => exact Rows.mono h fun u w'' he => hn _ _ he
  | halt x w' => cases x <;> exact h.elim

theorem grow_any (H : HeadOk ops K n) (refl : ∀ w, Ext w w) (trans : ∀ {a b c}, Ext a b → Ext b c → Ext a c) {Q : Exit → Act → World → Prop} {tail : List Oper}
    (hT : ∀ listed, HeadInv .any ops n listed → ∀ i, i < n → listed.getD i true = false → ∀ j ∈ Region.ready .any ops listed, j < n)
    (hE : ∀ listed, HeadInv .any ops n listed → (∀ i, i < n → listed.getD i false = true) → ∀ a w, wpList P ops Q tail a w → wpAny P .any ops Q tail.length listed a w) (tmps : Nat) (ht : ∀ i o d, i < n → ops[i]? = some o → o.dst = some d → d < tmps) :
    ∀ (m : Nat) (listed : Array Bool) (a : Act) (w : World), (unl n listed).length = m → HeadInv .any ops n listed → a.tmps.size = tmps →
      SeqG P ops Ext w0 K (fun a' => ∀ w', Ext w0 w' → (∀ j, j < n → Held ops Ext w0 K j a' w') → wpList P ops Q tail a' w') (unl n listed) a → Ext w0 w → (∀ j, j < n → listed.getD j false = true → Held ops Ext w0 K j a w) →
      wpAny P .any ops Q (m + tail.length) listed a w := by
  intro m
  induction m with
  | zero =>
    intro listed a w hm inv hz hs hx hh
    rw [List.length_eq_zero_iff] at hm
    rw [hm] at hs
    have hall : ∀ i, i < n → listed.getD i false = true := fun i hi => by
      cases hl : listed.getD i false with
      | true => rfl
      | false =>
        have : i ∈ unl n listed := mem_unl.2 ⟨hi, getD_in (by rw [inv.size]; exact Nat.lt_of_lt_of_le hi H.le) hl⟩
        rw [hm] at this
        cases this
    rw [Nat.zero_add]
    exact hE listed inv hall a w (hs w hx fun j hj => hh j hj (hall j hj))
  | succ m ih =>
    intro listed a w hm inv hz hs hx hh
    have hne : ∃ i0, i0 ∈ unl n listed := by
      cases hu : unl n listed with
      | nil => rw [hu] at hm; cases hm
      | cons x t => exact ⟨x, by simp⟩
    obtain ⟨i0, hi0⟩ := hne
    have hlt : ∀ j ∈ Region.ready .any ops listed, j < n := hT listed inv i0 (mem_unl.1 hi0).1 (mem_unl.1 hi0).2
    rw [show m + 1 + tail.length = (m + tail.length) + 1 by omega]
    have main : ∀ i ∈ Region.ready .any ops listed, wpOp P ops Q i (wpAny P .any ops Q (m + tail.length) (listed.setIfInBounds i true)) a w := by
      intro i hr
      have hin := hlt i hr
      obtain ⟨hun, oi, hoi, hall⟩ := mem_ready.1 hr
      have hisz : i < listed.size := by rw [inv.size]; exact Nat.lt_of_lt_of_le hin H.le
      obtain ⟨pre, post, hu⟩ := List.append_of_mem (mem_unl.2 ⟨hin, hun⟩)
      have hwl : ∀ k, waits ops i k = true → listed.getD k false = true := fun k hk => waitsN_listed inv.closed ops.size i (fun o ho => by
        obtain rfl : o = oi := Option.some.inj (ho.symm.trans hoi)
        exact hall) hk
      have hsort : ((unl n listed)).Pairwise (· < ·) := List.Pairwise.filter _ List.pairwise_lt_range
      rw [hu] at hsort
      have hlt' : ∀ k ∈ pre, k < i := fun k hk => (List.pairwise_append.1 hsort).2.2 k hk i (by simp)
      have hpre : ∀ k ∈ pre, k < n ∧ k ≠ i ∧ waits ops i k = false ∧ waits ops k i = false := fun k hk => by
        have hku := mem_unl.1 (show k ∈ unl n listed by rw [hu]; simp [hk])
        have hki := hlt' k hk
        refine ⟨hku.1, by omega, ?_, ?_⟩
        · cases hw : waits ops i k with
          | false => rfl
          | true => have h1 := hwl k hw; rw [getD_both hku.2] at h1; cases h1
        · cases hw : waits ops k i with
          | false => rfl
          | true => have := H.ord k i hku.1 hin hw; omega
      have hcls : Cls ops Ext w0 K i a w := ⟨hx, fun j hj hw => hh j (by omega) (hwl j hw)⟩
      rw [hu] at hs
      obtain ⟨V, hV, hrest⟩ := SeqG.extract H hin hoi pre a hpre hcls hs
      have hul := unl_set hisz hu
      have hlen : (unl n (listed.setIfInBounds i true)).length = m := by
        rw [hul]
        rw [hu] at hm
        simp only [List.length_append, List.length_cons] at hm ⊢
        omega
      have go : ∀ v w', V v → Ext w w' → (∀ V0 Φ, K i = .act V0 Φ → Φ (rv oi.dst v) w') → wpAny P .any ops Q (m + tail.length) (listed.setIfInBounds i true) (a.put oi.dst v) w' := by
        intro v w' hv hxx hΦ
        refine ih _ _ _ hlen (inv.set hr hin) (by rw [Act.put_size]; exact hz) (by rw [hul]; exact hrest v hv) (trans hx hxx) fun j hj hl => ?_
        by_cases hji : i = j
        · subst hji
          intro V0 Φ o hK ho
          obtain rfl : o = oi := Option.some.inj (ho.symm.trans hoi)
          refine ⟨w', trans hx hxx, ?_, refl w'⟩
          have h9 := hΦ V0 Φ hK
          cases hd : o.dst with
          | none => rw [hd] at h9; exact h9
          | some d =>
            rw [hd] at h9
            rw [Act.val_put_eq (by rw [hz]; exact ht i o d hin ho hd)]
            exact h9
        · rw [getD_set_ne false hji] at hl
          refine (Held.put fun o ho d hd => H.dst i j oi o d hin hj hji hoi ho hd).2 ?_
          intro V0 Φ o hK ho
          obtain ⟨w1, h1, h2, h3⟩ := hh j hj hl V0 Φ o hK ho
          exact ⟨w1, h1, h2, trans h3 hxx⟩
      unfold wpOp
      simp only [hoi]
      unfold Spec at hV
      split
      · rename_i hw
        rw [if_pos hw] at hV
        refine .inl ?_
        cases hK : K i with
        | val =>
          rw [hK] at hV
          obtain ⟨v, rfl, h1⟩ := hV
          unfold Oper.wp
          rw [h1 w hcls]
          exact go v w rfl (refl w) (fun V0 Φ h => by rw [hK] at h; cases h)
        | con c =>
          rw [hK] at hV
          obtain ⟨rfl, h1⟩ := hV
          refine (h1 w hcls).wp fun u w' hu => ?_
          exact go u w' hu.1 hu.2 (fun V0 Φ h => by rw [hK] at h; cases h)
        | act V1 Φ0 =>
          rw [hK] at hV
          obtain ⟨_, rfl, h1⟩ := hV
          refine (h1 w hcls).wp fun u w' hu => ?_
          refine go u w' hu.1 hu.2.1 (fun V0 Φ h => ?_)
          rw [hK] at h
          obtain ⟨rfl, rfl⟩ := Kd.act.inj h
          exact hu.2.2
      · rename_i hw
        rw [if_neg hw] at hV
        subst hV
        refine go undef w rfl (refl w) (fun V0 Φ h => ?_)
        have hg := H.act i V0 Φ oi hin h hoi
        simp [Region.wanted, hg] at hw
    refine ⟨fun h0 => ?_, main⟩
    exfalso
    have hmin : ∃ i, i ∈ unl n listed ∧ ∀ k ∈ unl n listed, i ≤ k := by
      cases hu : unl n listed with
      | nil => rw [hu] at hm; cases hm
      | cons x t =>
        refine ⟨x, by simp, fun k hk => ?_⟩
        have hsort : ((unl n listed)).Pairwise (· < ·) := List.Pairwise.filter _ List.pairwise_lt_range
        rw [hu] at hsort
        rcases List.mem_cons.1 hk with rfl | hk
        · exact Nat.le_refl _
        · exact Nat.le_of_lt ((List.pairwise_cons.1 hsort).1 k hk)
    obtain ⟨i, hi, hmin⟩ := hmin
    have hiu := mem_unl.1 hi
    have hisz : i < ops.size := Nat.lt_of_lt_of_le hiu.1 H.le
    have : i ∈ Region.ready .any ops listed := mem_ready.2 ⟨hiu.2, ops[i], Array.getElem?_eq_getElem hisz, fun e he hb => ?_⟩
    · rw [h0] at this; cases this
    · have hlt := H.edge i _ hiu.1 (Array.getElem?_eq_getElem hisz) e he hb
      cases hl : listed.getD e.on false with
      | true => rfl
      | false =>
        have := hmin e.on (mem_unl.2 ⟨by omega, getD_in (by rw [inv.size]; omega) hl⟩)
        omega

def canon (n m : Nat) : Array Bool := Array.replicate n true ++ Array.replicate m false
theorem canon_of {listed : Array Bool} (hn : n ≤ ops.size) (inv : HeadInv .any ops n listed) (h : ∀ i, i < n → listed.getD i false = true) : listed = canon n (ops.size - n) := by
  refine Array.ext (by rw [inv.size]; simp [canon]; omega) fun i h1 h2 => ?_
  by_cases hi : i < n
  · have := h i hi
    rw [Array.getD_eq_getD_getElem?, Array.getElem?_eq_getElem h1] at this
    simp only [Option.getD_some] at this
    rw [this]
    simp [canon, Array.getElem_append, hi]
  · have := inv.tail i (by omega) (by rw [← inv.size]; exact h1)
    rw [Array.getD_eq_getD_getElem?, Array.getElem?_eq_getElem h1] at this
    simp only [Option.getD_some] at this
    rw [this]
    simp [canon, Array.getElem_append, hi]
def growB (ops : Array Oper) (K : Nat → Kd) (n : Nat) : Bool :=
  headB ops K n && Region.seqB .any ops (ops.size - n) n (canon n (ops.size - n)) && (decide (n = ops.size) || (decide (n < ops.size) && Region.sinkB .any ops n && Region.chainB .any ops n))
def sizesB (l : List Oper) (m : Nat) : Bool := l.all fun o => match o.dst with | none => true | some d => decide (d < m)
/-- The walk in the order of the text, over the operations themselves. -/
def SeqL (P : Program) (ops : Array Oper) (Ext : World → World → Prop) (w0 : World) (K : Nat → Kd) (Fin : Act → Prop) : Nat → List Oper → Act → Prop
  | _, [], a => Fin a
  | k, o :: rest, a => ∃ V, Spec P ops Ext w0 K k o a V ∧ ∀ v, V v → SeqL P ops Ext w0 K Fin (k + 1) rest (a.put o.dst v)
theorem SeqL.seq {Fin : Act → Prop} : ∀ (l : List Oper) (k : Nat) (a : Act), (∀ j, j < l.length → l[j]? = ops[k + j]?) → SeqL P ops Ext w0 K Fin k l a → SeqG P ops Ext w0 K Fin (List.range' k l.length) a
  | [], k, a, _, h => h
  | o :: l, k, a, hl, h => by
    obtain ⟨V, h1, h2⟩ := h
    rw [List.length_cons, List.range'_succ]
    refine ⟨o, by simpa using (hl 0 (by simp)).symm, V, h1, fun v hv => ?_⟩
    exact SeqL.seq l (k + 1) _ (fun j hj => by have := hl (j + 1) (by simp; omega); simpa [Nat.add_assoc, Nat.add_comm 1 j] using this) (h2 v hv)

theorem wp_region_grow {id : Nat} {Q : Exit → Act → World → Prop} {a : Act} {w : World} {l : List Oper} (n : Nat) (kl : List (Nat × Kd)) (Ext : World → World → Prop) (refl : ∀ w, Ext w w) (trans : ∀ {a b c}, Ext a b → Ext b c → Ext a c) (h0 : Ext w w.drew) (hm : P.follows .mixedOrders = true)
    (hB : growB l.toArray (kds kl) n = true) (hz : sizesB (l.take n) a.tmps.size = true)
    (h : SeqL P l.toArray Ext w (kds kl) (fun a' => ∀ w', Ext w w' → (∀ j, j < n → Held l.toArray Ext w (kds kl) j a' w') → wpList P l.toArray Q (l.drop n) a' w') 0 (l.take n) a) : (Code.region id l.toArray true).wp P Q a w := by
  simp only [growB, Bool.and_eq_true, Bool.or_eq_true, decide_eq_true_eq] at hB
  obtain ⟨⟨hH, hS⟩, hE⟩ := hB
  have H := HeadOk.of hH
  have hle : n ≤ l.length := by simpa using H.le
  have htl : (l.take n).length = n := by simp; omega
  refine wp_region_any hm ?_
  have inv0 : HeadInv .any l.toArray n (Array.replicate l.toArray.size false) :=
    ⟨by simp, fun j oj _ hl => (by rw [getD_replicate_false] at hl; cases hl), fun t _ ht => getD_in (by simpa using ht) (getD_replicate_false _ _)⟩
  have hu : unl n (Array.replicate l.toArray.size false) = List.range n := by
    unfold unl
    refine List.filter_eq_self.2 fun i hi => ?_
    rw [getD_in (by simp; have := List.mem_range.1 hi; omega) (getD_replicate_false _ _)]
    rfl
  have h' := SeqL.seq (l.take n) 0 a (fun j hj => by rw [htl] at hj; simp [hj]) h
  rw [htl, ← List.range_eq_range'] at h'
  have := grow_any (K := kds kl) (w0 := w) (tail := l.drop n) (Q := Q) H refl trans (fun listed inv i hi hun j hj => ?_) (fun listed inv hall a' w' hw => ?_) a.tmps.size (fun i o d hi ho hd => ?_) n _ a w.drew (by rw [hu]; simp) inv0 rfl (by rw [hu]; exact h') h0 (fun j hj hl => by rw [getD_replicate_false] at hl; cases hl)
  · rw [show n + (l.drop n).length = l.toArray.size by simp; omega] at this
    exact this
  · rcases hE with hE | ⟨⟨hn, hs⟩, hc⟩
    · obtain ⟨_, oj, hoj, _⟩ := mem_ready.1 hj
      rw [hE]
      exact (Array.getElem?_eq_some_iff.1 hoj).1
    · rcases Nat.lt_or_ge j n with h1 | h1
      · exact h1
      · exact absurd hj (tail_waits hs hc hn inv _ i rfl hi hun j h1)
  · rw [canon_of H.le inv hall]
    refine wpAny_of_seq (l.drop n) n _ a' w' (fun j => by simp [List.getElem?_drop]) ?_ hw
    rw [show (l.drop n).length = l.toArray.size - n by simp]
    exact hS
  · have hm' : o ∈ l.take n := by
      have hio : l[i]? = some o := by simpa using ho
      have : (l.take n)[i]? = some o := by rw [List.getElem?_take, if_pos hi]; exact hio
      exact List.mem_of_getElem? this
    have := List.all_eq_true.1 hz o hm'
    rw [hd] at this
    simpa using this
end

/-! ### The steps of a walk -/
section
variable {P : Program} {ops : Array Oper} {Ext : World → World → Prop} {w0 : World} {K : Nat → Kd} {Fin : Act → Prop} {k : Nat} {o : Oper} {rest : List Oper} {a : Act}
theorem SeqL.nil (h : Fin a) : SeqL P ops Ext w0 K Fin k [] a := h
theorem SeqL.val {S : World → Prop} {v : Value} (hS : ∀ w, Ext w0 w → S w) (hK : K k = .val) (hw : Region.wanted o (yielded ops a.tmps) = true) (h : ∀ w, S w → (execOp a.eval o).run P w = .ok (.value v) w)
    (hn : SeqL P ops Ext w0 K Fin (k + 1) rest (a.put o.dst v)) : SeqL P ops Ext w0 K Fin k (o :: rest) a := by
  refine ⟨fun u => u = v, ?_, fun u hu => by rw [hu]; exact hn⟩
  unfold Spec
  rw [if_pos hw, hK]
  exact ⟨v, rfl, fun w hc => h w (hS w hc.1)⟩
theorem SeqL.valc {v : Value} (hK : K k = .val) (hw : Region.wanted o (yielded ops a.tmps) = true) (h : ∀ w, Ext w0 w → (∀ j, j < k → waits ops k j = true → Held ops Ext w0 K j a w) → (execOp a.eval o).run P w = .ok (.value v) w)
    (hn : SeqL P ops Ext w0 K Fin (k + 1) rest (a.put o.dst v)) : SeqL P ops Ext w0 K Fin k (o :: rest) a := by
  refine ⟨fun u => u = v, ?_, fun u hu => by rw [hu]; exact hn⟩
  unfold Spec
  rw [if_pos hw, hK]
  exact ⟨v, rfl, fun w hc => h w hc.1 hc.2⟩
theorem SeqL.skip (hw : Region.wanted o (yielded ops a.tmps) = false) (hn : SeqL P ops Ext w0 K Fin (k + 1) rest (a.put o.dst undef)) : SeqL P ops Ext w0 K Fin k (o :: rest) a := by
  refine ⟨fun u => u = undef, ?_, fun u hu => by rw [hu]; exact hn⟩
  unfold Spec
  rw [if_neg (by rw [hw]; simp)]
theorem Res.of {d : Tmp} {w : World} {R : Value → World → Prop} (hd : o.dst = some d) (hs : d < a.tmps.size) (h : o.wp P a w (fun a' w' => ∃ u, a' = a.put o.dst u ∧ R u w') (fun _ _ _ => False)) : Res P o a w R := by
  have inj : ∀ u u', a.put o.dst u = a.put o.dst u' → u = u' := fun u u' e => by
    have := congrArg (fun x => Act.val x (some d)) e
    simp only [hd] at this
    rwa [Act.val_put_eq hs, Act.val_put_eq hs] at this
  unfold Oper.wp at h
  unfold Res
  generalize (execOp a.eval o).run P w = r at *
  cases r with
  | ok x w' =>
    cases x <;> simp only [Oper.upon] at h ⊢
    case value u => obtain ⟨u', h1, h2⟩ := h; rw [inj _ _ h1]; exact h2
    case skip => obtain ⟨u', h1, h2⟩ := h; rw [inj _ _ h1]; exact h2
    case defer dd =>
      obtain ⟨u', h1, _⟩ := h
      have := congrArg (fun x => x.defers.length) h1
      rw [hd] at this
      simp [Act.put] at this
    case enter f args =>
      refine Calls.mono h fun e w'' he => ?_
      cases e with
      | returned u => obtain ⟨u', h1, h2⟩ := he; rw [inj _ _ h1]; exact h2
      | panicked c => exact he.elim
      | outgrown => obtain ⟨_, _, h⟩ := he; exact h
    case row row args => exact Rows.mono h fun u w'' ⟨u', h1, h2⟩ => by rw [inj _ _ h1]; exact h2
  | halt x w' => cases x <;> exact h
theorem SeqL.con {d : Tmp} {c : Value} (hK : K k = .con c) (hd : o.dst = some d) (hs : decide (d < a.tmps.size) = true) (hw : Region.wanted o (yielded ops a.tmps) = true)
    (h : ∀ w, Ext w0 w → (∀ j, j < k → waits ops k j = true → Held ops Ext w0 K j a w) → ∀ K' : Act → World → Prop, Hid (∀ w', Ext w w' → K' (a.put o.dst c) w') → o.wp P a w K' (fun _ _ _ => False))
    (hn : SeqL P ops Ext w0 K Fin (k + 1) rest (a.put o.dst c)) : SeqL P ops Ext w0 K Fin k (o :: rest) a := by
  refine ⟨fun u => u = c, ?_, fun u hu => by rw [hu]; exact hn⟩
  unfold Spec
  rw [if_pos hw, hK]
  exact ⟨rfl, fun w hc => Res.of hd (of_decide_eq_true hs) (h w hc.1 hc.2 _ (fun w' hx => ⟨c, rfl, rfl, hx⟩))⟩
theorem SeqL.act {d : Tmp} {V : Value → Prop} {Φ : Value → World → Prop} (hK : K k = .act V Φ) (hd : o.dst = some d) (hs : decide (d < a.tmps.size) = true) (hw : Region.wanted o (yielded ops a.tmps) = true) (hV : ∃ v, V v)
    (h : ∀ w, Ext w0 w → (∀ j, j < k → waits ops k j = true → Held ops Ext w0 K j a w) → ∀ K' : Act → World → Prop, Hid (∀ u w', V u → Ext w w' → Φ u w' → K' (a.put o.dst u) w') → o.wp P a w K' (fun _ _ _ => False))
    (hn : ∀ u, V u → SeqL P ops Ext w0 K Fin (k + 1) rest (a.put o.dst u)) : SeqL P ops Ext w0 K Fin k (o :: rest) a := by
  refine ⟨V, ?_, hn⟩
  unfold Spec
  rw [if_pos hw, hK]
  exact ⟨hV, rfl, fun w hc => Res.of hd (of_decide_eq_true hs) (h w hc.1 hc.2 _ (fun u w' hv hx hΦ => ⟨u, rfl, hv, hx, by rw [hd]; exact hΦ⟩))⟩
end
/-- Shapes of values. -/
def IsSlice (v : Value) : Prop := ∃ a n c, v = .slice a n c
theorem isSlice : ∃ v, IsSlice v := ⟨_, none, 0, 0, rfl⟩
def IsPtr (v : Value) : Prop := ∃ b, v = .pointer (some ⟨b, 0, none⟩)
theorem isPtr : ∃ v, IsPtr v := ⟨_, 0, rfl⟩
theorem Kept.drew1 (S : Nat → Prop) (w : World) : Kept S w w.drew := (Kept.refl S w).drew
theorem Kept.tr {S : Nat → Prop} {a b c : World} (h : Kept S a b) (k : Kept S b c) : Kept S a c := h.trans k fun _ h => .inl h
theorem wp_region_kept {P : Program} {id : Nat} {Q : Exit → Act → World → Prop} {a : Act} {w : World} {l : List Oper} (n : Nat) (kl : List (Nat × Kd)) (S : Nat → Prop) (hm : P.follows .mixedOrders = true)
    (hB : growB l.toArray (kds kl) n = true) (hz : sizesB (l.take n) a.tmps.size = true)
    (h : SeqL P l.toArray (Kept S) w (kds kl) (fun a' => ∀ w', Kept S w w' → (∀ j, j < n → Held l.toArray (Kept S) w (kds kl) j a' w') → wpList P l.toArray Q (l.drop n) a' w') 0 (l.take n) a) : (Code.region id l.toArray true).wp P Q a w :=
  wp_region_grow n kl (Kept S) (Kept.refl S) Kept.tr (Kept.drew1 S w) hm hB hz h
end Go.Proofs.Ytaopjdjbpamhhaa
