/- Proved: a law for a region that draws its order and whose operations that change the world wait for one another: one walk in the order of the text serves every order, the worlds being exact; no program is named. No condition. -/
import Derived.Test.YtaopjdjbpamhhaaGrow
namespace Go.Proofs.Ytaopjdjbpamhhaa
open Go Go.RowKit
set_option linter.unusedVariables false
set_option linter.unusedSimpArgs false

def SpecX (P : Program) (ops : Array Oper) (S : World → Prop) (K : Nat → Bool) (i : Nat) (o : Oper) (a : Act) (w : World) (next : Value → World → Prop) : Prop :=
  if Region.wanted o (yielded ops a.tmps) = true then
    match K i with
    | true => Res P o a w fun u w' => S w' ∧ next u w'
    | false => ∃ v, (∀ w, S w → (execOp a.eval o).run P w = .ok (.value v) w) ∧ next v w
  else next undef w
def SeqX (P : Program) (ops : Array Oper) (S : World → Prop) (K : Nat → Bool) (Fin : Act → World → Prop) : List Nat → Act → World → Prop
  | [], a, w => Fin a w
  | i :: rest, a, w => ∃ o, ops[i]? = some o ∧ SpecX P ops S K i o a w fun u w' => SeqX P ops S K Fin rest (a.put o.dst u) w'
structure ChainOk (ops : Array Oper) (K : Nat → Bool) (n : Nat) : Prop where
  head : HeadOk ops (fun _ => .val) n
  chain : ∀ i j, i < j → j < n → K i = true → K j = true → waits ops j i = true
def chainOkB (ops : Array Oper) (K : Nat → Bool) (n : Nat) : Bool :=
  headB ops (fun _ => .val) n && (List.range n).all fun j => (List.range j).all fun i => !K i || !K j || waits ops j i
theorem ChainOk.of {ops : Array Oper} {K : Nat → Bool} {n : Nat} (h : chainOkB ops K n = true) : ChainOk ops K n := by
  simp only [chainOkB, Bool.and_eq_true, List.all_eq_true, List.mem_range, Bool.or_eq_true, Bool.not_eq_true'] at h
  refine ⟨HeadOk.of h.1, fun i j hij hj hi hk => ?_⟩
  rcases h.2 j hj i hij with (h | h) | h
  · rw [hi] at h; cases h
  · rw [hk] at h; cases h
  · exact h
section
variable {P : Program} {ops : Array Oper} {S : World → Prop} {K : Nat → Bool} {n : Nat} {Fin : Act → World → Prop}

theorem Res.mono {o : Oper} {a : Act} {w : World} {R R' : Value → World → Prop} (h : Res P o a w R) (hr : ∀ u w', R u w' → R' u w') : Res P o a w R' := by
  unfold Res at *
  generalize (execOp a.eval o).run P w = r at *
  cases r with
  | ok x w' =>
    cases x <;> simp only at h ⊢
    case value u => exact hr _ _ h
    case skip => exact hr _ _ h
    case enter f args =>
      refine Calls.mono h fun e w'' he => ?_
      cases e with
      | returned u => exact hr _ _ he
      | panicked c => exact he.elim
      | outgrown => exact he.elim
    case row row args => exact Rows.mono h fun u w'' he => hr _ _ he
  | halt x w' => cases x <;> exact h.elim
theorem Res.some {o : Oper} {a : Act} {w : World} {R : Value → World → Prop} (h : Res P o a w R) : ∃ u w', R u w' := by
  unfold Res at h
  generalize (execOp a.eval o).run P w = r at *
  cases r with
  | ok x w' =>
    cases x <;> simp only at h
    case value u => exact ⟨_, _, h⟩
    case skip => exact ⟨_, _, h⟩
    case enter f args =>
      obtain ⟨e, w'', fr, he, _⟩ := h []
      cases e with
      | returned u => exact ⟨_, _, he⟩
      | panicked c => exact he.elim
      | outgrown => exact he.elim
    case row row args =>
      obtain ⟨v, w'', hv, _⟩ := h (Frame.ofRow P row args .normal) []
      exact ⟨_, _, hv⟩
  | halt x w' => cases x <;> exact h.elim

theorem HeadOk.apart (H : HeadOk ops (fun _ => .val) n) {i k : Nat} {oi ok : Oper} (hi : i < n) (hk : k < n) (hoi : ops[i]? = some oi) (hok : ops[k]? = some ok) (hik : waits ops i k = false) (a : Act) (v : Value) :
    execOp (a.put ok.dst v).eval oi = execOp a.eval oi ∧ Region.wanted oi (yielded ops (a.put ok.dst v).tmps) = Region.wanted oi (yielded ops a.tmps) := by
  have hl : ∀ d, ok.dst = some d → d ∉ oi.looksAt ops := fun d hd hm => by rw [H.look i k oi ok d hi hk hoi hok hd hm] at hik; cases hik
  exact ⟨execOp_put (ops := ops) oi (fun cs b => Region.noSelect_spec H.nosel i oi cs b hoi) a ok.dst v hl, wanted_put (ops := ops) oi a ok.dst v hl⟩
theorem Res.congr {o : Oper} {a a' : Act} {w : World} {R : Value → World → Prop} (e : execOp a'.eval o = execOp a.eval o) : Res P o a' w R ↔ Res P o a w R := by unfold Res; rw [e]

/-- A plain operation that is ready may come up first. -/
theorem SeqX.val (H : HeadOk ops (fun _ => .val) n) {i : Nat} {oi : Oper} (hi : i < n) (hoi : ops[i]? = some oi) {post : List Nat} : ∀ (pre : List Nat) (a : Act) (w : World), S w → (∀ k ∈ pre, k < n ∧ k ≠ i ∧ waits ops i k = false ∧ waits ops k i = false) →
    (Region.wanted oi (yielded ops a.tmps) = true → K i = false) → SeqX P ops S K Fin (pre ++ i :: post) a w →
    ∃ v, ((Region.wanted oi (yielded ops a.tmps) = true ∧ ∀ w, S w → (execOp a.eval oi).run P w = .ok (.value v) w) ∨ (Region.wanted oi (yielded ops a.tmps) = false ∧ v = undef)) ∧ SeqX P ops S K Fin (pre ++ post) (a.put oi.dst v) w
  | [], a, w, hw, _, hK, h => by
    obtain ⟨o, ho, hs⟩ := h
    obtain rfl : o = oi := Option.some.inj (ho.symm.trans hoi)
    unfold SpecX at hs
    split at hs
    · rename_i hwt
      rw [hK hwt] at hs
      obtain ⟨v, h1, h2⟩ := hs
      exact ⟨v, .inl ⟨hwt, h1⟩, h2⟩
    · rename_i hwt
      exact ⟨undef, .inr ⟨by simpa using hwt, rfl⟩, hs⟩
  | k :: pre, a, w, hSw, hp, hK, h => by
    obtain ⟨ok, hok, hs⟩ := h
    obtain ⟨hkn, hki, hik, hwk⟩ := hp k (by simp)
    have ap := fun v => H.apart hi hkn hoi hok hik a v
    have ak := fun v => H.apart hkn hi hok hoi hwk a v
    have ih : ∀ vk w', S w' → SeqX P ops S K Fin (pre ++ i :: post) (a.put ok.dst vk) w' → ∃ v, ((Region.wanted oi (yielded ops a.tmps) = true ∧ ∀ w, S w → (execOp a.eval oi).run P w = .ok (.value v) w) ∨ (Region.wanted oi (yielded ops a.tmps) = false ∧ v = undef)) ∧ SeqX P ops S K Fin (pre ++ post) ((a.put oi.dst v).put ok.dst vk) w' := fun vk w' hSw' h => by
      obtain ⟨v, h1, h2⟩ := SeqX.val H hi hoi pre (a.put ok.dst vk) w' hSw' (fun k' hk' => hp k' (by simp [hk'])) (by rw [(ap vk).2]; exact hK) h
      rw [(ap vk).1, (ap vk).2] at h1
      refine ⟨v, h1, ?_⟩
      rw [Act.put_comm a v vk (fun d hd => H.dst i k oi ok d hi hkn (Ne.symm hki) hoi hok hd)]
      exact h2
    have uniq : ∀ v v', ((Region.wanted oi (yielded ops a.tmps) = true ∧ ∀ w, S w → (execOp a.eval oi).run P w = .ok (.value v) w) ∨ (Region.wanted oi (yielded ops a.tmps) = false ∧ v = undef)) → ((Region.wanted oi (yielded ops a.tmps) = true ∧ ∀ w, S w → (execOp a.eval oi).run P w = .ok (.value v') w) ∨ (Region.wanted oi (yielded ops a.tmps) = false ∧ v' = undef)) → v = v' := by
      rintro v v' (⟨h1, h2⟩ | ⟨h1, rfl⟩) (⟨h3, h4⟩ | ⟨h3, rfl⟩)
      · have := (h2 w hSw).symm.trans (h4 w hSw)
        simpa using this
      · rw [h1] at h3; cases h3
      · rw [h1] at h3; cases h3
      · rfl
    unfold SpecX at hs
    have asm : ∀ v, SpecX P ops S K k ok (a.put oi.dst v) w (fun u w' => SeqX P ops S K Fin (pre ++ post) ((a.put oi.dst v).put ok.dst u) w') → SeqX P ops S K Fin (k :: pre ++ post) (a.put oi.dst v) w := fun v h => ⟨ok, hok, h⟩
    split at hs
    · rename_i hwt
      cases hKk : K k with
      | true =>
        rw [hKk] at hs
        obtain ⟨u0, w0, hS0, h0⟩ := hs.some
        obtain ⟨v, h1, _⟩ := ih u0 w0 hS0 h0
        refine ⟨v, h1, asm v ?_⟩
        unfold SpecX
        rw [(ak v).2, if_pos hwt, hKk]
        refine (Res.congr (ak v).1).2 (hs.mono fun u w' hu => ⟨hu.1, ?_⟩)
        obtain ⟨v', h3, h4⟩ := ih u w' hu.1 hu.2
        obtain rfl := uniq v v' h1 h3
        exact h4
      | false =>
        rw [hKk] at hs
        obtain ⟨vk, h3, h4⟩ := hs
        obtain ⟨v, h1, h2⟩ := ih vk w hSw h4
        refine ⟨v, h1, asm v ?_⟩
        unfold SpecX
        rw [(ak v).2, if_pos hwt, hKk]
        exact ⟨vk, by rw [(ak v).1]; exact h3, h2⟩
    · rename_i hwt
      obtain ⟨v, h1, h2⟩ := ih undef w hSw hs
      refine ⟨v, h1, asm v ?_⟩
      unfold SpecX
      rw [(ak v).2, if_neg hwt]
      exact h2

/-- An operation that changes the world may come up where only plain ones are ahead. -/
theorem SeqX.act (H : HeadOk ops (fun _ => .val) n) {i : Nat} {oi : Oper} (hi : i < n) (hoi : ops[i]? = some oi) (hKi : K i = true) {post : List Nat} : ∀ (pre : List Nat) (a : Act) (w : World), (∀ k ∈ pre, k < n ∧ k ≠ i ∧ waits ops i k = false ∧ waits ops k i = false ∧ K k = false) →
    Region.wanted oi (yielded ops a.tmps) = true → SeqX P ops S K Fin (pre ++ i :: post) a w →
    Res P oi a w fun u w' => S w' ∧ SeqX P ops S K Fin (pre ++ post) (a.put oi.dst u) w'
  | [], a, w, _, hwt, h => by
    obtain ⟨o, ho, hs⟩ := h
    obtain rfl : o = oi := Option.some.inj (ho.symm.trans hoi)
    unfold SpecX at hs
    rw [if_pos hwt, hKi] at hs
    exact hs
  | k :: pre, a, w, hp, hwt, h => by
    obtain ⟨ok, hok, hs⟩ := h
    obtain ⟨hkn, hki, hik, hwk, hKk⟩ := hp k (by simp)
    have ap := fun v => H.apart hi hkn hoi hok hik a v
    have ak := fun v => H.apart hkn hi hok hoi hwk a v
    have ih : ∀ vk, SeqX P ops S K Fin (pre ++ i :: post) (a.put ok.dst vk) w → Res P oi a w fun u w' => S w' ∧ SeqX P ops S K Fin (pre ++ post) ((a.put oi.dst u).put ok.dst vk) w' := fun vk h => by
      have := SeqX.act H hi hoi hKi pre (a.put ok.dst vk) w (fun k' hk' => hp k' (by simp [hk'])) (by rw [(ap vk).2]; exact hwt) h
      refine ((Res.congr (ap vk).1).1 this).mono fun u w' hu => ⟨hu.1, ?_⟩
      rw [Act.put_comm a u vk (fun d hd => H.dst i k oi ok d hi hkn (Ne.symm hki) hoi hok hd)]
      exact hu.2
    unfold SpecX at hs
    split at hs
    · rename_i hwk'
      rw [hKk] at hs
      obtain ⟨vk, h3, h4⟩ := hs
      refine (ih vk h4).mono fun u w' hu => ⟨hu.1, ok, hok, ?_⟩
      unfold SpecX
      rw [(ak u).2, if_pos hwk', hKk]
      exact ⟨vk, by rw [(ak u).1]; exact h3, hu.2⟩
    · rename_i hwk'
      refine (ih undef hs).mono fun u w' hu => ⟨hu.1, ok, hok, ?_⟩
      unfold SpecX
      rw [(ak u).2, if_neg hwk']
      exact hu.2

theorem chain_any (H : ChainOk ops K n) {Q : Exit → Act → World → Prop} {tail : List Oper} (hFin : ∀ a w, S w → Fin a w → wpList P ops Q tail a w)
    (hT : ∀ listed, HeadInv .any ops n listed → ∀ i, i < n → listed.getD i true = false → ∀ j ∈ Region.ready .any ops listed, j < n)
    (hE : ∀ listed, HeadInv .any ops n listed → (∀ i, i < n → listed.getD i false = true) → ∀ a w, wpList P ops Q tail a w → wpAny P .any ops Q tail.length listed a w) :
    ∀ (m : Nat) (listed : Array Bool) (a : Act) (w : World), (unl n listed).length = m → HeadInv .any ops n listed → SeqX P ops S K Fin (unl n listed) a w → S w →
      wpAny P .any ops Q (m + tail.length) listed a w := by
  intro m
  induction m with
  | zero =>
    intro listed a w hm inv hs hSw
    rw [List.length_eq_zero_iff] at hm
    rw [hm] at hs
    have hall : ∀ i, i < n → listed.getD i false = true := fun i hi => by
      cases hl : listed.getD i false with
      | true => rfl
      | false =>
        have : i ∈ unl n listed := mem_unl.2 ⟨hi, getD_in (by rw [inv.size]; exact Nat.lt_of_lt_of_le hi H.head.le) hl⟩
        rw [hm] at this
        cases this
    rw [Nat.zero_add]
    exact hE listed inv hall a w (hFin a w hSw hs)
  | succ m ih =>
    intro listed a w hm inv hs hSw
    have hne : ∃ i0, i0 ∈ unl n listed := by
      cases hu : unl n listed with
      | nil => rw [hu] at hm; cases hm
      | cons x t => exact ⟨x, by simp⟩
    obtain ⟨i0, hi0⟩ := hne
    have hlt : ∀ j ∈ Region.ready .any ops listed, j < n := hT listed inv i0 (mem_unl.1 hi0).1 (mem_unl.1 hi0).2
    rw [show m + 1 + tail.length = (m + tail.length) + 1 by omega]
    have main : ∀ i ∈ Region.ready .any ops listed, wpOp P ops Q i (wpAny P .any ops Q (m + tail.length) (listed.setIfInBounds i true)) a w := by
      intro i hr
      have hin := hlt i hr
      obtain ⟨hun, oi, hoi, hall⟩ := mem_ready.1 hr
      have hisz : i < listed.size := by rw [inv.size]; exact Nat.lt_of_lt_of_le hin H.head.le
      obtain ⟨pre, post, hu⟩ := List.append_of_mem (mem_unl.2 ⟨hin, hun⟩)
      have hwl : ∀ k, waits ops i k = true → listed.getD k false = true := fun k hk => waitsN_listed inv.closed ops.size i (fun o ho => by
        obtain rfl : o = oi := Option.some.inj (ho.symm.trans hoi)
        exact hall) hk
      have hsort : ((unl n listed)).Pairwise (· < ·) := List.Pairwise.filter _ List.pairwise_lt_range
      rw [hu] at hsort
      have hlt' : ∀ k ∈ pre, k < i := fun k hk => (List.pairwise_append.1 hsort).2.2 k hk i (by simp)
      have hnw : ∀ k ∈ pre, waits ops i k = false := fun k hk => by
        have hku := mem_unl.1 (show k ∈ unl n listed by rw [hu]; simp [hk])
        cases hw : waits ops i k with
        | false => rfl
        | true => have h1 := hwl k hw; rw [getD_both hku.2] at h1; cases h1
      have hpre : ∀ k ∈ pre, k < n ∧ k ≠ i ∧ waits ops i k = false ∧ waits ops k i = false := fun k hk => by
        have hku := mem_unl.1 (show k ∈ unl n listed by rw [hu]; simp [hk])
        have hki := hlt' k hk
        refine ⟨hku.1, by omega, hnw k hk, ?_⟩
        cases hw : waits ops k i with
        | false => rfl
        | true => have := H.head.ord k i hku.1 hin hw; omega
      rw [hu] at hs
      have hul := unl_set hisz hu
      have hlen : (unl n (listed.setIfInBounds i true)).length = m := by
        rw [hul]
        rw [hu] at hm
        simp only [List.length_append, List.length_cons] at hm ⊢
        omega
      have go : ∀ v w', S w' → SeqX P ops S K Fin (pre ++ post) (a.put oi.dst v) w' → wpAny P .any ops Q (m + tail.length) (listed.setIfInBounds i true) (a.put oi.dst v) w' :=
        fun v w' hS' h => ih _ _ _ hlen (inv.set hr hin) (by rw [hul]; exact h) hS'
      unfold wpOp
      simp only [hoi]
      by_cases hwt : Region.wanted oi (yielded ops a.tmps) = true
      · rw [if_pos hwt]
        refine .inl ?_
        cases hK : K i with
        | true =>
          refine (SeqX.act H.head hin hoi hK pre a w (fun k hk => ⟨(hpre k hk).1, (hpre k hk).2.1, (hpre k hk).2.2.1, (hpre k hk).2.2.2, ?_⟩) hwt hs).wp fun u w' hu => go u w' hu.1 hu.2
          cases hKk : K k with
          | false => rfl
          | true => have := H.chain k i (hlt' k hk) hin hKk hK; rw [hnw k hk] at this; cases this
        | false =>
          obtain ⟨v, h1, h2⟩ := SeqX.val H.head hin hoi pre a w hSw hpre (fun _ => hK) hs
          rcases h1 with ⟨_, h1⟩ | ⟨h1, _⟩
          · unfold Oper.wp
            rw [h1 w hSw]
            exact go v w hSw h2
          · rw [hwt] at h1; cases h1
      · rw [if_neg hwt]
        obtain ⟨v, h1, h2⟩ := SeqX.val H.head hin hoi pre a w hSw hpre (fun h => absurd h hwt) hs
        rcases h1 with ⟨h1, _⟩ | ⟨_, rfl⟩
        · exact absurd h1 hwt
        · exact go undef w hSw h2
    refine ⟨fun h0 => ?_, main⟩
    exfalso
    have hmin : ∃ i, i ∈ unl n listed ∧ ∀ k ∈ unl n listed, i ≤ k := by
      cases hu : unl n listed with
      | nil => rw [hu] at hm; cases hm
      | cons x t =>
        refine ⟨x, by simp, fun k hk => ?_⟩
        have hsort : ((unl n listed)).Pairwise (· < ·) := List.Pairwise.filter _ List.pairwise_lt_range
        rw [hu] at hsort
        rcases List.mem_cons.1 hk with rfl | hk
        · exact Nat.le_refl _
        · exact Nat.le_of_lt ((List.pairwise_cons.1 hsort).1 k hk)
    obtain ⟨i, hi, hmin⟩ := hmin
    have hiu := mem_unl.1 hi
    have hisz : i < ops.size := Nat.lt_of_lt_of_le hiu.1 H.head.le
    have : i ∈ Region.ready .any ops listed := mem_ready.2 ⟨hiu.2, ops[i], Array.getElem?_eq_getElem hisz, fun e he hb => ?_⟩
    · rw [h0] at this; cases this
    · have hlt := H.head.edge i _ hiu.1 (Array.getElem?_eq_getElem hisz) e he hb
      cases hl : listed.getD e.on false with
      | true => rfl
      | false =>
        have := hmin e.on (mem_unl.2 ⟨by omega, getD_in (by rw [inv.size]; omega) hl⟩)
        omega

/-- The walk in the order of the text, over the operations themselves (acts: the numbers of those that change the world). -/
def SeqY (P : Program) (ops : Array Oper) (S : World → Prop) (acts : List Nat) (Fin : Act → World → Prop) : Nat → List Oper → Act → World → Prop
  | _, [], a, w => Fin a w
  | k, o :: rest, a, w => SpecX P ops S (fun i => acts.contains i) k o a w fun u w' => SeqY P ops S acts Fin (k + 1) rest (a.put o.dst u) w'
theorem SpecX.mono {i : Nat} {o : Oper} {a : Act} {w : World} {nx nx' : Value → World → Prop} (h : SpecX P ops S K i o a w nx) (hn : ∀ u w', nx u w' → nx' u w') : SpecX P ops S K i o a w nx' := by
  unfold SpecX at *
  split
  · rename_i hw
    rw [if_pos hw] at h
    cases hK : K i with
    | true => rw [hK] at h; exact h.mono fun u w' hu => ⟨hu.1, hn _ _ hu.2⟩
    | false => rw [hK] at h; exact ⟨h.choose, h.choose_spec.1, hn _ _ h.choose_spec.2⟩
  · rename_i hw
    rw [if_neg hw] at h
    exact hn _ _ h
theorem SeqY.seq {acts : List Nat} : ∀ (l : List Oper) (k : Nat) (a : Act) (w : World), (∀ j, j < l.length → l[j]? = ops[k + j]?) → SeqY P ops S acts Fin k l a w → SeqX P ops S (fun i => acts.contains i) Fin (List.range' k l.length) a w
  | [], k, a, w, _, h => h
  | o :: l, k, a, w, hl, h => by
    rw [List.length_cons, List.range'_succ]
    refine ⟨o, by simpa using (hl 0 (by simp)).symm, SpecX.mono h fun u w' hu => ?_⟩
    exact SeqY.seq l (k + 1) _ _ (fun j hj => by have := hl (j + 1) (by simp; omega); simpa [Nat.add_assoc, Nat.add_comm 1 j] using this) hu
def chainB (ops : Array Oper) (acts : List Nat) (n : Nat) : Bool :=
  chainOkB ops (fun i => acts.contains i) n && Region.seqB .any ops (ops.size - n) n (canon n (ops.size - n)) && (decide (n = ops.size) || (decide (n < ops.size) && Region.sinkB .any ops n && Region.chainB .any ops n))
theorem wp_region_chain {id : Nat} {Q : Exit → Act → World → Prop} {a : Act} {w : World} {l : List Oper} (n : Nat) (acts : List Nat) (S : World → Prop) (hm : P.follows .mixedOrders = true)
    (hB : chainB l.toArray acts n = true) (h0 : S w.drew)
    (h : SeqY P l.toArray S acts (fun a' w' => wpList P l.toArray Q (l.drop n) a' w') 0 (l.take n) a w.drew) : (Code.region id l.toArray true).wp P Q a w := by
  simp only [chainB, Bool.and_eq_true, Bool.or_eq_true, decide_eq_true_eq] at hB
  obtain ⟨⟨hH, hS⟩, hE⟩ := hB
  have H := ChainOk.of hH
  have hle : n ≤ l.length := by simpa using H.head.le
  have htl : (l.take n).length = n := by simp; omega
  refine wp_region_any hm ?_
  have inv0 : HeadInv .any l.toArray n (Array.replicate l.toArray.size false) :=
    ⟨by simp, fun j oj _ hl => (by rw [getD_replicate_false] at hl; cases hl), fun t _ ht => getD_in (by simpa using ht) (getD_replicate_false _ _)⟩
  have hu : unl n (Array.replicate l.toArray.size false) = List.range n := by
    unfold unl
    refine List.filter_eq_self.2 fun i hi => ?_
    rw [getD_in (by simp; have := List.mem_range.1 hi; omega) (getD_replicate_false _ _)]
    rfl
  have h' := SeqY.seq (l.take n) 0 a w.drew (fun j hj => by rw [htl] at hj; simp [hj]) h
  rw [htl, ← List.range_eq_range'] at h'
  have := chain_any H (Q := Q) (tail := l.drop n) (fun _ _ _ h => h) (fun listed inv i hi hun j hj => ?_) (fun listed inv hall a' w' hw => ?_) n _ a w.drew (by rw [hu]; simp) inv0 (by rw [hu]; exact h') h0
  · rw [show n + (l.drop n).length = l.toArray.size by simp; omega] at this
    exact this
  · rcases hE with hE | ⟨⟨hn, hs⟩, hc⟩
    · obtain ⟨_, oj, hoj, _⟩ := mem_ready.1 hj
      rw [hE]
      exact (Array.getElem?_eq_some_iff.1 hoj).1
    · rcases Nat.lt_or_ge j n with h1 | h1
      · exact h1
      · exact absurd hj (tail_waits hs hc hn inv _ i rfl hi hun j h1)
  · rw [canon_of H.head.le inv hall]
    refine wpAny_of_seq (l.drop n) n _ a' w' (fun j => by simp [List.getElem?_drop]) ?_ hw
    rw [show (l.drop n).length = l.toArray.size - n by simp]
    exact hS
end

/-! ### The steps of a walk -/
section
variable {P : Program} {ops : Array Oper} {S : World → Prop} {acts : List Nat} {Fin : Act → World → Prop} {k : Nat} {o : Oper} {rest : List Oper} {a : Act} {w : World}
theorem SeqY.nil (h : Fin a w) : SeqY P ops S acts Fin k [] a w := h
theorem SeqY.val {v : Value} (hK : acts.contains k = false) (hw : Region.wanted o (yielded ops a.tmps) = true) (h : ∀ w, S w → (execOp a.eval o).run P w = .ok (.value v) w)
    (hn : SeqY P ops S acts Fin (k + 1) rest (a.put o.dst v) w) : SeqY P ops S acts Fin k (o :: rest) a w := by
  show SpecX _ _ _ _ _ _ _ _ _
  unfold SpecX
  rw [if_pos hw]
  simp only [hK]
  exact ⟨v, h, hn⟩
theorem SeqY.skip (hw : Region.wanted o (yielded ops a.tmps) = false) (hn : SeqY P ops S acts Fin (k + 1) rest (a.put o.dst undef) w) : SeqY P ops S acts Fin k (o :: rest) a w := by
  show SpecX _ _ _ _ _ _ _ _ _
  unfold SpecX
  rw [if_neg (by rw [hw]; simp)]
  exact hn
theorem Res.of0 {w : World} {R : World → Prop} (hd : o.dst = none) (h : o.wp P a w (fun a' w' => a' = a ∧ R w') (fun _ _ _ => False)) : Res P o a w fun _ w' => R w' := by
  unfold Oper.wp at h
  unfold Res
  generalize (execOp a.eval o).run P w = r at *
  cases r with
  | ok x w' =>
    cases x <;> simp only [Oper.upon] at h ⊢
    case value u => exact h.2
    case skip => exact h.2
    case defer dd =>
      have := congrArg (fun x => x.defers.length) h.1
      rw [hd] at this
      simp [Act.put] at this
    case enter f args =>
      refine Calls.mono h fun e w'' he => ?_
      cases e with
      | returned u => exact he.2
      | panicked c => exact he.elim
      | outgrown => obtain ⟨_, _, h⟩ := he; exact h
    case row row args => exact Rows.mono h fun u w'' hh => hh.2
  | halt x w' => cases x <;> exact h
theorem SeqY.act {d : Tmp} (hK : acts.contains k = true) (hd : o.dst = some d) (hs : decide (d < a.tmps.size) = true) (hw : Region.wanted o (yielded ops a.tmps) = true)
    (h : ∀ K' : Act → World → Prop, Hid (∀ u w', S w' → SeqY P ops S acts Fin (k + 1) rest (a.put o.dst u) w' → K' (a.put o.dst u) w') → o.wp P a w K' (fun _ _ _ => False)) : SeqY P ops S acts Fin k (o :: rest) a w := by
  show SpecX _ _ _ _ _ _ _ _ _
  unfold SpecX
  rw [if_pos hw]
  simp only [hK]
  exact Res.of hd (of_decide_eq_true hs) (h _ (fun u w' h1 h2 => ⟨u, rfl, h1, h2⟩))
theorem SeqY.act0 (hK : acts.contains k = true) (hd : o.dst = none) (hw : Region.wanted o (yielded ops a.tmps) = true)
    (h : ∀ K' : Act → World → Prop, Hid (∀ w', S w' → SeqY P ops S acts Fin (k + 1) rest a w' → K' a w') → o.wp P a w K' (fun _ _ _ => False)) : SeqY P ops S acts Fin k (o :: rest) a w := by
  show SpecX _ _ _ _ _ _ _ _ _
  unfold SpecX
  rw [if_pos hw]
  simp only [hK]
  have e : ∀ u, a.put o.dst u = a := fun u => by rw [hd]; rfl
  simp only [e]
  exact Res.of0 hd (h _ (fun w' h1 h2 => ⟨rfl, h1, h2⟩))
end
end Go.Proofs.Ytaopjdjbpamhhaa
