/- Proved: contract of swap's keys. Conditions: a map in memory. -/
import Derived.Test.YtaopjdjbpamhhaaMapC
import Derived.Test.YtaopjdjbpamhhaaSwp2
namespace Go.Proofs.Ytaopjdjbpamhhaa
open Go Go.RowKit Go.Shelf
set_option linter.unusedVariables false
set_option linter.unusedSimpArgs false
attribute [local go_sem] Oper.semAt_some

/-- The keys of a span. -/
def spanKeys (l : List (Bts × Bts)) (low high : Bts) (bd : Bool) : List Bts := (l.filter (inS low true high bd)).map (·.1)

theorem wpIn_app {F : Fence} {n : Nat} {P : Program} {w : World} {o : Oper} {a : Act} {Q : Exit → Act → World → Prop} {K : Act → World → Prop} (s x : Operand) (t : TypeId) (ho : o.op = .call { callee := .builtin .append, args := #[s, x], argTypes := #[t, t] })
    (h : o.wp P a w K (fun _ _ _ => False)) : o.wpIn F n P a w K Q := by
  unfold Oper.wp at h
  unfold Oper.wpIn
  refine ⟨by simp [Oper.about, ho, resolve, Target.leads, Sem.run_pure], ?_⟩
  rw [Oper.semAt_plain F _ _ (by rw [ho]; intro c hc'; cases hc')]
  simp only [execOp, ho, resolve, invoke, builtin, Sem.run_bind, Sem.run_pure, Result.andThen_ok, List.map_toArray, List.map_cons, List.map_nil] at h ⊢
  generalize (Builtin.append_ #[t, t] o.type #[a.eval s, a.eval x]).run P w = r at *
  cases r with
  | ok v w' => exact h
  | halt e w' => cases e <;> exact h.elim
theorem spanKeys_snoc (l : List (Bts × Bts)) (p : Bts × Bts) (low high : Bts) (bd : Bool) : spanKeys (l ++ [p]) low high bd = if inS low true high bd (p.1, []) = true then spanKeys l low high bd ++ [p.1] else spanKeys l low high bd := by
  have e : inS low true high bd p = inS low true high bd (p.1, []) := rfl
  unfold spanKeys
  rw [List.filter_append, List.map_append, ← e]
  cases h : inS low true high bd p <;> simp [h]

theorem spanKeys_prefix {L : List (Bts × Bts)} {pre : List AllE} {x : AllE} {low high : Bts} (hs : Srt L) (hp : (pre ++ [x]).map (fun x => x.2.2) <+: L) (hx : ¬ cmpB x.2.2.1 high < 0) : spanKeys ((pre ++ [x]).map (fun x => x.2.2)) low high true = spanKeys L low high true := by
  obtain ⟨r, rfl⟩ := hp
  have h0 : r.filter (inS low true high true) = [] := by
    refine List.filter_eq_nil_iff.2 fun p hp => ?_
    have h1 : cmpB x.2.2.1 p.1 < 0 := (List.pairwise_append.1 hs).2.2 x.2.2 (by simp) p hp
    have : ¬ cmpB p.1 high < 0 := fun e => hx (cmpB_trans h1 e)
    simp [inS, this]
  unfold spanKeys
  rw [List.filter_append, h0, List.append_nil]

set_option maxRecDepth 100000 in
set_option maxHeartbeats 4000000 in
theorem swkeys_calls {seed : Int} {w : World} {m : Nat} {t : Tr} {F D1 D2 : Nat → Prop} {lo hi : Value} {low high : Bts} {bd : Bool} (h : MapAt seed w m t F) (hs : t.size ≤ 1000000) (hg : Srt t.pairs) (h1 : BV D1 w lo low) (h2 : BV D2 w hi high) :
    Calls Try.prog 119 #[.pointer (some ⟨m, 0, none⟩), .agg #[lo, hi, .bool bd]] w fun e w' => ∃ v', e = .returned v' ∧ Own 31 bytesEl (fun b => w.heap.size ≤ b) w.heap.size w' v' (spanKeys t.pairs low high bd) ∧ Kept Noneof w w' := by
  have H := Lib.hid h
  have H1 := Lib.hid h1
  have H2 := Lib.hid h2
  have HG := Lib.hid hg
  have SZ := Lib.hid hs
  obtain ⟨a1, c1, rfl, _⟩ := h1
  obtain ⟨a2, c2, rfl, _⟩ := h2
  clear h hs hg
  refine (callsIn_wide (n := 9)).1 ?_
  refine callsIn_of_wp_marks Try.func119 rfl trivial ?_ rfl
  simp only [Try.ntmps119, List.size_toArray, List.length_cons, List.length_nil, Nat.reduceAdd, Nat.reduceSub, Array.replicate_succ, Array.replicate_zero, List.push_toArray, List.append_toArray, List.nil_append, List.cons_append]
  gi_wp2
  have G0 := heap_alloc_new w (.cells #[.slice a1 low.length c1, .slice a2 high.length c2, .bool bd] 170)
  have K0 := (Kept.refl Noneof w).alloc (.cells #[.slice a1 low.length c1, .slice a2 high.length c2, .bool bd] 170)
  have s0 : (w.alloc (.cells #[.slice a1 low.length c1, .slice a2 high.length c2, .bool bd] 170)).heap.size = w.heap.size + 1 := by simp
  generalize w.alloc (.cells #[.slice a1 low.length c1, .slice a2 high.length c2, .bool bd] 170) = wa at *
  have G1 := heap_alloc_new wa (.cells #[.slice none 0 0] 51)
  have K1 := (Kept.refl Noneof wa).alloc (.cells #[.slice none 0 0] 51)
  have s1 : (wa.alloc (.cells #[.slice none 0 0] 51)).heap.size = w.heap.size + 2 := by simp [s0]
  generalize wa.alloc (.cells #[.slice none 0 0] 51) = wb at *
  rw [s0] at G1
  have G0 := K1.obj (fun h => h) G0
  refine ⟨trivial, callsIn_wide.2 ((orAll_calls (m := m)).mono ?_)⟩
  rintro e w3 ⟨rfl, b3, k3, z3⟩
  rw [s1] at b3 z3
  have G0 := Lib.hid (k3.obj (fun h => h) G0)
  have G1 := Lib.hid (k3.obj (fun h => h) G1)
  have K3 := Lib.hid ((K0.trans K1 fun _ h => h.elim).trans k3 fun _ h => h.elim)
  have B3 := Lib.hid b3
  have Z3 := Lib.hid z3
  have s1' : wb.heap.size = w.heap.size + 2 := s1
  clear K0 K1 k3 b3 z3 s0
  gi_wp2
  refine range_rel (by decide) (gf := 186) (lb := #[.pointer (some ⟨w.heap.size + 2, 0, none⟩)]) (by simp [Act.eval, s1']) (enters_of Try.func186 (by kernel_rfl) rfl) (encs := fun x : AllE => #[x.1, x.2.1]) (fun _ => rfl)
    (fun W k hsz => orAll_1_iter ((H.out.kept (K3.out) fun _ _ h => h).kept k fun _ _ h => h) SZ.out (k.cell (fun h => h) B3.out) hsz Z3.out)
    (fun N pre W => (∃ v, W.heap[w.heap.size + 1]? = some (.cells #[v] 51) ∧ Own 31 bytesEl (fun b => w3.heap.size + 2 ≤ b ∧ b < N) N W v (spanKeys (pre.map (fun x => x.2.2)) low high bd)) ∧ Kept (fun b => b = w.heap.size + 1) w3 W ∧ N ≤ W.heap.size)
    (fun N pre W => ((∃ v, W.heap[w.heap.size + 1]? = some (.cells #[v] 51) ∧ Own 31 bytesEl (fun b => w3.heap.size + 2 ≤ b ∧ b < N) N W v (spanKeys (pre.map (fun x => x.2.2)) low high bd)) ∧ Kept (fun b => b = w.heap.size + 1) w3 W ∧ N ≤ W.heap.size) ∧ ∃ pre' x, pre = pre' ++ [x] ∧ bd = true ∧ ¬ cmpB x.2.2.1 high < 0)
    ?hI ?hIx ?hRx ?h0 (fun x => { tmps := #[.pointer (some ⟨m, 0, none⟩), .agg #[.slice a1 low.length c1, .slice a2 high.length c2, .bool bd], undef, .pointer (some ⟨w.heap.size, 0, none⟩), .slice none 0 0, .pointer (some ⟨w.heap.size + 1, 0, none⟩), x.1, .pointer (some ⟨m, 0, none⟩), .func (.func 186) #[] #[.pointer (some ⟨w.heap.size + 2, 0, none⟩)], x.1, x.2.1, undef, undef, undef, undef, undef, undef, undef, undef, undef, undef, undef, undef, undef, undef, undef, undef, undef], defers := [] }) ?assign ?body ?done ?stop
  case hI =>
    rintro N pre W W' hN ⟨⟨v, ho, hown⟩, kW, hNW⟩ k
    have ks := k.size
    have z := Z3.out
    have lo := hown.lt
    exact ⟨⟨v, k.obj (by omega) ho, hown.kept k fun b hb _ => ⟨fun hd => by omega, fun e => by have := (lo b e).1; omega⟩⟩, kW.trans k fun n h => .inr (by omega), by omega⟩
  case hIx =>
    rintro N pre W W' hN ⟨⟨⟨v, ho, hown⟩, kW, hNW⟩, hx⟩ k
    have ks := k.size
    have z := Z3.out
    have lo := hown.lt
    exact ⟨⟨⟨v, k.obj (by omega) ho, hown.kept k fun b hb _ => ⟨fun hd => by omega, fun e => by have := (lo b e).1; omega⟩⟩, kW.trans k fun n h => .inr (by omega), by omega⟩, hx⟩
  case hRx =>
    rintro N x W W' hN ⟨h1, h2⟩ k
    exact ⟨h1.kept byteEl_k k fun b hb _ e => by omega, h2.kept byteEl_k k fun b hb _ e => by omega⟩
  case h0 =>
    intro W k hs
    exact ⟨⟨_, k.obj (fun h => h) G1.out, Own.nil _ _ _ _ _⟩, k.mono (fun _ h => h.elim), Nat.le_refl _⟩
  case assign =>
    intro x W K hK
    gi_wp2
    exact hK
  case body =>
    rintro N pre ⟨kv, vv, key, val⟩ W hN hM ⟨⟨v, ho, hown⟩, kW, hNW⟩ ⟨hx1, hx2⟩
    have hx1 : BV (fun b => w3.heap.size + 2 ≤ b ∧ b < N) W kv key := hx1
    have HX := Lib.hid hx1
    obtain ⟨a3, c3, rfl, _⟩ := hx1
    dsimp only
    have OW := Lib.hid hown
    obtain ⟨a4, n4, c4, rfl⟩ := hown.slice'
    have HO := Lib.hid ho
    have KW := Lib.hid kW
    clear hx2 hown
    have d0 : W.cell? ⟨w.heap.size, 0, none⟩ = some (.slice a1 low.length c1) := by have := kW.obj (p := w.heap.size) (by omega) G0.out; simp [World.cell?, this]
    have d1 : W.cell? ⟨w.heap.size, 1, none⟩ = some (.slice a2 high.length c2) := by have := kW.obj (p := w.heap.size) (by omega) G0.out; simp [World.cell?, this]
    have d2 : W.cell? ⟨w.heap.size, 2, none⟩ = some (.bool bd) := by have := kW.obj (p := w.heap.size) (by omega) G0.out; simp [World.cell?, this]
    have g0 : W.cell? ⟨w.heap.size + 1, 0, none⟩ = some (.slice a4 n4 c4) := by simp [World.cell?, ho]
    clear ho kW
    have KZ := Lib.hid (K3.out.trans KW.out fun n h => .inr (by have := Z3.out; omega))
    cases bd with
    | false =>
      gi_wp2
      refine ⟨trivial, ?_⟩
      gi_wp2
      (
      refine ⟨trivial, CallsIn.inRound _ (callsIn_wide.2 ((swspan_has_calls (H1.out.kept byteEl_k KZ.out fun _ _ _ h => h) (H2.out.kept byteEl_k KZ.out fun _ _ _ h => h) HX.out).mono ?_))⟩
      rintro e W2 ⟨rfl, k2⟩
      have O2 := Lib.hid (OW.out.kept k2 fun _ h => h.elim)
      have HO2 := Lib.hid (k2.obj (fun h => h) HO.out)
      have X2 := Lib.hid (HX.out.kept byteEl_k k2 fun _ _ _ h => h)
      have KW2 := Lib.hid (KW.out.trans k2 fun _ h => h.elim)
      have hgo := spanKeys_snoc (pre.map (fun x => x.2.2)) (key, val) low high false
      have hmap : (pre ++ [((Value.slice a3 key.length c3, vv, key, val) : AllE)]).map (fun x => x.2.2) = pre.map (fun x => x.2.2) ++ [(key, val)] := by simp
      have z := Z3.out
      cases hin : inS low true high false (key, [])
      · rw [hin, if_neg (by decide)] at hgo
        gi_wp2
        exact ⟨k2.mono fun _ h => h.elim, ⟨_, HO2.out, by rw [hmap, hgo]; exact O2.out⟩, KW2.out, by have := k2.size; omega⟩
      · rw [hin, if_pos rfl] at hgo
        have g2 : W2.cell? ⟨w.heap.size + 1, 0, none⟩ = some (.slice a4 n4 c4) := by simp [World.cell?, HO2.out]
        have gA : ∀ o, (W2.alloc o).cell? ⟨w.heap.size + 1, 0, none⟩ = some (.slice a4 n4 c4) := fun o => ((Kept.refl Noneof W2).alloc o).cell (p := ⟨w.heap.size + 1, 0, none⟩) (fun h => h) g2
        have hlen : (spanKeys (pre.map (fun x => x.2.2)) low high false).length ≤ pre.length := by
          unfold spanKeys
          rw [List.length_map]
          exact Nat.le_trans (List.length_filter_le _ _) (by simp)
        have G3 := heap_alloc_new W2 (.cells #[.slice a3 key.length c3] 31)
        have k3 := (Kept.refl Noneof W2).alloc (.cells #[.slice a3 key.length c3] 31)
        have O3 := Lib.hid (O2.out.kept k3 fun _ h => h.elim)
        have X3 := Lib.hid (X2.out.kept byteEl_k k3 fun _ _ _ h => h)
        have HO3 := Lib.hid (k3.obj (fun h => h) HO2.out)
        have lo := Lib.hid O3.out.lt
        have hsz : N ≤ W2.heap.size := by have := k2.size; omega
        have hb : (spanKeys (pre.map (fun x => x.2.2)) low high false).length + 1 ≤ 2000000 := by have := SZ.out; have := Tr.pairs_len t; omega
        have HB := Lib.hid hb
        gi_wp2_with (gi_at_builtin; refine wpListIn_plain rfl fun K hK => wpIn_app (.tmp 23) (.tmp 25) _ rfl (wp_app_one (E := bytesEl) (.tmp 23) (.tmp 25) _ rfl tRows (D' := fun b => w3.heap.size + 2 ≤ b ∧ b < N) (.slice a4 n4 c4) _ rfl O3.out W2.heap.size [.slice a3 key.length c3] key rfl ⟨_, _, G3⟩ ⟨_, rfl, X3.out⟩ (fun x h _ => ⟨h, fun e => by have := (lo.out x e).1; omega⟩) (by omega) (by decide) (by simp; omega) ?_))
        rintro v4 w4 o4 k4 _
        obtain ⟨a5, n5, c5, rfl⟩ := o4.slice'
        refine hK _ _ ?_
        have ne : ¬ (.slice a4 n4 c4 : Value).ownBlock = some (w.heap.size + 1) := fun e => by have := (lo.out _ e).1; omega
        have h4 := k4.obj (p := w.heap.size + 1) ne HO3.out
        have g4 : w4.cell? ⟨w.heap.size + 1, 0, none⟩ = some (.slice a4 n4 c4) := by simp [World.cell?, h4]
        have f4 : w4.frozen? ⟨w.heap.size + 1, 0, none⟩ = false := by simp [World.frozen?, h4]
        have lo4 := Lib.hid lo.out
        have s4 := k4.size
        clear hK
        gi_wp2
        have kS := (Kept.refl (fun b => b = w.heap.size + 1) w4).setCell (p := ⟨w.heap.size + 1, 0, none⟩) (.inl rfl) (.slice a5 n5 c5)
        have s5 := kS.size
        have k24 : Kept (fun b => N ≤ b) W2 w4 := (k3.mono fun _ h => h.elim).trans k4 fun b e => .inl (lo4.out b e).1
        have k04 : Kept (fun b => N ≤ b) W w4 := (k2.mono fun _ h => h.elim).tr k24
        refine ⟨(k04.mono fun b h => .inr h).trans kS fun b h => .inl (.inl (by omega)), ⟨_, setCell_obj h4 _, ?_⟩, (KW.out.trans k04 fun b h => .inr (by omega)).tr kS, ?_⟩
        · rw [hmap, hgo]
          exact o4.kept kS fun b h _ => ⟨fun hd => by omega, fun e => by have := (o4.lt b e).1; omega⟩
        · have := k2.size
          simp only [World.size_alloc] at s4
          omega)
    | true =>
      gi_wp2
      refine ⟨trivial, CallsIn.inRound _ (callsIn_wide.2 ((byCompare_calls HX.out (H2.out.kept byteEl_k KZ.out fun _ _ _ h => h)).mono ?_))⟩
      rintro e W1 ⟨rfl, hW1⟩
      have hW1 := hW1.symm
      subst hW1
      by_cases hh : cmpB key high < 0
      · have t1 : decide (0 ≤ cmpS key high) = false := by have := cmpS_lt hh; simp; omega
        gi_wp2
        (
      refine ⟨trivial, CallsIn.inRound _ (callsIn_wide.2 ((swspan_has_calls (H1.out.kept byteEl_k KZ.out fun _ _ _ h => h) (H2.out.kept byteEl_k KZ.out fun _ _ _ h => h) HX.out).mono ?_))⟩
      rintro e W2 ⟨rfl, k2⟩
      have O2 := Lib.hid (OW.out.kept k2 fun _ h => h.elim)
      have HO2 := Lib.hid (k2.obj (fun h => h) HO.out)
      have X2 := Lib.hid (HX.out.kept byteEl_k k2 fun _ _ _ h => h)
      have KW2 := Lib.hid (KW.out.trans k2 fun _ h => h.elim)
      have hgo := spanKeys_snoc (pre.map (fun x => x.2.2)) (key, val) low high true
      have hmap : (pre ++ [((Value.slice a3 key.length c3, vv, key, val) : AllE)]).map (fun x => x.2.2) = pre.map (fun x => x.2.2) ++ [(key, val)] := by simp
      have z := Z3.out
      cases hin : inS low true high true (key, [])
      · rw [hin, if_neg (by decide)] at hgo
        gi_wp2
        exact ⟨k2.mono fun _ h => h.elim, ⟨_, HO2.out, by rw [hmap, hgo]; exact O2.out⟩, KW2.out, by have := k2.size; omega⟩
      · rw [hin, if_pos rfl] at hgo
        have g2 : W2.cell? ⟨w.heap.size + 1, 0, none⟩ = some (.slice a4 n4 c4) := by simp [World.cell?, HO2.out]
        have gA : ∀ o, (W2.alloc o).cell? ⟨w.heap.size + 1, 0, none⟩ = some (.slice a4 n4 c4) := fun o => ((Kept.refl Noneof W2).alloc o).cell (p := ⟨w.heap.size + 1, 0, none⟩) (fun h => h) g2
        have hlen : (spanKeys (pre.map (fun x => x.2.2)) low high true).length ≤ pre.length := by
          unfold spanKeys
          rw [List.length_map]
          exact Nat.le_trans (List.length_filter_le _ _) (by simp)
        have G3 := heap_alloc_new W2 (.cells #[.slice a3 key.length c3] 31)
        have k3 := (Kept.refl Noneof W2).alloc (.cells #[.slice a3 key.length c3] 31)
        have O3 := Lib.hid (O2.out.kept k3 fun _ h => h.elim)
        have X3 := Lib.hid (X2.out.kept byteEl_k k3 fun _ _ _ h => h)
        have HO3 := Lib.hid (k3.obj (fun h => h) HO2.out)
        have lo := Lib.hid O3.out.lt
        have hsz : N ≤ W2.heap.size := by have := k2.size; omega
        have hb : (spanKeys (pre.map (fun x => x.2.2)) low high true).length + 1 ≤ 2000000 := by have := SZ.out; have := Tr.pairs_len t; omega
        have HB := Lib.hid hb
        gi_wp2_with (gi_at_builtin; refine wpListIn_plain rfl fun K hK => wpIn_app (.tmp 23) (.tmp 25) _ rfl (wp_app_one (E := bytesEl) (.tmp 23) (.tmp 25) _ rfl tRows (D' := fun b => w3.heap.size + 2 ≤ b ∧ b < N) (.slice a4 n4 c4) _ rfl O3.out W2.heap.size [.slice a3 key.length c3] key rfl ⟨_, _, G3⟩ ⟨_, rfl, X3.out⟩ (fun x h _ => ⟨h, fun e => by have := (lo.out x e).1; omega⟩) (by omega) (by decide) (by simp; omega) ?_))
        rintro v4 w4 o4 k4 _
        obtain ⟨a5, n5, c5, rfl⟩ := o4.slice'
        refine hK _ _ ?_
        have ne : ¬ (.slice a4 n4 c4 : Value).ownBlock = some (w.heap.size + 1) := fun e => by have := (lo.out _ e).1; omega
        have h4 := k4.obj (p := w.heap.size + 1) ne HO3.out
        have g4 : w4.cell? ⟨w.heap.size + 1, 0, none⟩ = some (.slice a4 n4 c4) := by simp [World.cell?, h4]
        have f4 : w4.frozen? ⟨w.heap.size + 1, 0, none⟩ = false := by simp [World.frozen?, h4]
        have lo4 := Lib.hid lo.out
        have s4 := k4.size
        clear hK
        gi_wp2
        have kS := (Kept.refl (fun b => b = w.heap.size + 1) w4).setCell (p := ⟨w.heap.size + 1, 0, none⟩) (.inl rfl) (.slice a5 n5 c5)
        have s5 := kS.size
        have k24 : Kept (fun b => N ≤ b) W2 w4 := (k3.mono fun _ h => h.elim).trans k4 fun b e => .inl (lo4.out b e).1
        have k04 : Kept (fun b => N ≤ b) W w4 := (k2.mono fun _ h => h.elim).tr k24
        refine ⟨(k04.mono fun b h => .inr h).trans kS fun b h => .inl (.inl (by omega)), ⟨_, setCell_obj h4 _, ?_⟩, (KW.out.trans k04 fun b h => .inr (by omega)).tr kS, ?_⟩
        · rw [hmap, hgo]
          exact o4.kept kS fun b h _ => ⟨fun hd => by omega, fun e => by have := (o4.lt b e).1; omega⟩
        · have := k2.size
          simp only [World.size_alloc] at s4
          omega)
      · have t1 : decide (0 ≤ cmpS key high) = true := by have := cmpS_ge hh; simp; omega
        have HH := Lib.hid hh
        clear hh
        gi_wp2
        have hgo := spanKeys_snoc (pre.map (fun x => x.2.2)) (key, val) low high true
        rw [if_neg (by simp [inS, HH.out])] at hgo
        refine ⟨rfl, Kept.refl _ _, ⟨⟨_, HO.out, ?_⟩, KW.out, hNW⟩, pre, _, _, _, ⟨_, rfl⟩, by have := HH.out; omega⟩
        have hmap : (pre ++ [((Value.slice a3 key.length c3, vv, key, val) : AllE)]).map (fun x => x.2.2) = pre.map (fun x => x.2.2) ++ [(key, val)] := by simp
        rw [hmap, hgo]
        exact OW.out
  case done =>
    rintro N xs W hN hS ⟨⟨v, ho, hown⟩, kW, hNW⟩ hd
    have z := Z3.out
    have g0 : W.cell? ⟨w.heap.size + 1, 0, none⟩ = some v := by simp [World.cell?, ho]
    have OW := Lib.hid hown
    obtain ⟨a4, n4, c4, rfl⟩ := hown.slice'
    gi_wp2
    have lo := hown.lt
    have kP := (Kept.refl (fun b => b = w3.heap.size) W).putObj (.inl rfl) (.deferred none)
    have KF := K3.out.trans (kW.trans kP fun n h => .inr (by omega)) (T := fun b => b = w.heap.size + 1) fun n h => .inr (by omega)
    refine ⟨by simp, .inl ⟨_, _, rfl, run_takeDeferred hd, ?_⟩⟩
    refine ⟨_, results_tmp rfl _ _ _, _, rfl, ?_, KF⟩
    have := (OW.out.kept kP fun b hb _ => ⟨fun hd => by omega, fun e => by have := (lo b e).1; omega⟩)
    rw [hS] at this
    exact (this.wide fun b hb => by omega).base (by omega)
  case stop =>
    rintro N pre W hN hS ⟨⟨⟨v, ho, hown⟩, kW, hNW⟩, pre', x, rfl, rfl, hx⟩ hd
    have HX := Lib.hid hx
    clear hx
    have z := Z3.out
    have g0 : W.cell? ⟨w.heap.size + 1, 0, none⟩ = some v := by simp [World.cell?, ho]
    have OW := Lib.hid hown
    obtain ⟨a4, n4, c4, rfl⟩ := hown.slice'
    gi_wp2
    have lo := hown.lt
    have kP := (Kept.refl (fun b => b = w3.heap.size) W).putObj (.inl rfl) (.deferred none)
    have KF := K3.out.trans (kW.trans kP fun n h => .inr (by omega)) (T := fun b => b = w.heap.size + 1) fun n h => .inr (by omega)
    refine ⟨by simp, .inl ⟨_, _, rfl, run_takeDeferred hd, ?_⟩⟩
    refine ⟨_, results_tmp rfl _ _ _, _, rfl, ?_, KF⟩
    have := (OW.out.kept kP fun b hb _ => ⟨fun hd => by omega, fun e => by have := (lo b e).1; omega⟩)
    rw [spanKeys_prefix HG.out hS (by have := HX.out; omega)] at this
    exact (this.wide fun b hb => by omega).base (by omega)
end Go.Proofs.Ytaopjdjbpamhhaa
