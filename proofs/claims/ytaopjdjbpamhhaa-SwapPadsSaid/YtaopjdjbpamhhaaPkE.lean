/- Proved: texts of the family over order and swap, joined: laws of memory and regions, contracts of functions, plain facts. Conditions: as each theorem says. -/
import Derived.Test.YtaopjdjbpamhhaaPkD
import Derived.Test.YtaopjdjbpamhhaaPkA
import Derived.Deep.DeepCutAuto
/- Proved: contracts of layer 7's law functions few, sorted, filled. Conditions: pairs in memory. -/
namespace Go.Proofs.Ytaopjdjbpamhhaa
open Go Go.RowKit
set_option linter.unusedVariables false
set_option linter.unusedSimpArgs false

def fewK (l : List (Bts × Bts)) : Bool := decide (l.length ≤ 60) && l.all fun p => allowedK p.1 p.2
set_option maxRecDepth 100000 in
set_option maxHeartbeats 1000000 in
theorem l7few_calls {D : Nat → Prop} {w : World} {v : Value} {l : List (Bts × Bts)} (h : SV pairEl D w v l) :
    Calls Try.prog 54 #[v] w fun e w' => e = .returned (.bool (fewK l)) ∧ Kept Noneof w w' := by
  obtain ⟨a, c, rfl, _, m, rd⟩ := h
  have RD := Lib.hid rd
  clear rd
  go_enter Try.func54, Try.ntmps54
  by_cases h60 : l.length ≤ 60
  · go_wp2
    go_loopw [10] (fun i wr => ∃ n : Nat, n ≤ l.length ∧ i = .int .i64 n ∧ Hid (∀ p ∈ l.take n, allowedK p.1 p.2 = true) ∧ Hid (Kept Noneof w wr)) (fun i _ => l.length - (intOf i).toNat)
    case atStart => exact ⟨0, Nat.zero_le _, rfl, Lib.hid (by simp), Lib.hid (Kept.refl _ _)⟩
    case round =>
      obtain ⟨n, hn, rfl, ha, kw⟩ := hrel
      by_cases hl : n < l.length
      · have rd := RD.out.kept pairEl_k kw.out fun _ _ _ h => h
        obtain ⟨b1, o1, uk, uv, rfl, hDb, g0, g1, hkv, hvv⟩ := Rd.pair rd hl
        have HKV := Lib.hid hkv
        have HVV := Lib.hid hvv
        obtain ⟨a7, c7, rfl, _⟩ := id hkv
        obtain ⟨a8, c8, rfl, _⟩ := id hvv
        have KA := Lib.hid ((Kept.refl Noneof wr).alloc (.cells #[.slice a7 l[n].1.length c7, .slice a8 l[n].2.length c8] 70))
        clear rd hkv hvv
        go_wp2_with fail
        refine (r2Allowed_calls (HKV.out.kept byteEl_k KA.out fun _ _ _ h => h) (HVV.out.kept byteEl_k KA.out fun _ _ _ h => h)).mono ?_
        rintro e w7 ⟨rfl, hw⟩
        have kw7 := Lib.hid ((kw.out.tr KA.out).drewn hw)
        clear hw
        cases hal : allowedK l[n].1 l[n].2
        · go_wp2
          go_ret
          exact ⟨ret_bool (by
            have : l.all (fun p => allowedK p.1 p.2) = false := by
              rw [List.all_eq_false]
              exact ⟨l[n], List.getElem_mem hl, by rw [hal]; simp⟩
            simp [fewK, this]), kw7.out⟩
        · have ha2 := Lib.hid (show ∀ p ∈ l.take (n + 1), allowedK p.1 p.2 = true from fun p hp => by
            rw [List.take_add_one, List.getElem?_eq_getElem hl] at hp
            simp only [Option.toList_some, List.mem_append, List.mem_singleton] at hp
            rcases hp with hp | rfl
            · exact ha.out p hp
            · exact hal)
          go_wp2
          go_roundw
          case rel => exact ⟨n + 1, by omega, by go_num, ha2, kw7⟩
          case measure => simp [intOf]; omega
      · obtain rfl : n = l.length := by omega
        go_wp2
        go_ret
        exact ⟨ret_bool (by have := ha.out; rw [List.take_length] at this; simp [fewK, h60, List.all_eq_true.2 this]), kw.out⟩
  · go_wp2
    go_ret
    exact ⟨ret_bool (by simp [fewK, h60]), Kept.refl _ _⟩

/-- The pairs of a map into which some were put. -/
def sortedL (l : List (Bts × Bts)) : List (Bts × Bts) := l.foldl (fun out p => putK out p.1 p.2) []
theorem sortedL_succ (l : List (Bts × Bts)) (n : Nat) (h : n < l.length) : sortedL (l.take (n + 1)) = putK (sortedL (l.take n)) l[n].1 l[n].2 := by
  unfold sortedL
  rw [List.take_add_one, List.getElem?_eq_getElem h, List.foldl_append]
  rfl
end Go.Proofs.Ytaopjdjbpamhhaa
/- Proved: contract of the reference 02's Get. Conditions: pairs in memory. -/
namespace Go.Proofs.Ytaopjdjbpamhhaa
open Go Go.RowKit
set_option linter.unusedVariables false
set_option linter.unusedSimpArgs false

set_option maxRecDepth 100000 in
set_option maxHeartbeats 1000000 in
theorem r2Get_calls {D1 D2 : Nat → Prop} {v1 v2 : Value} {l : List (Bts × Bts)} {key : Bts} {w : World} (h1 : SV pairEl D1 w v1 l) (h2 : BV D2 w v2 key) :
    Calls Try.prog 143 #[v1, v2] w fun e w' => ((∃ v x, getK l key = some x ∧ e = .returned (.tuple #[v, .int .i64 0]) ∧ BV D1 w v x) ∨ (getK l key = none ∧ e = .returned (.tuple #[.slice none 0 0, .int .i64 3]))) ∧ Drew w w' := by
  have H1 := Lib.hid h1
  have H2 := Lib.hid h2
  obtain ⟨a, c, rfl, _, m, rd⟩ := h1
  have RD := Lib.hid rd
  obtain ⟨a2, c2, rfl, _⟩ := h2
  clear rd
  go_enter Try.func143, Try.ntmps143
  go_wp2_with fail
  refine (r2Has_calls H1.out H2.out).mono ?_
  rintro e w1 ⟨rfl, n1, rfl⟩
  cases hh : hasK l key
  · go_wp2
    go_ret2
    exact ⟨.inr ⟨by rw [hasK_getK] at hh; simpa using hh, rfl⟩, ⟨n1, rfl⟩⟩
  · have hlt := hasK_lt hh
    obtain ⟨b1, o1, uk, uv, rfl, hDb, g0, g1, hkv, hvv⟩ := Rd.pair RD.out hlt
    have HVV := Lib.hid hvv
    obtain ⟨a8, c8, rfl, _⟩ := id hvv
    clear hkv hvv
    go_wp2_with fail
    refine (r2Rank_calls (w := w.drewN n1) (H1.out.at rfl) (H2.out.at rfl)).mono ?_
    rintro e w2 ⟨rfl, n2, rfl⟩
    go_wp2
    go_ret2
    obtain ⟨x, hx⟩ := Option.isSome_iff_exists.1 (by rw [← hasK_getK]; exact hh : (getK l key).isSome = true)
    obtain ⟨y, hy⟩ := rank_getK hx
    have hxx : l[rank l key].2 = x := by
      rw [List.getElem?_eq_getElem hlt] at hy
      rw [Option.some.inj hy]
    refine ⟨.inl ⟨_, x, hx, rfl, ?_⟩, ⟨n1 + n2, rfl⟩⟩
    · rw [← hxx]; exact HVV.out.at rfl
end Go.Proofs.Ytaopjdjbpamhhaa
/- Proved: contract of layer 7's law function filled. Conditions: few pairs in memory. -/
namespace Go.Proofs.Ytaopjdjbpamhhaa
open Go Go.RowKit
set_option linter.unusedVariables false
set_option linter.unusedSimpArgs false

theorem fewK_iff {l : List (Bts × Bts)} (h : fewK l = true) : l.length ≤ 60 ∧ ∀ p ∈ l, allowedK p.1 p.2 = true := by
  simp only [fewK, Bool.and_eq_true, decide_eq_true_eq, List.all_eq_true] at h
  exact h
set_option maxRecDepth 100000 in
set_option maxHeartbeats 1000000 in
theorem l7filled_calls {seed : Int} {D : Nat → Prop} {w : World} {v : Value} {l : List (Bts × Bts)} (h : SV pairEl D w v l) (hf : fewK l = true) :
    Calls Try.prog 55 #[.int .u64 seed, v] w fun e w' => ∃ m F, e = .returned (bp m) ∧ MapAt seed w' m (putAll seed .nil l) F ∧ (∀ b, F b → w.heap.size ≤ b) ∧ w.heap.size ≤ m ∧ Kept Noneof w w' := by
  obtain ⟨a, c, rfl, _, m, rd⟩ := h
  have RD := Lib.hid rd
  have HF := Lib.hid (fewK_iff hf)
  clear rd hf
  go_enter Try.func55, Try.ntmps55
  go_wp2_with fail
  refine (orNew_calls (seed := seed)).mono ?_
  rintro e w1 ⟨rfl, hm, k1, hs1⟩
  have HM := Lib.hid hm
  have K1 := Lib.hid k1
  clear hm k1 hs1
  go_wp2
  go_loopw [12] (fun i wr => ∃ (n : Nat) (F : Nat → Prop), n ≤ l.length ∧ i = .int .i64 n ∧ Hid (MapAt seed wr w.heap.size (putAll seed .nil (l.take n)) F) ∧ Hid (∀ b, F b → w.heap.size ≤ b) ∧ Hid (Kept Noneof w wr)) (fun i _ => l.length - (intOf i).toNat)
  case atStart => exact ⟨0, _, Nat.zero_le _, rfl, HM, Lib.hid (fun b h => by have h : b = w.heap.size := h; omega), K1⟩
  case round =>
    obtain ⟨n, F, hn, rfl, hm, hF, kw⟩ := hrel
    by_cases hl : n < l.length
    · have rd := RD.out.kept pairEl_k kw.out fun _ _ _ h => h
      obtain ⟨b1, o1, uk, uv, rfl, hDb, g0, g1, hkv, hvv⟩ := Rd.pair rd hl
      have HKV := Lib.hid hkv
      have HVV := Lib.hid hvv
      obtain ⟨a7, c7, rfl, _⟩ := id hkv
      obtain ⟨a8, c8, rfl, _⟩ := id hvv
      have KA := Lib.hid ((Kept.refl Noneof wr).alloc (.cells #[.slice a7 l[n].1.length c7, .slice a8 l[n].2.length c8] 70))
      have hps : (putAll seed .nil (l.take n)).size < 100000 := by
        have h1 := putAll_size seed (l.take n) .nil
        have h2 := HF.out.1
        rw [List.length_take] at h1
        simp only [Tr.size] at h1
        omega
      have HPS := Lib.hid hps
      clear rd hkv hvv hps
      go_wp2_with fail
      refine (orMapPut_ok (hm.out.kept KA.out fun _ _ h => h) (HKV.out.kept byteEl_k KA.out fun _ _ _ h => h) (HVV.out.kept byteEl_k KA.out fun _ _ _ h => h) (HF.out.2 _ (List.getElem_mem hl)) HPS.out).mono ?_
      rintro e w7 ⟨rfl, F7, hm7, k7, hF7⟩
      have hM7 := Lib.hid hm7
      have hs := kw.out.size
      have hFF := Lib.hid (show ∀ b, F7 b → w.heap.size ≤ b from fun b h => (hF7 b h).elim (hF.out b) fun h => by have := KA.out.size; omega)
      have hKK := Lib.hid (show Kept Noneof w w7 from (kw.out.tr KA.out).trans k7 fun b h => .inr (hF.out b h))
      clear hm7 hF7 k7
      go_wp2
      go_roundw
      case rel => exact ⟨n + 1, F7, by omega, by go_num, by rw [putAll_succ seed .nil l n hl]; exact hM7, hFF, hKK⟩
      case measure => simp [intOf]; omega
    · obtain rfl : n = l.length := by omega
      go_wp2
      go_ret
      exact ⟨_, F, rfl, by have := hm.out; rwa [List.take_length] at this, hF.out, Nat.le_refl _, kw.out⟩
end Go.Proofs.Ytaopjdjbpamhhaa
/- Proved: contract of layer 7's law function sorted. Conditions: few pairs in memory. -/
namespace Go.Proofs.Ytaopjdjbpamhhaa
open Go Go.RowKit
set_option linter.unusedVariables false
set_option linter.unusedSimpArgs false

theorem ins_len : ∀ (l : List (Bts × Bts)) (k v : Bts), (ins l k v).length ≤ l.length + 1
  | [], _, _ => by simp [ins]
  | p :: l, k, v => by
    have h := ins_len l k v
    rw [ins]
    split
    · simp only [List.length_cons]; omega
    · split <;> simp
theorem sortedL_len (l : List (Bts × Bts)) : ∀ n, n ≤ l.length → (sortedL (l.take n)).length ≤ n
  | 0, _ => by simp [sortedL]
  | n + 1, h => by
    have ih := sortedL_len l n (by omega)
    rw [sortedL_succ l n (by omega), putK_ins]
    exact Nat.le_trans (ins_len _ _ _) (by omega)
set_option maxRecDepth 100000 in
set_option maxHeartbeats 1000000 in
theorem l7sorted_calls {D : Nat → Prop} {w : World} {v : Value} {l : List (Bts × Bts)} (h : SV pairEl D w v l) (hf : l.length ≤ 60) :
    Calls Try.prog 58 #[v] w fun e w' => ∃ v', e = .returned v' ∧ SV pairEl (fun b => w.heap.size ≤ b) w' v' (sortedL l) ∧ Kept Noneof w w' := by
  obtain ⟨a, c, rfl, _, m, rd⟩ := h
  have RD := Lib.hid rd
  have HF := Lib.hid hf
  clear rd hf
  go_enter Try.func58, Try.ntmps58
  go_wp2
  go_loopw [3, 8] (fun o i wr => ∃ n : Nat, n ≤ l.length ∧ i = .int .i64 n ∧ SV pairEl (fun b => w.heap.size ≤ b) wr o (sortedL (l.take n)) ∧ Hid (Kept Noneof w wr)) (fun _ i _ => l.length - (intOf i).toNat)
  case atStart => exact ⟨0, Nat.zero_le _, rfl, ⟨none, 0, rfl, ⟨Nat.le_refl _, fun _ => rfl⟩, by simp [sortedL], Rd.nil _ _ _ _⟩, Lib.hid (Kept.refl _ _)⟩
  case round =>
    obtain ⟨n, hn, rfl, ho, kw⟩ := hrel
    have HO := Lib.hid ho
    obtain ⟨ao, co, hov, _⟩ := id ho
    subst hov
    clear ho
    by_cases hl : n < l.length
    · have rd := RD.out.kept pairEl_k kw.out fun _ _ _ h => h
      obtain ⟨b1, o1, uk, uv, rfl, hDb, g0, g1, hkv, hvv⟩ := Rd.pair rd hl
      have HKV := Lib.hid hkv
      have HVV := Lib.hid hvv
      obtain ⟨a7, c7, rfl, _⟩ := id hkv
      obtain ⟨a8, c8, rfl, _⟩ := id hvv
      have KA := Lib.hid ((Kept.refl Noneof wr).alloc (.cells #[.slice a7 l[n].1.length c7, .slice a8 l[n].2.length c8] 70))
      have hps : (sortedL (l.take n)).length ≤ 100000000 := by have := sortedL_len l n hn; have := HF.out; omega
      have HPS := Lib.hid hps
      generalize hL : sortedL (l.take n) = L at *
      clear rd hkv hvv hps
      go_wp2_with fail
      refine (r2Put_calls (HO.out.kept pairEl_k KA.out fun _ _ _ h => h) (HKV.out.kept byteEl_k KA.out fun _ _ _ h => h) (HVV.out.kept byteEl_k KA.out fun _ _ _ h => h) HPS.out).mono ?_
      rintro e w7 ⟨v7, rfl, o7, k7⟩
      have hs := kw.out.size
      have S7 := o7.sv.wide (D' := fun b => w.heap.size ≤ b) pairEl_k fun b h _ => by have := KA.out.size; omega
      have K7 := Lib.hid ((kw.out.tr KA.out).tr k7)
      have HS7 := Lib.hid (show SV pairEl (fun b => w.heap.size ≤ b) w7 v7 (sortedL (l.take (n + 1))) by rw [sortedL_succ l n hl, hL]; exact S7)
      obtain ⟨a9, n9, c9, rfl⟩ := o7.slice'
      clear o7 k7 S7
      go_wp2
      go_roundw
      case rel => exact ⟨n + 1, by omega, by go_num, HS7.out, K7⟩
      case measure => simp [intOf]; omega
    · obtain rfl : n = l.length := by omega
      rw [List.take_length] at *
      go_wp2
      go_ret
      exact ⟨_, rfl, HO.out, kw.out⟩
end Go.Proofs.Ytaopjdjbpamhhaa
/- Proved: contract of the reference 07's Tall. Conditions: pairs in memory, those of a treap. -/
namespace Go.Proofs.Ytaopjdjbpamhhaa
open Go Go.RowKit
set_option linter.unusedVariables false
set_option linter.unusedSimpArgs false

theorem Tr.tall_size : ∀ t : Tr, t.tall ≤ t.size
  | .nil => Nat.le_refl _
  | .nd l k v r => by
    have h1 := tall_size l
    have h2 := tall_size r
    simp only [Tr.tall, Tr.size]
    omega
set_option maxRecDepth 100000 in
set_option maxHeartbeats 2000000 in
theorem r7Tall_calls {seed : Int} {D : Nat → Prop} : ∀ (t : Tr), t.good seed → t.size ≤ 1000000 → ∀ (v : Value) (w : World), SV pairEl D w v t.pairs →
    Calls Try.prog 133 #[.int .u64 seed, v] w fun e w' => e = .returned (.int .i64 t.tall) ∧ Kept Noneof w w' := by
  intro t
  induction t with
  | nil =>
    intro hg hs v w h
    have H := Lib.hid h
    obtain ⟨a, c, rfl, _⟩ := h
    go_enter Try.func133, Try.ntmps133
    go_wp2_with fail
    refine (r2Top_calls H.out).mono ?_
    rintro e w1 ⟨rfl, dw⟩
    have e0 : topI seed Tr.nil.pairs = -1 := rfl
    rw [e0]
    go_wp2
    go_ret
    exact ⟨rfl, (Kept.refl _ _).drewn dw⟩
  | nd l k v r il ir =>
    intro hg hs vv w h
    have H := Lib.hid h
    obtain ⟨a, c, rfl, ⟨hlc, _⟩, _⟩ := h
    have IL := Lib.hid (il hg.1 (by simp only [Tr.size] at hs; omega))
    have IR := Lib.hid (ir hg.2.1 (by simp only [Tr.size] at hs; omega))
    have e0 := Tr.top_pairs hg
    have hlen : (Tr.nd l k v r).pairs.length = l.size + 1 + r.size := by rw [Tr.pairs_len]; simp only [Tr.size]; omega
    have HL := Lib.hid (show SV pairEl D w (.slice a l.size c) l.pairs by
      have := H.out.take (n := l.size) (by omega)
      rwa [show (Tr.nd l k v r).pairs.take l.size = l.pairs by simp only [Tr.pairs]; rw [← Tr.pairs_len l]; exact List.take_left] at this)
    have HR := Lib.hid (show SV pairEl D w (.slice (if c = l.size + 1 then a else Option.map (fun x => x.add ((l.size + 1) * 2)) a) r.size (c - (l.size + 1))) r.pairs by
      have := H.out.drop (n := l.size + 1) (d := (l.size + 1) * 2) (by omega) rfl
      rwa [hlen, show l.size + 1 + r.size - (l.size + 1) = r.size by omega, show (Tr.nd l k v r).pairs.drop (l.size + 1) = r.pairs by simp only [Tr.pairs]; rw [← Tr.pairs_len l, List.drop_append]; simp] at this)
    rw [hlen] at hlc H ⊢
    have hc1 : l.size ≤ c := by omega
    have hc2 : l.size + 1 ≤ c := by omega
    have SZ := Lib.hid hs
    have E0 := Lib.hid e0
    have TL := Lib.hid (Nat.le_trans (Tr.tall_size l) (show l.size ≤ 1000000 by simp only [Tr.size] at hs; omega))
    have TR := Lib.hid (Nat.le_trans (Tr.tall_size r) (show r.size ≤ 1000000 by simp only [Tr.size] at hs; omega))
    have hls : l.size ≤ 1000000 := by simp only [Tr.size] at hs; omega
    clear il ir hlc e0 hs hlen
    go_enter Try.func133, Try.ntmps133
    go_wp2_with fail
    refine (r2Top_calls H.out).mono ?_
    rintro e w1 ⟨rfl, dw⟩
    rw [E0.out]
    have DW := Lib.hid dw
    clear dw
    go_wp2_with fail
    refine wp_region_chain 13 [4, 10] (fun _ => True) (by kernel_rfl) (by kernel_rfl) ?_ ?_
    · exact trivial
    simp only [List.take_succ_cons, List.take_zero, List.drop_succ_cons, List.drop_zero]
    iterate 4 (refine SeqY.val (v := ?_) (by rfl) (by rfl) (fun wx hSw => ?_) ?_; rotate_left; (focus ((try dsimp only at hSw); go_simp; (try with_reducible rfl))); (try simp only [Act.put, List.setIfInBounds_toArray, List.set_cons_zero, List.set_cons_succ]))
    refine SeqY.act (by rfl) rfl (by rfl) (by rfl) (fun K hK => ?_)
    go_simp
    refine (IL.out _ w1.drew (HL.out.at (by exact DW.out.heap))).mono ?_
    rintro e w2 ⟨rfl, k2⟩
    refine hK.out _ _ trivial ?_
    have K2 := Lib.hid (((Kept.refl Noneof w).drewn DW.out).drew.tr k2)
    clear K hK k2
    have q1 : IntKind.i64.wrap ((l.size : Int) + 1) = (l.size : Int) + 1 := IntWalk.i64_in _ ⟨by omega, by omega⟩
    have q2 : ((l.size : Int) + 1).toNat = l.size + 1 := by omega
    have q3 : (0 : Int) ≤ (l.size : Int) + 1 := by omega
    have q4 : (l.size : Int) + 1 ≤ (l.size : Int) + 1 + (r.size : Int) := by omega
    (try simp only [Act.put, List.setIfInBounds_toArray, List.set_cons_zero, List.set_cons_succ])
    iterate 5 (refine SeqY.val (v := ?_) (by rfl) (by rfl) (fun wx hSw => ?_) ?_; rotate_left; (focus ((try dsimp only at hSw); go_simp; (try with_reducible rfl))); (try simp only [Act.put, List.setIfInBounds_toArray, List.set_cons_zero, List.set_cons_succ]))
    clear q1 q2 q3 q4
    refine SeqY.act (by rfl) rfl (by rfl) (by rfl) (fun K hK => ?_)
    go_simp
    refine (IR.out _ w2 (by exact HR.out.kept pairEl_k K2.out fun _ _ _ h => h)).mono ?_
    rintro e w3 ⟨rfl, k3⟩
    refine hK.out _ _ trivial ?_
    have K3 := Lib.hid (K2.out.tr k3)
    clear K hK k3
    have t1 : (l.tall : Int) ≤ 1000000 := by have := TL.out; omega
    have t2 : (r.tall : Int) ≤ 1000000 := by have := TR.out; omega
    have w1 : IntKind.i64.wrap (1 + (l.tall : Int)) = 1 + (l.tall : Int) := IntWalk.i64_in _ ⟨by omega, by omega⟩
    have w2 : IntKind.i64.wrap (1 + (r.tall : Int)) = 1 + (r.tall : Int) := IntWalk.i64_in _ ⟨by omega, by omega⟩
    have wm : IntKind.i64.wrap (1 + max (l.tall : Int) (r.tall : Int)) = 1 + max (l.tall : Int) (r.tall : Int) := IntWalk.i64_in _ ⟨by omega, by omega⟩
    (try simp only [Act.put, List.setIfInBounds_toArray, List.set_cons_zero, List.set_cons_succ])
    (refine SeqY.val (v := ?_) (by rfl) (by rfl) (fun wx hSw => ?_) ?_; rotate_left; (focus ((try dsimp only at hSw); go_simp; (try with_reducible rfl))); (try simp only [Act.put, List.setIfInBounds_toArray, List.set_cons_zero, List.set_cons_succ]))
    (refine SeqY.val (v := ?_) (by rfl) (by rfl) (fun wx hSw => ?_) ?_; rotate_left; (focus ((try dsimp only at hSw); go_simp; (try with_reducible rfl))); (try simp only [Act.put, List.setIfInBounds_toArray, List.set_cons_zero, List.set_cons_succ]))
    refine SeqY.nil ?_
    go_wp2
    all_goals
      go_ret
      exact ⟨ret_int (by simp only [Tr.tall]; omega), K3.out⟩
end Go.Proofs.Ytaopjdjbpamhhaa
/- Proved: contract of the reference 07's Differ. Conditions: pairs in memory. -/
namespace Go.Proofs.Ytaopjdjbpamhhaa
open Go Go.RowKit
set_option linter.unusedVariables false
set_option linter.unusedSimpArgs false

theorem countP_succ {α : Type} {f : α → Bool} {l : List α} {n : Nat} (h : n < l.length) : (l.take (n + 1)).countP f = (l.take n).countP f + if f l[n] = true then 1 else 0 := by
  rw [List.take_succ_eq_append_getElem h, List.countP_append, List.countP_cons, List.countP_nil, Nat.zero_add]
def dif1 (b : List (Bts × Bts)) (p : Bts × Bts) : Bool := getK b p.1 != some p.2
def dif2 (a : List (Bts × Bts)) (p : Bts × Bts) : Bool := !hasK a p.1
def differK (a b : List (Bts × Bts)) : Nat := a.countP (dif1 b) + b.countP (dif2 a)
theorem differ_diffS (F U : List (Bts × Bts)) : differK F U = diffS F U [] [] false := by
  simp only [differK, diffS, inS_all, Bool.true_and]
  rfl

set_option maxRecDepth 100000 in
set_option maxHeartbeats 2000000 in
theorem r7Differ_calls {D1 D2 : Nat → Prop} {v1 v2 : Value} {a b : List (Bts × Bts)} {w : World} (h1 : SV pairEl D1 w v1 a) (h2 : SV pairEl D2 w v2 b) :
    Calls Try.prog 132 #[v1, v2] w fun e w' => e = .returned (.int .i64 (differK a b)) ∧ Drew w w' := by
  have H1 := Lib.hid h1
  have H2 := Lib.hid h2
  obtain ⟨a1, c1, rfl, _, m1, rd1⟩ := h1
  obtain ⟨a2, c2, rfl, _, m2, rd2⟩ := h2
  have R1 := Lib.hid rd1
  have R2 := Lib.hid rd2
  clear rd1 rd2
  go_enter Try.func132, Try.ntmps132
  go_wp2
  go_loopw [5, 6] (fun n i w' => ∃ k c : Nat, k ≤ a.length ∧ c ≤ k ∧ i = .int .i64 k ∧ n = .int .i64 c ∧ Hid (c = (a.take k).countP (dif1 b)) ∧ Drew w w') (fun _ i _ => a.length - (intOf i).toNat)
  case atStart => exact ⟨0, 0, by omega, by omega, rfl, rfl, Lib.hid (by simp), Drew.refl _⟩
  case round =>
    obtain ⟨k, c, hk, hck, rfl, rfl, HC, ⟨n, rfl⟩⟩ := hrel
    by_cases hl : k < a.length
    · obtain ⟨b1, o1, u, v, rfl, _, g0, g1, hkv, hvv⟩ := Rd.pair R1.out hl
      have HK := Lib.hid hkv
      have HV := Lib.hid hvv
      have CS := Lib.hid (countP_succ (f := dif1 b) hl)
      clear hkv hvv
      go_wp2_with fail
      refine (r2Get_calls (w := w.drewN n) (by exact SV.at H2.out rfl) (by exact SV.at HK.out rfl)).mono ?_
      rintro e w1 ⟨h1 | h1, n1, rfl⟩
      · obtain ⟨vx, x, hx, rfl, hvx⟩ := h1
        have HX := Lib.hid hvx
        have GX := Lib.hid hx
        obtain ⟨a3, c3, rfl, _⟩ := id hvx
        clear hx hvx
        by_cases hc : cmpB x a[k].2 = 0
        · have e1 : (cmpB x a[k].2 != 0) = false := by rw [bne_eq_false_iff_eq]; exact hc
          have HF := Lib.hid (show dif1 b a[k] = false by rw [dif1, GX.out, cmpB_zero hc]; simp)
          clear hc
          go_wp2_with fail
          refine (r2Compare_calls (by exact SV.at HX.out rfl) (by exact SV.at HV.out rfl)).mono ?_
          rintro e w2 ⟨rfl, n2, rfl⟩
          go_wp2
          go_roundw
          case rel => exact ⟨k + 1, c, by omega, by omega, by go_num, rfl, Lib.hid (by rw [CS.out, HF.out, ← HC.out]; simp), (by repeat (first | exact Drew.refl _ | exact ⟨_, rfl⟩ | apply Drew.step | apply Drew.one))⟩
          case measure => simp [intOf]; omega
        · have e1 : (cmpB x a[k].2 != 0) = true := by rw [bne_iff_ne]; exact hc
          have HF := Lib.hid (show dif1 b a[k] = true by
            rw [dif1, GX.out, bne_iff_ne]
            intro h
            exact hc (by rw [Option.some.inj h, cmpB_self]))
          clear hc
          go_wp2_with fail
          refine (r2Compare_calls (by exact SV.at HX.out rfl) (by exact SV.at HV.out rfl)).mono ?_
          rintro e w2 ⟨rfl, n2, rfl⟩
          go_wp2
          go_roundw
          case rel => exact ⟨k + 1, c + 1, by omega, by omega, by go_num, by go_num, Lib.hid (by rw [CS.out, HF.out, ← HC.out]; simp), (by repeat (first | exact Drew.refl _ | exact ⟨_, rfl⟩ | apply Drew.step | apply Drew.one))⟩
          case measure => simp [intOf]; omega
      · obtain ⟨hx, rfl⟩ := h1
        have HF := Lib.hid (show dif1 b a[k] = true by rw [dif1, hx]; rfl)
        clear hx
        go_wp2
        go_roundw
        case rel => exact ⟨k + 1, c + 1, by omega, by omega, by go_num, by go_num, Lib.hid (by rw [CS.out, HF.out, ← HC.out]; simp), (by repeat (first | exact Drew.refl _ | exact ⟨_, rfl⟩ | apply Drew.step | apply Drew.one))⟩
        case measure => simp [intOf]; omega
    · obtain rfl : k = a.length := by omega
      have HD := Lib.hid (show c = a.countP (dif1 b) by rw [HC.out, List.take_length])
      clear HC
      go_wp2
      go_loopw [5, 9] (fun n i w' => ∃ k d : Nat, k ≤ b.length ∧ d ≤ a.length + k ∧ i = .int .i64 k ∧ n = .int .i64 d ∧ Hid (d = c + (b.take k).countP (dif2 a)) ∧ Drew w w') (fun _ i _ => b.length - (intOf i).toNat)
      case atStart => exact ⟨0, c, by omega, by omega, rfl, rfl, Lib.hid (by simp), (by repeat (first | exact Drew.refl _ | exact ⟨_, rfl⟩ | apply Drew.step | apply Drew.one))⟩
      case round =>
        obtain ⟨k, d, hk, hdk, rfl, rfl, HE, ⟨n, rfl⟩⟩ := hrel
        by_cases hl : k < b.length
        · obtain ⟨b1, o1, u, v, rfl, _, g0, g1, hkv, hvv⟩ := Rd.pair R2.out hl
          have HK := Lib.hid hkv
          have CS := Lib.hid (countP_succ (f := dif2 a) hl)
          clear hkv hvv
          go_wp2_with fail
          refine (r2Has_calls (by exact SV.at H1.out rfl) (by exact SV.at HK.out rfl)).mono ?_
          rintro e w1 ⟨rfl, n1, rfl⟩
          cases hh : hasK a b[k].1
          · have HF := Lib.hid (show dif2 a b[k] = true by rw [dif2, hh]; rfl)
            clear hh
            go_wp2
            go_roundw
            case rel => exact ⟨k + 1, d + 1, by omega, by omega, by go_num, by go_num, Lib.hid (by rw [CS.out, HF.out, HE.out]; simp [Nat.add_assoc]), (by repeat (first | exact Drew.refl _ | exact ⟨_, rfl⟩ | apply Drew.step | apply Drew.one))⟩
            case measure => simp [intOf]; omega
          · have HF := Lib.hid (show dif2 a b[k] = false by rw [dif2, hh]; rfl)
            clear hh
            go_wp2
            go_roundw
            case rel => exact ⟨k + 1, d, by omega, by omega, by go_num, rfl, Lib.hid (by rw [CS.out, HF.out, HE.out]; simp), (by repeat (first | exact Drew.refl _ | exact ⟨_, rfl⟩ | apply Drew.step | apply Drew.one))⟩
            case measure => simp [intOf]; omega
        · obtain rfl : k = b.length := by omega
          go_wp2
          go_ret
          exact ⟨ret_int (by rw [HE.out, HD.out, List.take_length]; rfl), (by repeat (first | exact Drew.refl _ | exact ⟨_, rfl⟩ | apply Drew.step | apply Drew.one))⟩
end Go.Proofs.Ytaopjdjbpamhhaa
/- Proved: contracts of the reference 07's Most and of the law SwapFew's own code. Conditions: pairs in memory. -/
namespace Go.Proofs.Ytaopjdjbpamhhaa
open Go Go.RowKit
set_option linter.unusedVariables false
set_option linter.unusedSimpArgs false

theorem differK_le (a b : List (Bts × Bts)) : differK a b ≤ a.length + b.length := Nat.add_le_add List.countP_le_length List.countP_le_length
def mostK (d h : Nat) : Nat := 1 + 2 * d * (h + 1)
theorem most_math {d h : Nat} (h1 : d ≤ 100000) (h2 : h ≤ 100000) : IntKind.i64.wrap (2 * (d : Int) * ((h : Int) + 1)) = ((2 * d * (h + 1) : Nat) : Int) ∧ 2 * d * (h + 1) ≤ 20000200000 := by
  have h3 : 2 * d * (h + 1) ≤ 200000 * 100001 := Nat.mul_le_mul (by omega) (by omega)
  refine ⟨?_, by omega⟩
  have e : 2 * (d : Int) * ((h : Int) + 1) = ((2 * d * (h + 1) : Nat) : Int) := by rw [Int.natCast_mul, Int.natCast_mul]; rfl
  rw [e]
  exact IntWalk.i64_in _ ⟨by omega, by omega⟩

set_option maxRecDepth 100000 in
set_option maxHeartbeats 1000000 in
theorem r7Most_calls {seed : Int} {D1 D2 : Nat → Prop} {v1 v2 : Value} {t : Tr} {b : List (Bts × Bts)} {w : World} (hg : t.good seed) (hs : t.size ≤ 50000) (hb : b.length ≤ 50000) (h1 : SV pairEl D1 w v1 t.pairs) (h2 : SV pairEl D2 w v2 b) :
    Calls Try.prog 64 #[.int .u64 seed, v1, v2] w fun e w' => e = .returned (.int .i64 (mostK (differK t.pairs b) t.tall)) ∧ Kept Noneof w w' := by
  have H1 := Lib.hid h1
  have H2 := Lib.hid h2
  have HG := Lib.hid hg
  have hd := differK_le t.pairs b
  rw [Tr.pairs_len] at hd
  have ht := Tr.tall_size t
  have hd' : differK t.pairs b ≤ 100000 := by omega
  have ht' : t.tall ≤ 100000 := by omega
  have HS := Lib.hid hs
  obtain ⟨q1, q2⟩ := most_math hd' ht'
  generalize hP : 2 * differK t.pairs b * (t.tall + 1) = p at *
  have HP := Lib.hid hP
  have Q1 := Lib.hid q1
  obtain ⟨a1, c1, rfl, _⟩ := h1
  obtain ⟨a2, c2, rfl, _⟩ := h2
  clear hg hs hb hd ht hP q1
  go_enter Try.func64, Try.ntmps64
  go_wp2_with fail
  refine (r7Differ_calls H1.out H2.out).mono ?_
  rintro e w1 ⟨rfl, n1, rfl⟩
  go_wp2_with fail
  refine (r7Tall_calls t HG.out (by have := HS.out; omega) _ (w.drewN n1) (H1.out.at rfl)).mono ?_
  rintro e w2 ⟨rfl, k2⟩
  have q1 := Q1.out
  go_wp2
  go_ret
  exact ⟨ret_int (by rw [mostK, HP.out]; omega), ((Kept.refl Noneof w).drewN n1).tr k2⟩

theorem few_plain {seed : Int} {t u : Tr} (ht : t.good seed) (hu : u.good seed) : 1 ≤ (talk seed u t [] [] false).length ∧ (talk seed u t [] [] false).length ≤ mostK (differK t.pairs u.pairs) t.tall := by
  refine ⟨talk_pos _ _ _ _, ?_⟩
  have h := talk_few (Tr.good_srt ht) hu t [] [] false ht (filter_all _).symm
  rw [← differ_diffS] at h
  refine Nat.le_trans h ?_
  unfold mostK
  have : differK t.pairs u.pairs * t.tall ≤ differK t.pairs u.pairs * (t.tall + 1) := Nat.mul_le_mul_left _ (Nat.le_succ _)
  rw [Nat.mul_assoc]
  omega
/-- The map of some pairs. -/
abbrev fillT (seed : Int) (l : List (Bts × Bts)) : Tr := putAll seed .nil l
theorem fillT_good (seed : Int) (l : List (Bts × Bts)) : (fillT seed l).good seed := putAll_good (seed := seed) (u := .nil) trivial
theorem fillT_pairs (seed : Int) (l : List (Bts × Bts)) : (fillT seed l).pairs = sortedL l := putAll_pairs (seed := seed) (u := .nil) trivial
theorem fillT_size (seed : Int) (l : List (Bts × Bts)) : (fillT seed l).size ≤ l.length := by
  have := putAll_size seed l .nil
  simpa [Tr.size] using this
theorem fillT_okP {seed : Int} {l : List (Bts × Bts)} (h : ∀ p ∈ l, allowedK p.1 p.2 = true) : (fillT seed l).ok := by
  have : ∀ (l : List (Bts × Bts)) (u : Tr), u.ok → (∀ p ∈ l, allowedK p.1 p.2 = true) → (putAll seed u l).ok := by
    intro l
    induction l with
    | nil => exact fun u h _ => h
    | cons p l ih =>
      intro u hu h
      have hp := h p (by simp)
      simp only [allowedK, Bool.and_eq_true, decide_eq_true_eq] at hp
      rw [putAll_cons]
      exact ih _ (Tr.put_ok ⟨hp.1.1, hp.1.2, hp.2⟩ hu) fun q hq => h q (by simp [hq])
  exact this l .nil trivial h
theorem MapAt.lt {seed : Int} {w : World} {m : Nat} {t : Tr} {F : Nat → Prop} (h : MapAt seed w m t F) : m < w.heap.size := by
  obtain ⟨p, S, D, h⟩ := h
  exact block_lt h.ho

set_option maxRecDepth 100000 in
set_option maxHeartbeats 2000000 in
theorem swapFew_walk {seed : Int} {D1 D2 : Nat → Prop} {w : World} {v1 v2 : Value} {l1 l2 : List (Bts × Bts)} (h1 : SV pairEl D1 w v1 l1) (h2 : SV pairEl D2 w v2 l2) (hl1 : ∀ b, D1 b → b < w.heap.size) (hl2 : ∀ b, D2 b → b < w.heap.size) :
    Calls Try.prog 15 #[.int .u64 seed, v1, v2] w fun e w' => e = .returned (.bool true) ∧ Kept Noneof w w' := by
  have H1 := Lib.hid h1
  have H2 := Lib.hid h2
  obtain ⟨a1, c1, rfl, _⟩ := h1
  obtain ⟨a2, c2, rfl, _⟩ := h2
  go_enter Try.func15, Try.ntmps15
  go_wp2_with fail
  refine (l7few_calls H1.out).mono ?_
  rintro e w1 ⟨rfl, k1⟩
  have K1 := Lib.hid k1
  clear k1
  cases hf1 : fewK l1
  · go_wp2
    go_ret
    exact ⟨rfl, K1.out⟩
  have F1 := Lib.hid hf1
  clear hf1
  go_wp2_with fail
  refine (l7few_calls (H2.out.kept pairEl_k K1.out fun _ _ _ h => h)).mono ?_
  rintro e w2 ⟨rfl, k2⟩
  have K2 := Lib.hid (K1.out.tr k2)
  clear k2
  cases hf2 : fewK l2
  · go_wp2
    go_ret
    exact ⟨rfl, K2.out⟩
  have F2 := Lib.hid hf2
  clear hf2
  go_wp2_with fail
  refine (l7filled_calls (seed := seed) (H1.out.kept pairEl_k K2.out fun _ _ _ h => h) F1.out).mono ?_
  rintro e w3 ⟨m1, G1, rfl, hm1, hg1, _, k3⟩
  have K3 := Lib.hid (K2.out.tr k3)
  have M1 := Lib.hid hm1
  clear hm1 hg1 k3
  go_wp2_with fail
  refine (l7filled_calls (seed := seed) (H2.out.kept pairEl_k K3.out fun _ _ _ h => h) F2.out).mono ?_
  rintro e w4 ⟨m2, G2, rfl, hm2, hg2, hlo, k4⟩
  have K4 := Lib.hid (K3.out.tr k4)
  have M1b := Lib.hid (M1.out.kept k4 fun _ _ h => h)
  have NE := Lib.hid (show m1 ≠ m2 by have := M1.out.lt; omega)
  have M2 := Lib.hid hm2
  have HG2 := Lib.hid (show ∀ b, G2 b → w.heap.size ≤ b from fun b h => Nat.le_trans K3.out.size (hg2 b h))
  clear hm2 hg2 k4 hlo M1
  go_wp2_with fail
  refine (l7sorted_calls (H1.out.kept pairEl_k K4.out fun _ _ _ h => h) (fewK_iff F1.out).1).mono ?_
  rintro e w5 ⟨v5, rfl, s5, k5⟩
  have K5 := Lib.hid (K4.out.tr k5)
  have M1c := Lib.hid (M1b.out.kept k5 fun _ _ h => h)
  have M2c := Lib.hid (M2.out.kept k5 fun _ _ h => h)
  have S5 := Lib.hid s5
  obtain ⟨a5, c5, rfl, _⟩ := s5
  clear k5 M1b M2
  go_wp2_with fail
  refine (l7sorted_calls (H2.out.kept pairEl_k K5.out fun _ _ _ h => h) (fewK_iff F2.out).1).mono ?_
  rintro e w6 ⟨v6, rfl, s6, k6⟩
  have K6 := Lib.hid (K5.out.tr k6)
  have M1d := Lib.hid (M1c.out.kept k6 fun _ _ h => h)
  have M2d := Lib.hid (M2c.out.kept k6 fun _ _ h => h)
  have S5b := Lib.hid (S5.out.kept pairEl_k k6 fun _ _ _ h => h)
  have S6 := Lib.hid s6
  obtain ⟨a6, c6, rfl, _⟩ := s6
  clear k6 M1c M2c S5
  have z1 := Lib.hid (Nat.le_trans (fillT_size seed l1) (fewK_iff F1.out).1)
  have z2 := Lib.hid (Nat.le_trans (fillT_size seed l2) (fewK_iff F2.out).1)
  have e1 := fillT_pairs seed l1
  have e2 := fillT_pairs seed l2
  have E1 := Lib.hid e1
  have E2 := Lib.hid e2
  clear e1 e2
  go_wp2_with fail
  refine (r7Most_calls (t := fillT seed l1) (fillT_good seed l1) (by have := z1.out; omega) (b := sortedL l2) (by rw [← E2.out, Tr.pairs_len]; have := z2.out; omega) (by rw [E1.out]; exact S5b.out) S6.out).mono ?_
  rintro e w7 ⟨rfl, k7⟩
  have K7 := Lib.hid (K6.out.tr k7)
  have M1e := Lib.hid (M1d.out.kept k7 fun _ _ h => h)
  have M2e := Lib.hid ((M2d.out.kept k7 fun _ _ h => h).wide (F' := fun b => G2 b ∧ b < w7.heap.size) fun b h hl => ⟨h, hl⟩)
  clear k7 M1d M2d
  have OK := Lib.hid (fillT_okP (seed := seed) (fewK_iff F1.out).2)
  have FP := Lib.hid (few_plain (fillT_good seed l1) (fillT_good seed l2))
  rw [E2.out] at FP
  generalize mostK (differK (fillT seed l1).pairs (sortedL l2)) (fillT seed l1).tall = M at *
  go_wp2_with fail
  refine (swMirror_calls (t := fillT seed l1) (u := fillT seed l2) M1e.out M2e.out NE.out (Tr.good_srt (fillT_good seed l2)) OK.out (by have := z1.out; omega) (by have := z2.out; omega) (by have := z1.out; have := z2.out; omega) fun b h => h.2).mono ?_
  rintro e w8 ⟨v8, G3, rfl, s8, _, _, k8⟩
  have K8 := Lib.hid (K7.out.trans k8 fun b h => .inr (HG2.out b h.1))
  obtain ⟨a8, c8, rfl, _⟩ := s8
  generalize (talk seed (fillT seed l2) (fillT seed l1) [] [] false).length = T at *
  have f1 := FP.out.1
  have f2 := FP.out.2
  clear k8
  go_wp2
  go_ret
  exact ⟨ret_bool (by simp), K8.out⟩
end Go.Proofs.Ytaopjdjbpamhhaa
/- Proved: contract of the reference 02's Span: the pairs of a span. Conditions: pairs in memory. -/
namespace Go.Proofs.Ytaopjdjbpamhhaa
open Go Go.RowKit
set_option linter.unusedVariables false
set_option linter.unusedSimpArgs false

theorem SV.nil {α : Type} {E : El α} (D : Nat → Prop) (w : World) : SV E D w (.slice none 0 0) [] := ⟨none, 0, rfl, ⟨by simp, fun _ => rfl⟩, by simp, Rd.nil _ _ _ _⟩
def spanTo (l : List (Bts × Bts)) (high : Bts) (bd : Bool) : Nat := if bd = true then rank l high else l.length
def spanL (l : List (Bts × Bts)) (low high : Bts) (bd : Bool) : List (Bts × Bts) := if spanTo l high bd < rank l low then [] else (l.take (spanTo l high bd)).drop (rank l low)
theorem spanTo_le (l : List (Bts × Bts)) (high : Bts) (bd : Bool) : spanTo l high bd ≤ l.length := by
  unfold spanTo
  split
  · exact rank_le l high
  · exact Nat.le_refl _
theorem inS_lo {p : Bts × Bts} {low high : Bts} {bd : Bool} (h : cmpB p.1 low < 0) : inS low true high bd p = false := by simp [inS, h]
theorem inS_hi {p : Bts × Bts} {low high : Bts} (h : ¬ cmpB p.1 high < 0) : inS low true high true p = false := by simp [inS, h]
theorem rank_zero {l : List (Bts × Bts)} {k : Bts} (h : ∀ p ∈ l, ¬ cmpB p.1 k < 0) : rank l k = 0 := by
  cases l with
  | nil => rfl
  | cons p l => rw [rank_cons, if_neg (h p (by simp))]
theorem spanL_filter : ∀ {l : List (Bts × Bts)} {low high : Bts} {bd : Bool}, Srt l → spanL l low high bd = l.filter (inS low true high bd)
  | [], low, high, bd, _ => by cases bd <;> simp [spanL, spanTo, rank]
  | p :: l, low, high, bd, hs => by
    have hs' := List.pairwise_cons.1 hs
    have ih := spanL_filter (l := l) (low := low) (high := high) (bd := bd) hs'.2
    have later : ∀ k, ¬ cmpB p.1 k < 0 → ∀ q ∈ l, ¬ cmpB q.1 k < 0 := fun k h q hq e => h (cmpB_trans (hs'.1 q hq) e)
    rw [List.filter_cons]
    by_cases c : cmpB p.1 low < 0
    · rw [inS_lo c, if_neg (by simp), ← ih]
      unfold spanL spanTo
      rw [rank_cons p l low, if_pos c]
      cases bd with
      | false => simp
      | true =>
        simp only [if_true]
        rw [rank_cons p l high]
        by_cases d : cmpB p.1 high < 0
        · rw [if_pos d]
          simp
        · have e : rank l high = 0 := rank_zero (later high d)
          rw [if_neg d, if_pos (by omega), e]
          split
          · rfl
          · simp
    · have e0 : rank l low = 0 := rank_zero (later low c)
      unfold spanL spanTo at ih ⊢
      rw [rank_cons p l low, if_neg c]
      rw [e0] at ih
      simp only [Nat.not_lt_zero, if_false, List.drop_zero] at ih ⊢
      cases bd with
      | false =>
        simp only [Bool.false_eq_true, if_false, List.take_length] at ih ⊢
        rw [if_pos (by simp [inS, c]), ← ih]
      | true =>
        simp only [if_true] at ih ⊢
        rw [rank_cons p l high]
        by_cases d : cmpB p.1 high < 0
        · rw [if_pos d, if_pos (by simp [inS, c, d]), ← ih, List.take_succ_cons]
        · rw [if_neg d, inS_hi d, if_neg (by simp), List.take_zero]
          exact (List.filter_eq_nil_iff.2 fun q hq => by rw [inS_hi (later high d q hq)]; simp).symm

set_option maxRecDepth 100000 in
set_option maxHeartbeats 1000000 in
theorem r2Span_calls {D D1 D2 : Nat → Prop} {v0 v1 v2 : Value} {l : List (Bts × Bts)} {low high : Bts} {bd : Bool} {w : World} (h0 : SV pairEl D w v0 l) (h1 : BV D1 w v1 low) (h2 : BV D2 w v2 high) :
    Calls Try.prog 126 #[v0, v1, v2, .bool bd] w fun e w' => ∃ v', e = .returned v' ∧ SV pairEl D w v' (spanL l low high bd) ∧ Drew w w' := by
  have H0 := Lib.hid h0
  have H1 := Lib.hid h1
  have H2 := Lib.hid h2
  have hr1 := rank_le l low
  have hr2 := spanTo_le l high bd
  obtain ⟨a0, c0, rfl, ⟨hlc, _⟩, hl47, _⟩ := h0
  obtain ⟨a1, c1, rfl, _⟩ := h1
  obtain ⟨a2, c2, rfl, _⟩ := h2
  have HT := Lib.hid (show ∀ n m, n ≤ l.length → m ≤ n → SV pairEl D w (.slice (if c0 = m then a0 else Option.map (fun x => x.add (m * 2)) a0) (n - m) (c0 - m)) ((l.take n).drop m) from fun n m hn hm => by
    have e : (l.take n).length = n := by rw [List.length_take]; omega
    have t : SV pairEl D w (.slice a0 (l.take n).length c0) (l.take n) := by rw [e]; exact H0.out.take hn
    have := t.drop (n := m) (d := m * 2) (by rw [e]; exact hm) rfl
    rwa [e] at this)
  cases bd
  · have S := Lib.hid (show spanL l low high false = if l.length < rank l low then [] else (l.take l.length).drop (rank l low) from rfl)
    have T := Lib.hid (HT.out l.length (rank l low) (Nat.le_refl _) hr1)
    rw [List.take_length] at S T
    have hn : ¬ l.length < rank l low := by omega
    have hc : rank l low ≤ c0 := by omega
    go_enter Try.func126, Try.ntmps126
    go_wp2_with fail
    refine (r2Rank_calls (by exact SV.at H0.out rfl) (by exact SV.at H1.out rfl)).mono ?_
    rintro e w1 ⟨rfl, n1, rfl⟩
    generalize rank l low = m at *
    go_wp2
    all_goals
      go_ret
      refine ⟨_, rfl, ?_, (by repeat (first | exact Drew.refl _ | exact ⟨_, rfl⟩ | apply Drew.step | apply Drew.one))⟩
      have := T.out
      rw [S.out, if_neg hn]
      first | (rw [if_neg (by assumption)] at this; exact this.at rfl) | (rw [if_pos (by assumption), show c0 - m = 0 by omega] at this; exact this.at rfl)
  · have S := Lib.hid (show spanL l low high true = if rank l high < rank l low then [] else (l.take (rank l high)).drop (rank l low) from rfl)
    have hr2 := rank_le l high
    have T := Lib.hid (HT.out (rank l high) (rank l low) hr2)
    go_enter Try.func126, Try.ntmps126
    go_wp2_with fail
    refine (r2Rank_calls (by exact SV.at H0.out rfl) (by exact SV.at H1.out rfl)).mono ?_
    rintro e w1 ⟨rfl, n1, rfl⟩
    go_wp2_with fail
    refine (r2Rank_calls (by exact SV.at H0.out rfl) (by exact SV.at H2.out rfl)).mono ?_
    rintro e w2 ⟨rfl, n2, rfl⟩
    generalize rank l low = m at *
    generalize rank l high = n at *
    by_cases hlt : n < m
    · go_wp2
      go_ret
      exact ⟨_, rfl, by rw [S.out, if_pos hlt]; exact SV.nil _ _, (by repeat (first | exact Drew.refl _ | exact ⟨_, rfl⟩ | apply Drew.step | apply Drew.one))⟩
    · have hc : n ≤ c0 := by omega
      go_wp2
      all_goals
        go_ret
        refine ⟨_, rfl, ?_, (by repeat (first | exact Drew.refl _ | exact ⟨_, rfl⟩ | apply Drew.step | apply Drew.one))⟩
        have := T.out (by omega)
        rw [S.out, if_neg hlt]
        first | (rw [if_neg (by assumption)] at this; exact this.at rfl) | (rw [if_pos (by assumption), show c0 - m = 0 by omega] at this; exact this.at rfl)
end Go.Proofs.Ytaopjdjbpamhhaa
/- Proved: contracts of the reference 02's grow, Nodes, Digest: the nodes of the map of some pairs. Conditions: pairs in memory, those of a treap. -/
namespace Go.Proofs.Ytaopjdjbpamhhaa
open Go Go.RowKit
set_option linter.unusedVariables false
set_option linter.unusedSimpArgs false

/-- The block of a node of the reference. -/
def ndObj (k v : Value) (dg : Int) (size left right : Int) : Obj := .cells #[k, v, .int .u64 dg, .int .i64 size, .int .i64 left, .int .i64 right] 172
theorem Tr.pairs_at {l r : Tr} {k v : Bts} (h : l.size < (Tr.nd l k v r).pairs.length) : (Tr.nd l k v r).pairs[l.size] = (k, v) := by
  have := Tr.pairs_len l
  simp [Tr.pairs, ← this]
theorem SV.parts {D : Nat → Prop} {w : World} {a : Option Addr} {c : Nat} {l r : Tr} {k v : Bts} (h : SV pairEl D w (.slice a (l.size + 1 + r.size) c) (Tr.nd l k v r).pairs) :
    SV pairEl D w (.slice a l.size c) l.pairs ∧ SV pairEl D w (.slice (if c = l.size + 1 then a else Option.map (fun x => x.add ((l.size + 1) * 2)) a) r.size (c - (l.size + 1))) r.pairs := by
  have hlen : (Tr.nd l k v r).pairs.length = l.size + 1 + r.size := by rw [Tr.pairs_len]; simp only [Tr.size]; omega
  have h' : SV pairEl D w (.slice a (Tr.nd l k v r).pairs.length c) (Tr.nd l k v r).pairs := by rw [hlen]; exact h
  constructor
  · have := h'.take (n := l.size) (by omega)
    rwa [show (Tr.nd l k v r).pairs.take l.size = l.pairs by simp only [Tr.pairs]; rw [← Tr.pairs_len l]; exact List.take_left] at this
  · have := h'.drop (n := l.size + 1) (d := (l.size + 1) * 2) (by omega) rfl
    rwa [hlen, show l.size + 1 + r.size - (l.size + 1) = r.size by omega, show (Tr.nd l k v r).pairs.drop (l.size + 1) = r.pairs by simp only [Tr.pairs]; rw [← Tr.pairs_len l, List.drop_append]; simp] at this
/-- An element of a row of the call's own, as cells. -/
theorem Own.node {e : TypeId} {D : Nat → Prop} {B : Nat} {w : World} {a : Option Addr} {n c : Nat} {L : List ND} (h : Own e nodeEl D B w (.slice a n c) L) {i : Nat} {x : ND} (hx : L[i]? = some x) :
    ∃ g, a = some ⟨g, 0, none⟩ ∧ n = L.length ∧ w.cell? ⟨g, 0 + i * 6 + 2, none⟩ = some (.int .u64 x.dg) := by
  obtain ⟨hi, rfl⟩ := List.getElem?_eq_some_iff.1 hx
  obtain ⟨a', c', hv⟩ := h.slice
  simp only [Value.slice.injEq] at hv
  obtain ⟨rfl, rfl, rfl⟩ := hv
  obtain ⟨_, _, _, xs, ⟨_, h2⟩, _⟩ := id h
  rcases h2 with ⟨hh, hn⟩ | ⟨g, cap, cur, hh, _⟩
  · rw [hn] at hi; exact absurd hi (Nat.not_lt_zero _)
  · simp only [Value.slice.injEq] at hh
    obtain ⟨rfl, _, rfl⟩ := hh
    obtain ⟨a2, c2, e1, _, _, rd⟩ := h.sv
    simp only [Value.slice.injEq, true_and] at e1
    obtain ⟨rfl, rfl⟩ := e1
    obtain ⟨b, o, u, v, e2, _, _, _, g2, _⟩ := Rd.node rd hi
    simp only [Option.some.injEq, Addr.mk.injEq, and_true] at e2
    obtain ⟨rfl, rfl⟩ := e2
    exact ⟨_, rfl, rfl, g2⟩

theorem nodes_head {seed : Int} {l : Tr} (h : 0 < l.size) (i : Int) : ∃ x, (l.nodes seed i)[0]? = some x ∧ x.dg = l.dg seed := by
  cases l with
  | nil => simp [Tr.size] at h
  | nd l k v r => exact ⟨_, rfl, rfl⟩
/-- The cells of an element of a row of nodes. -/
theorem Own.row6 {e : TypeId} {D : Nat → Prop} {B : Nat} {w : World} {g n c : Nat} {L : List ND} (h : Own e nodeEl D B w (.slice (some ⟨g, 0, none⟩) n c) L) {i : Nat} (hi : i < L.length) :
    ∃ cur, w.heap[g]? = some (.cells cur e) ∧ i * 6 + 6 ≤ cur.size ∧ ∀ j, j < 6 → ∃ u, w.cell? ⟨g, i * 6 + j, none⟩ = some u := by
  obtain ⟨_, _, _, xs, ⟨_, h2⟩, _⟩ := id h
  rcases h2 with ⟨hh, hn⟩ | ⟨g', cap, cur, hh, _, hg, hle, _, hs, _⟩
  · cases hh
  · simp only [Value.slice.injEq, Option.some.injEq, Addr.mk.injEq, and_true] at hh
    obtain ⟨rfl, _, rfl⟩ := hh
    have hk : nodeEl.k = 6 := rfl
    rw [hk] at hs
    have hsz : i * 6 + 6 ≤ cur.size := by omega
    refine ⟨cur, hg, hsz, fun j hj => ⟨cur[i * 6 + j]'(by omega), ?_⟩⟩
    simp [World.cell?, hg, Array.getElem?_eq_getElem (show i * 6 + j < cur.size by omega)]
theorem set_mid {α : Type} (a b c : List α) (x y : α) : (a ++ [x] ++ b ++ c).set a.length y = a ++ y :: (b ++ c) := by
  rw [List.append_assoc, List.append_assoc, List.set_append_right _ _ (Nat.le_refl _), Nat.sub_self]
  rfl
theorem Own.bd {α : Type} {E : El α} {D : Nat → Prop} {w : World} {v : Value} {l : List α} {e : TypeId} {B : Nat} (h : Own e E D B w v l) : Own e E (fun b => D b ∧ b < w.heap.size) B w v l := by
  obtain ⟨hl, D0, h0, r⟩ := h
  exact ⟨hl, D0, fun b hb => ⟨⟨(h0 b hb).1, (h0 b hb).2.1⟩, (h0 b hb).2⟩, r⟩
/-- How things stand while the nodes grow: the row, the node that is being made (in block bm), its key and value. -/
structure GrowSt (B : Nat) (R : Nat → Prop) (w wz : World) (v0 : Value) (bm : Nat) (kx vx : Value) (k v : Bts) (ws : World) (vN : Value) (L : List ND) (dg size left right : Int) : Prop where
  row : Own 172 nodeEl (fun b => R b ∧ b < w.heap.size ∨ w.heap.size ≤ b ∧ b ≠ bm) B ws vN L
  own : ∀ b, vN.ownBlock = some b → v0.ownBlock = some b ∨ wz.heap.size ≤ b
  ob : ws.heap[bm]? = some (ndObj kx vx dg size left right)
  ka : BV (fun b => w.heap.size ≤ b ∧ b ≠ bm ∧ b < wz.heap.size) ws kx k
  va : BV (fun b => w.heap.size ≤ b ∧ b ≠ bm ∧ b < wz.heap.size) ws vx v
  kept : Kept (fun b => v0.ownBlock = some b) w ws
  zs : wz.heap.size ≤ ws.heap.size
  bz : w.heap.size ≤ bm ∧ bm < wz.heap.size
  v0w : ∀ b, v0.ownBlock = some b → b < w.heap.size
section
variable {B : Nat} {R : Nat → Prop} {w wz : World} {v0 : Value} {bm : Nat} {kx vx : Value} {k v : Bts} {ws ws' : World} {vN vN' : Value} {L L' : List ND} {dg size left right : Int}
theorem ndObj_cells {w : World} {bm : Nat} {kx vx : Value} {dg size left right : Int} (h : w.heap[bm]? = some (ndObj kx vx dg size left right)) : w.cell? ⟨bm, 0, none⟩ = some kx ∧ w.cell? ⟨bm, 1, none⟩ = some vx ∧ w.cell? ⟨bm, 2, none⟩ = some (.int .u64 dg) ∧ w.cell? ⟨bm, 3, none⟩ = some (.int .i64 size) ∧ w.cell? ⟨bm, 4, none⟩ = some (.int .i64 left) ∧ w.cell? ⟨bm, 5, none⟩ = some (.int .i64 right) ∧ ∀ j, w.frozen? ⟨bm, j, none⟩ = false := by
  unfold ndObj at h
  simp [World.cell?, World.frozen?, h]
theorem GrowSt.nb (h : GrowSt B R w wz v0 bm kx vx k v ws vN L dg size left right) : vN.ownBlock ≠ some bm := fun e => (h.own bm e).elim (fun e => by have := h.v0w bm e; have := h.bz; omega) fun e => by have := h.bz; omega
theorem GrowSt.still (h : GrowSt B R w wz v0 bm kx vx k v ws vN L dg size left right) (kw : Kept Noneof ws ws') : GrowSt B R w wz v0 bm kx vx k v ws' vN L dg size left right :=
  ⟨h.row.kept kw fun _ h => h.elim, h.own, kw.obj (fun h => h) h.ob, h.ka.kept byteEl_k kw fun _ _ _ h => h, h.va.kept byteEl_k kw fun _ _ _ h => h, h.kept.trans kw fun _ h => h.elim, Nat.le_trans h.zs kw.size, h.bz, h.v0w⟩
theorem GrowSt.store {dg' size' left' right' : Int} (h : GrowSt B R w wz v0 bm kx vx k v ws vN L dg size left right) (kw : Kept (fun b => b = bm) ws ws') (ho : ws'.heap[bm]? = some (ndObj kx vx dg' size' left' right')) : GrowSt B R w wz v0 bm kx vx k v ws' vN L dg' size' left' right' :=
  ⟨h.row.kept kw fun b e _ => by subst e; exact ⟨fun e => by have := h.bz; omega, h.nb⟩, h.own, ho, h.ka.kept byteEl_k kw fun b hb _ => hb.2.1, h.va.kept byteEl_k kw fun b hb _ => hb.2.1, h.kept.trans kw fun b e => .inr (by subst e; exact h.bz.1), Nat.le_trans h.zs kw.size, h.bz, h.v0w⟩
theorem GrowSt.grow (h : GrowSt B R w wz v0 bm kx vx k v ws vN L dg size left right) (kw : Kept (fun b => vN.ownBlock = some b) ws ws') (hr : Own 172 nodeEl (fun b => (R b ∧ b < w.heap.size ∨ w.heap.size ≤ b ∧ b ≠ bm) ∨ ws.heap.size ≤ b) B ws' vN' L') (ho : ∀ b, vN'.ownBlock = some b → vN.ownBlock = some b ∨ ws.heap.size ≤ b) : GrowSt B R w wz v0 bm kx vx k v ws' vN' L' dg size left right := by
  have hz := h.zs
  have hb := h.bz
  have nn : ∀ b, w.heap.size ≤ b → b < wz.heap.size → vN.ownBlock ≠ some b := fun b h1 h2 e => (h.own b e).elim (fun e => by have := h.v0w b e; omega) fun e => by omega
  exact ⟨hr.wide fun b e => e.elim id fun e => .inr ⟨by omega, by omega⟩, fun b e => (ho b e).elim (h.own b) fun e => .inr (by omega), kw.obj h.nb h.ob, h.ka.kept byteEl_k kw fun b hb _ => nn b hb.1 hb.2.2, h.va.kept byteEl_k kw fun b hb _ => nn b hb.1 hb.2.2, h.kept.trans kw fun b e => (h.own b e).imp id fun e => by omega, by have := kw.size; omega, h.bz, h.v0w⟩
end
set_option maxRecDepth 100000 in
set_option maxHeartbeats 4000000 in
theorem r2grow_calls {seed : Int} {D : Nat → Prop} {B : Nat} (hD : ∀ b, D b → b < B) : ∀ (t : Tr), t.good seed → t.ok → ∀ (R : Nat → Prop) (v0 vl : Value) (out : List ND) (w : World), out.length + t.size ≤ 1000000 → B ≤ w.heap.size → Own 172 nodeEl R B w v0 out → SV pairEl D w vl t.pairs →
    Calls Try.prog 190 #[v0, .int .u64 seed, vl] w fun e w' => ∃ v', e = .returned v' ∧ Own 172 nodeEl (fun b => R b ∨ w.heap.size ≤ b) B w' v' (out ++ t.nodes seed out.length) ∧ Kept (fun b => v0.ownBlock = some b) w w' ∧ (∀ b, v'.ownBlock = some b → v0.ownBlock = some b ∨ w.heap.size ≤ b) := by
  intro t
  induction t with
  | nil =>
    intro hg ok R v0 vl out w hs hB ho h
    have H := Lib.hid h
    have HO := Lib.hid ho
    obtain ⟨a, c, rfl, _⟩ := h
    obtain ⟨ao, co, rfl⟩ := ho.slice
    clear ho
    go_enter Try.func190, Try.ntmps190
    go_wp2_with fail
    refine (r2Top_calls H.out).mono ?_
    rintro e w1 ⟨rfl, dw⟩
    have e0 : topI seed Tr.nil.pairs = -1 := rfl
    rw [e0]
    go_wp2
    go_ret
    exact ⟨_, rfl, by simpa [Tr.nodes] using (HO.out.at dw.heap).wide fun _ h => .inl h, (Kept.refl _ _).drewn dw, fun b h => .inl h⟩
  | nd l k v r il ir =>
    intro hg ok R v0 vl out w hs hB ho h
    have IL := Lib.hid (il hg.1 ok.1)
    have IR := Lib.hid (ir hg.2.1 ok.2.2)
    have E0 := Lib.hid (Tr.top_pairs hg)
    have OK := Lib.hid ok
    have HS := Lib.hid (show out.length + (l.size + 1 + r.size) ≤ 1000000 by simp only [Tr.size] at hs; omega)
    have HB := Lib.hid hB
    have HO := Lib.hid ho
    have hlen : (Tr.nd l k v r).pairs.length = l.size + 1 + r.size := by rw [Tr.pairs_len]; simp only [Tr.size]; omega
    have hat : l.size < (Tr.nd l k v r).pairs.length := by omega
    have HH := Lib.hid h
    obtain ⟨a, c, rfl, ⟨hlc, _⟩, _, rd⟩ := h
    obtain ⟨b0, o0, uk, uv, rfl, hDb, g0, g1, hkv, hvv⟩ := Rd.pair rd hat
    rw [Tr.pairs_at] at hkv hvv
    rw [hlen] at hlc HH ⊢
    have HP := Lib.hid HH.out.parts
    have KV := Lib.hid hkv
    have VV := Lib.hid hvv
    obtain ⟨ao, co, rfl⟩ := ho.slice
    have hc1 : l.size ≤ c := by omega
    have hc2 : l.size + 1 ≤ c := by omega
    have hls : l.size ≤ 1000000 := by have := HS.out; omega
    have hrs : r.size ≤ 1000000 := by have := HS.out; omega
    have hos : out.length ≤ 1000000 := by have := HS.out; omega
    have ix : (l.size : Int) < (l.size : Int) + 1 + (r.size : Int) := by omega
    clear il ir hg ok hs hB ho hlen hat hlc rd hkv hvv
    go_enter Try.func190, Try.ntmps190
    go_wp2_with fail
    refine (r2Top_calls HH.out).mono ?_
    rintro e w1 ⟨rfl, n1, rfl⟩
    rw [E0.out]
    go_wp2_with fail
    have K1 := Lib.hid ((Kept.refl Noneof w).drewN n1)
    have d0 : (w.drewN n1).cell? ⟨b0, o0 + l.size * 2, none⟩ = some uk := g0
    have d1 : (w.drewN n1).cell? ⟨b0, o0 + l.size * 2 + 1, none⟩ = some uv := g1
    clear g0 g1
    generalize w.drewN n1 = w1 at *
    refine wp_region_kept 16 [(5, .act IsSlice fun u wx => Own 5 byteEl Noneof w1.heap.size wx u k), (11, .act IsSlice fun u wx => Own 5 byteEl Noneof w1.heap.size wx u v), (15, .act IsPtr fun u wx => ∃ b, u = bp b ∧ w1.heap.size ≤ b ∧ wx.heap[b]? = some (ndObj (.slice none 0 0) (.slice none 0 0) 0 0 0 0))] Noneof (by kernel_rfl) (by kernel_rfl) (by kernel_rfl) ?_; simp only [List.take_succ_cons, List.take_zero, List.drop_succ_cons, List.drop_zero]
    have hS : ∀ w', Kept Noneof w1 w' → w'.cell? ⟨b0, o0 + l.size * 2, none⟩ = some uk ∧ w'.cell? ⟨b0, o0 + l.size * 2 + 1, none⟩ = some uv := fun w' k => ⟨k.cell (fun h => h) d0, k.cell (fun h => h) d1⟩
    iterate 5 (refine SeqL.val (v := ?_) hS rfl (by rfl) (fun wx hSw => ?_) ?_; rotate_left; (focus ((try dsimp only at hSw); go_simp; (try with_reducible rfl))); (try simp only [Act.put, List.setIfInBounds_toArray, List.set_cons_zero, List.set_cons_succ]))
    refine SeqL.act rfl rfl (by rfl) (by rfl) isSlice (fun wx hx hh K hK => ?_) (fun u1 hu1 => ?_)
    · go_simp
      refine (r2Copy_calls (KV.out.kept byteEl_k (K1.out.tr hx) fun _ _ _ h => h)).mono ?_
      rintro e w2 ⟨v', rfl, o1, k1⟩
      exact hK.out v' w2 o1.slice' k1 (o1.base hx.size)
    obtain ⟨p1, m1, q1, rfl⟩ := hu1
    (try simp only [Act.put, List.setIfInBounds_toArray, List.set_cons_zero, List.set_cons_succ])
    iterate 5 (refine SeqL.val (v := ?_) hS rfl (by rfl) (fun wx hSw => ?_) ?_; rotate_left; (focus ((try dsimp only at hSw); go_simp; (try with_reducible rfl))); (try simp only [Act.put, List.setIfInBounds_toArray, List.set_cons_zero, List.set_cons_succ]))
    refine SeqL.act rfl rfl (by rfl) (by rfl) isSlice (fun wx hx hh K hK => ?_) (fun u1 hu1 => ?_)
    · go_simp
      refine (r2Copy_calls (VV.out.kept byteEl_k (K1.out.tr hx) fun _ _ _ h => h)).mono ?_
      rintro e w2 ⟨v', rfl, o1, k1⟩
      exact hK.out v' w2 o1.slice' k1 (o1.base hx.size)
    obtain ⟨p2, m2, q2, rfl⟩ := hu1
    (try simp only [Act.put, List.setIfInBounds_toArray, List.set_cons_zero, List.set_cons_succ])
    iterate 3 (refine SeqL.val (v := ?_) hS rfl (by rfl) (fun wx hSw => ?_) ?_; rotate_left; (focus ((try dsimp only at hSw); go_simp; (try with_reducible rfl))); (try simp only [Act.put, List.setIfInBounds_toArray, List.set_cons_zero, List.set_cons_succ]))
    refine SeqL.act rfl rfl (by rfl) (by rfl) isPtr (fun wx hx hh K hK => ?_) (fun u1 hu1 => ?_)
    · go_simp
      exact hK.out _ _ ⟨_, rfl⟩ ((Kept.refl _ _).alloc _) ⟨_, rfl, hx.size, heap_alloc_new wx _⟩
    obtain ⟨bm, rfl⟩ := hu1
    (try simp only [Act.put, List.setIfInBounds_toArray, List.set_cons_zero, List.set_cons_succ])
    refine SeqL.nil fun wz hz hh => ?_
    obtain ⟨wa, _, oa, ka⟩ := hh 5 (by decide) _ _ _ rfl rfl
    obtain ⟨wb, _, ob, kb⟩ := hh 11 (by decide) _ _ _ rfl rfl
    obtain ⟨wc, _, oc, kc⟩ := hh 15 (by decide) _ _ _ rfl rfl
    have OA := Lib.hid (show Own 5 byteEl Noneof w1.heap.size wz (.slice p1 m1 q1) k from Own.kept oa ka fun _ h => h.elim)
    have OB := Lib.hid (show Own 5 byteEl Noneof w1.heap.size wz (.slice p2 m2 q2) v from Own.kept ob kb fun _ h => h.elim)
    have hbm : w1.heap.size ≤ bm ∧ wz.heap[bm]? = some (ndObj (.slice none 0 0) (.slice none 0 0) 0 0 0 0) := by
      obtain ⟨b', e1, e2, e3⟩ := oc
      have e1 : bp bm = bp b' := e1
      simp only [bp, Value.pointer.injEq, Option.some.injEq, Addr.mk.injEq, and_true] at e1
      subst e1
      exact ⟨e2, kc.obj (fun h => h) e3⟩
    obtain ⟨hbm, gm⟩ := hbm
    have HBM := Lib.hid hbm
    have GM := Lib.hid gm
    have KZ := Lib.hid (K1.out.tr hz)
    have KS := Lib.hid hz
    have S1 := Lib.hid K1.out.size
    clear hh hS oa ob oc ka kb kc hz hbm
    have e0 : wz.cell? ⟨bm, 0, none⟩ = some (.slice none 0 0) := by unfold ndObj at gm; simp [World.cell?, gm]
    have e1 : wz.cell? ⟨bm, 1, none⟩ = some (.slice none 0 0) := by unfold ndObj at gm; simp [World.cell?, gm]
    have e2 : wz.cell? ⟨bm, 2, none⟩ = some (.int .u64 0) := by unfold ndObj at gm; simp [World.cell?, gm]
    have e3 : wz.cell? ⟨bm, 3, none⟩ = some (.int .i64 0) := by unfold ndObj at gm; simp [World.cell?, gm]
    have e4 : wz.cell? ⟨bm, 4, none⟩ = some (.int .i64 0) := by unfold ndObj at gm; simp [World.cell?, gm]
    have e5 : wz.cell? ⟨bm, 5, none⟩ = some (.int .i64 0) := by unfold ndObj at gm; simp [World.cell?, gm]
    have ef : ∀ j, wz.frozen? ⟨bm, j, none⟩ = false := fun j => by unfold ndObj at gm; simp [World.frozen?, gm]
    have KM := (((((((Kept.refl (fun b => b = bm) wz).setCell (p := ⟨bm, 0, none⟩) (.inl rfl) (.slice p1 m1 q1)).setCell (p := ⟨bm, 1, none⟩) (.inl rfl) (.slice p2 m2 q2)).setCell (p := ⟨bm, 2, none⟩) (.inl rfl) (.int .u64 0)).setCell (p := ⟨bm, 3, none⟩) (.inl rfl) (.int .i64 ((l.size : Int) + 1 + (r.size : Int)))).setCell (p := ⟨bm, 4, none⟩) (.inl rfl) (.int .i64 (-1))).setCell (p := ⟨bm, 5, none⟩) (.inl rfl) (.int .i64 (-1)))
    have GM2 := Lib.hid (setCell_obj (setCell_obj (setCell_obj (setCell_obj (setCell_obj (setCell_obj GM.out (.slice p1 m1 q1) (j := 0)) (.slice p2 m2 q2) (j := 1)) (.int .u64 0) (j := 2)) (.int .i64 ((l.size : Int) + 1 + (r.size : Int))) (j := 3)) (.int .i64 (-1)) (j := 4)) (.int .i64 (-1)) (j := 5))
    have lo := Lib.hid HO.out.lt
    have hbm0 := HBM.out
    have s10 := S1.out
    have NDv := Lib.hid (show ∀ b, D b → b < w.heap.size → (Value.slice ao out.length co).ownBlock ≠ some b from fun b hb _ e => by have := hD b hb; have := (lo.out b e).1; omega)
    have HBZ := Lib.hid (show bm < wz.heap.size from block_lt GM.out)
    have nA : ∀ b, (Value.slice p1 m1 q1).ownBlock = some b → b ≠ bm := fun b e h => by
      obtain ⟨cur, hc⟩ := OA.out.obj e
      subst h
      rw [GM.out] at hc
      exact absurd (congrArg (fun o => match o with | some (Obj.cells _ t _) => t | _ => 0) hc) (by simp only [ndObj]; decide)
    have nB : ∀ b, (Value.slice p2 m2 q2).ownBlock = some b → b ≠ bm := fun b e h => by
      obtain ⟨cur, hc⟩ := OB.out.obj e
      subst h
      rw [GM.out] at hc
      exact absurd (congrArg (fun o => match o with | some (Obj.cells _ t _) => t | _ => 0) hc) (by simp only [ndObj]; decide)
    have KA := OA.out.rd (D' := fun b => w.heap.size ≤ b ∧ b ≠ bm ∧ b < wz.heap.size) (fun _ h => h.elim) fun b hb => ⟨by have := (OA.out.lt b hb).1; omega, nA b hb, (OA.out.lt b hb).2⟩
    have VA := OB.out.rd (D' := fun b => w.heap.size ≤ b ∧ b ≠ bm ∧ b < wz.heap.size) (fun _ h => h.elim) fun b hb => ⟨by have := (OB.out.lt b hb).1; omega, nB b hb, (OB.out.lt b hb).2⟩
    have RW := (HO.out.bd.kept KZ.out fun _ h => h.elim).wide (D' := fun b => R b ∧ b < w.heap.size ∨ w.heap.size ≤ b ∧ b ≠ bm) fun b hb => .inl hb
    clear gm nA nB
    go_upto_region 6 with (fail)
    generalize (((((wz.setCell ⟨bm, 0, none⟩ (.slice p1 m1 q1)).setCell ⟨bm, 1, none⟩ (.slice p2 m2 q2)).setCell ⟨bm, 2, none⟩ (.int .u64 0)).setCell ⟨bm, 3, none⟩ (.int .i64 ((l.size : Int) + 1 + (r.size : Int)))).setCell ⟨bm, 4, none⟩ (.int .i64 (-1))).setCell ⟨bm, 5, none⟩ (.int .i64 (-1)) = w2 at *
    have ST := Lib.hid (show GrowSt B R w wz (.slice ao out.length co) bm (.slice p1 m1 q1) (.slice p2 m2 q2) k v w2 (.slice ao out.length co) out 0 ((l.size : Int) + 1 + (r.size : Int)) (-1) (-1) from
      ⟨RW.kept KM fun b e _ => by subst e; exact ⟨fun e => by omega, fun e => by have := (lo.out b e).2; omega⟩, fun b e => .inl e, GM2.out, KA.kept byteEl_k KM fun b hb _ => hb.2.1, VA.kept byteEl_k KM fun b hb _ => hb.2.1, (KZ.out.mono fun _ h => h.elim).trans KM fun b e => .inr (by subst e; omega), KM.size, ⟨by omega, HBZ.out⟩, fun b e => (lo.out b e).2⟩)
    have hco : out.length + 1 ≤ 1000001 := by omega
    have E2 := Lib.hid (show w2.heap[bm]? = some (ndObj (.slice p1 m1 q1) (.slice p2 m2 q2) 0 ((l.size : Int) + 1 + (r.size : Int)) (-1) (-1)) from GM2.out)
    clear KM GM2 KA VA RW lo OA OB d0 d1 e0 e1 e2 e3 e4 e5 ef KS HO KV VV
    obtain ⟨f0, f1, f2, f3, f4, f5, ff⟩ := ndObj_cells E2.out
    have HN := Lib.hid ST.out.nb
    go_wp2_with (at_builtin; refine wl_app_one (E := nodeEl) (D := fun b => R b ∧ b < w.heap.size ∨ w.heap.size ≤ b ∧ b ≠ bm) (D' := fun b => w.heap.size ≤ b ∧ b ≠ bm ∧ b < wz.heap.size) rfl (.tmp 35) (.tmp 37) _ rfl tNodes _ out rfl (ST.out.row.alloc _) _ [.slice p1 m1 q1, .slice p2 m2 q2, .int .u64 0, .int .i64 ((l.size : Int) + 1 + (r.size : Int)), .int .i64 (-1), .int .i64 (-1)] ⟨k, v, 0, l.size + 1 + r.size, -1, -1⟩ rfl ⟨_, _, heap_alloc_new _ _⟩ ?a2 ?a3 ?a4 ?a5 ?a6 ?_)
    case a2 => exact ⟨_, _, rfl, ST.out.ka.kept byteEl_k ((Kept.refl Noneof w2).alloc _) fun _ _ _ h => h, ST.out.va.kept byteEl_k ((Kept.refl Noneof w2).alloc _) fun _ _ _ h => h⟩
    case a3 => exact fun b hb _ => ⟨.inr ⟨hb.1, hb.2.1⟩, fun e => by have := ST.out.v0w b e; omega⟩
    case a4 => omega
    case a5 => decide
    case a6 => have := HB.out; have := ST.out.zs; have := ST.out.bz; simp; omega
    intro v3 w3 o3 k3 hb3
    have ST3 := Lib.hid (((ST.out.still ((Kept.refl Noneof w2).alloc _)).grow k3 (o3.wide fun b h => .inl h) (by simpa using hb3)))
    obtain ⟨a3, c3, hv3⟩ := o3.slice
    rw [List.length_append, List.length_singleton] at hv3
    subst hv3
    clear o3 k3 hb3 ST E2 f0 f1 f2 f3 f4 f5 ff HN
    obtain ⟨f0, f1, f2, f3, f4, f5, ff⟩ := ndObj_cells ST3.out.ob
    have F4 := Lib.hid f4
    have HPL := Lib.hid HP.out.1
    have HPR := Lib.hid HP.out.2
    clear HP
    go_upto_if 40 with (fail)
    go_cut [0, 10] (fun s0 s10 wx => ∃ (a4 : Option Addr) (c4 : Nat), s0 = .slice a4 (out.length + 1 + l.size) c4 ∧ s10 = .int .u64 (l.dg seed) ∧ Hid (GrowSt B R w wz (.slice ao out.length co) bm (.slice p1 m1 q1) (.slice p2 m2 q2) k v wx (.slice a4 (out.length + 1 + l.size) c4) (out ++ [⟨k, v, 0, l.size + 1 + r.size, -1, -1⟩] ++ l.nodes seed ((out.length : Int) + 1)) 0 ((l.size : Int) + 1 + (r.size : Int)) (if l.size = 0 then -1 else (out.length : Int) + 1) (-1)))
    case first =>
      by_cases hz : l.size = 0
      · have hn : l = .nil := by cases l with
          | nil => rfl
          | nd l k v r => simp [Tr.size] at hz
        subst hn
        go_wp2
        go_meet
        exact ⟨a3, c3, rfl, rfl, by simpa [Tr.nodes, Tr.size] using ST3⟩
      · have hpos : 0 < l.size := by omega
        go_wp2_with fail
        have KT := (Kept.refl (fun b => b = bm) w3).setCell (p := ⟨bm, 4, none⟩) (.inl rfl) (.int .i64 ((out.length : Int) + 1))
        have ST3b := Lib.hid (ST3.out.store (dg' := 0) (size' := (l.size : Int) + 1 + (r.size : Int)) (left' := (out.length : Int) + 1) (right' := -1) KT (by exact setCell_obj ST3.out.ob _))
        refine (IL.out (fun b => R b ∧ b < w.heap.size ∨ w.heap.size ≤ b ∧ b ≠ bm) _ _ (out ++ [⟨k, v, 0, l.size + 1 + r.size, -1, -1⟩]) _ (by simp only [List.length_append, List.length_singleton]; have := HS.out; omega) (by have := HB.out; have := ST3b.out.zs; have := ST3b.out.bz; omega) ST3b.out.row (HPL.out.kept pairEl_k ST3b.out.kept NDv.out)).mono ?_
        rintro e w4 ⟨v4, rfl, o4, k4, h4⟩
        have hlen4 : (out ++ [(⟨k, v, 0, l.size + 1 + r.size, -1, -1⟩ : ND)]).length = out.length + 1 := by simp
        have ST4 := Lib.hid (ST3b.out.grow k4 o4 h4)
        obtain ⟨a4, c4, hv4⟩ := o4.slice
        rw [List.length_append, hlen4, Tr.nodes_len] at hv4
        subst hv4
        have ST5 := Lib.hid (show GrowSt B R w wz (.slice ao out.length co) bm (.slice p1 m1 q1) (.slice p2 m2 q2) k v w4 (.slice a4 (out.length + 1 + l.size) c4) (out ++ [⟨k, v, 0, l.size + 1 + r.size, -1, -1⟩] ++ l.nodes seed ((out.length : Int) + 1)) 0 ((l.size : Int) + 1 + (r.size : Int)) ((out.length : Int) + 1) (-1) by
          have := ST4.out
          rwa [hlen4] at this)
        obtain ⟨x, hx, hxd⟩ := nodes_head (seed := seed) hpos ((out.length : Int) + 1)
        have hx2 : (out ++ [⟨k, v, 0, l.size + 1 + r.size, -1, -1⟩] ++ l.nodes seed ((out.length : Int) + 1))[out.length + 1]? = some x := by
          rw [List.getElem?_append_right (by rw [hlen4]; exact Nat.le_refl _), hlen4, Nat.sub_self]
          exact hx
        obtain ⟨g, rfl, hnn, gd⟩ := ST5.out.row.node hx2
        clear hnn
        rw [hxd] at gd
        clear f0 f1 f2 f3 f4 f5 ff F4 o4 k4 h4 ST4 ST3b KT hx hx2 hxd
        obtain ⟨_, _, _, _, f4, _, _⟩ := ndObj_cells ST5.out.ob
        have iy : (out.length : Int) + 1 < (out.length : Int) + 1 + (l.size : Int) := by omega
        have iz : ((out.length : Int) + 1).toNat = out.length + 1 := by omega
        rw [Nat.zero_add] at gd
        go_wp2
        go_meet
        exact ⟨_, c4, rfl, rfl, by rw [if_neg (by omega)]; exact ST5⟩
    case rest =>
      obtain ⟨a4, c4, rfl, rfl, ST4⟩ := hcut
      clear f0 f1 f2 f3 f4 f5 ff F4 ST3
      generalize hlf : (if l.size = 0 then (-1 : Int) else (out.length : Int) + 1) = lf at *
      have HLF := Lib.hid hlf
      clear hlf
      have hl4 : (out ++ [(⟨k, v, 0, l.size + 1 + r.size, -1, -1⟩ : ND)] ++ l.nodes seed ((out.length : Int) + 1)).length = out.length + 1 + l.size := by simp only [List.length_append, List.length_singleton, Tr.nodes_len]
      generalize hL4 : out ++ [(⟨k, v, 0, l.size + 1 + r.size, -1, -1⟩ : ND)] ++ l.nodes seed ((out.length : Int) + 1) = L4 at *
      have HL4 := Lib.hid hL4
      have HN4 := Lib.hid hl4
      clear hL4 hl4
      obtain ⟨f0, f1, f2, f3, f4, f5, ff⟩ := ndObj_cells ST4.out.ob
      go_upto_if 60 with (fail)
      go_cut [0, 11] (fun s0 s11 wx => ∃ (a5 : Option Addr) (c5 : Nat), s0 = .slice a5 (out.length + 1 + l.size + r.size) c5 ∧ s11 = .int .u64 (r.dg seed) ∧ Hid (GrowSt B R w wz (.slice ao out.length co) bm (.slice p1 m1 q1) (.slice p2 m2 q2) k v wx (.slice a5 (out.length + 1 + l.size + r.size) c5) (L4 ++ r.nodes seed ((out.length : Int) + 1 + l.size)) 0 ((l.size : Int) + 1 + (r.size : Int)) lf (if r.size = 0 then -1 else (out.length : Int) + 1 + l.size)))
      case first =>
        by_cases hz : r.size = 0
        · have hn : r = .nil := by cases r with
            | nil => rfl
            | nd l k v r => simp [Tr.size] at hz
          have hlt : ¬ (l.size : Int) < (l.size : Int) + 1 + (r.size : Int) - 1 := by omega
          subst hn
          go_wp2
          go_meet
          exact ⟨a4, c4, rfl, rfl, by simpa [Tr.nodes, Tr.size] using ST4⟩
        · have hpos : 0 < r.size := by omega
          have hlt : (l.size : Int) < (l.size : Int) + 1 + (r.size : Int) - 1 := by omega
          have z2 : ((l.size : Int) + 1).toNat = l.size + 1 := by omega
          have z3 : (0 : Int) ≤ (l.size : Int) + 1 := by omega
          have z4 : (l.size : Int) + 1 ≤ (l.size : Int) + 1 + (r.size : Int) := by omega
          have KT := (Kept.refl (fun b => b = bm) wc).setCell (p := ⟨bm, 5, none⟩) (.inl rfl) (.int .i64 ((out.length : Int) + 1 + (l.size : Int)))
          have ST4b := Lib.hid (ST4.out.store (dg' := 0) (size' := (l.size : Int) + 1 + (r.size : Int)) (left' := lf) (right' := (out.length : Int) + 1 + (l.size : Int)) KT (by exact setCell_obj ST4.out.ob _))
          have HR := HPR.out
          by_cases hcc : c = l.size + 1
          all_goals
            first
              | (subst hcc; rw [if_pos rfl, Nat.sub_self] at HR)
              | rw [if_neg hcc, Option.map_some, Addr.add_lit] at HR
            have HR := Lib.hid HR
            go_wp2_with fail
            refine (IR.out (fun b => R b ∧ b < w.heap.size ∨ w.heap.size ≤ b ∧ b ≠ bm) _ _ L4 _ (by rw [HN4.out]; have := HS.out; omega) (by have := HB.out; have := ST4b.out.zs; have := ST4b.out.bz; omega) ST4b.out.row (HR.out.kept pairEl_k ST4b.out.kept NDv.out)).mono ?_
            rintro e w4 ⟨v4, rfl, o4, k4, h4⟩
            have ST5 := ST4b.out.grow k4 o4 h4
            obtain ⟨a5, c5, hv4⟩ := o4.slice
            rw [List.length_append, HN4.out, Tr.nodes_len] at hv4
            subst hv4
            rw [HN4.out] at ST5
            have ST5 := Lib.hid (show GrowSt B R w wz (.slice ao out.length co) bm (.slice p1 m1 q1) (.slice p2 m2 q2) k v w4 (.slice a5 (out.length + 1 + l.size + r.size) c5) (L4 ++ r.nodes seed ((out.length : Int) + 1 + l.size)) 0 ((l.size : Int) + 1 + (r.size : Int)) lf ((out.length : Int) + 1 + l.size) from ST5)
            obtain ⟨x, hx, hxd⟩ := nodes_head (seed := seed) hpos ((out.length : Int) + 1 + l.size)
            have hx2 : (L4 ++ r.nodes seed ((out.length : Int) + 1 + l.size))[out.length + 1 + l.size]? = some x := by
              rw [List.getElem?_append_right (by rw [HN4.out]; exact Nat.le_refl _), HN4.out, Nat.sub_self]
              exact hx
            obtain ⟨g, rfl, hnn, gd⟩ := ST5.out.row.node hx2
            clear hnn
            rw [hxd] at gd
            clear f0 f1 f2 f3 f4 f5 ff o4 k4 h4 ST4b KT hx hx2 hxd
            obtain ⟨_, _, _, _, _, f5, _⟩ := ndObj_cells ST5.out.ob
            have iy : (out.length : Int) + 1 + (l.size : Int) < (out.length : Int) + 1 + (l.size : Int) + (r.size : Int) := by omega
            have iz : ((out.length : Int) + 1 + (l.size : Int)).toNat = out.length + 1 + l.size := by omega
            rw [Nat.zero_add] at gd
            go_wp2
            go_meet
            exact ⟨_, c5, rfl, rfl, by rw [if_neg (by omega)]; exact ST5⟩
      case rest =>
        obtain ⟨a5, c5, rfl, rfl, ST5⟩ := hcut
        clear f0 f1 f2 f3 f4 f5 ff ST4
        generalize hrt : (if r.size = 0 then (-1 : Int) else (out.length : Int) + 1 + (l.size : Int)) = rt at *
        have HRT := Lib.hid hrt
        clear hrt
        obtain ⟨f0, f1, f2, f3, f4, f5, ff⟩ := ndObj_cells ST5.out.ob
        go_wp2_with fail
        refine (r2Mark_calls (seed := seed) (Tr.dg_u64 _ _) (Tr.dg_u64 _ _) ST5.out.ka ST5.out.va (by have := OK.out.2.1; omega)).mono ?_
        rintro e w6 ⟨rfl, k6⟩
        have ST6 := Lib.hid (ST5.out.still k6)
        clear k6 ST5 f0 f1 f2 f3 f4 f5 ff
        obtain ⟨f0, f1, f2, f3, f4, f5, ff⟩ := ndObj_cells ST6.out.ob
        have KT := (Kept.refl (fun b => b = bm) w6).setCell (p := ⟨bm, 2, none⟩) (.inl rfl) (.int .u64 (mark seed (l.dg seed) k v (r.dg seed)))
        have ST7 := ST6.out.store (dg' := mark seed (l.dg seed) k v (r.dg seed)) (size' := (l.size : Int) + 1 + (r.size : Int)) (left' := lf) (right' := rt) KT (by exact setCell_obj ST6.out.ob _)
        go_upto_region 17 with (fail)
        generalize w6.setCell ⟨bm, 2, none⟩ (.int .u64 (mark seed (l.dg seed) k v (r.dg seed))) = w7 at *
        have ST7 := Lib.hid ST7
        clear KT ST6 f0 f1 f2 f3 f4 f5 ff
        obtain ⟨f0, f1, f2, f3, f4, f5, ff⟩ := ndObj_cells ST7.out.ob
        have hx2 : (L4 ++ r.nodes seed ((out.length : Int) + 1 + l.size))[out.length]? = some ⟨k, v, 0, l.size + 1 + r.size, -1, -1⟩ := by
          rw [← HL4.out]
          simp
        obtain ⟨g, rfl, hnn, _⟩ := ST7.out.row.node hx2
        clear hnn
        obtain ⟨cur, gcur, hcs, hy⟩ := ST7.out.row.row6 (i := out.length) (by rw [List.length_append, HN4.out]; omega)
        have iy : (out.length : Int) < (out.length : Int) + 1 + (l.size : Int) + (r.size : Int) := by omega
        have y0 := hy 0 (by decide)
        have y1 := hy 1 (by decide)
        have y2 := hy 2 (by decide)
        have y3 := hy 3 (by decide)
        have y4 := hy 4 (by decide)
        have y5 := hy 5 (by decide)
        obtain ⟨u0, y0⟩ := y0
        obtain ⟨u1, y1⟩ := y1
        obtain ⟨u2, y2⟩ := y2
        obtain ⟨u3, y3⟩ := y3
        obtain ⟨u4, y4⟩ := y4
        obtain ⟨u5, y5⟩ := y5
        have yf : ∀ j, w7.frozen? ⟨g, j, none⟩ = false := fun j => by simp [World.frozen?, gcur]
        have GC := Lib.hid gcur
        have HC := Lib.hid hcs
        clear gcur hcs hx2 hy
        rw [Nat.add_zero] at y0
        go_wp2
        go_ret
        have KF := (((((((Kept.refl (fun b => b = g) w7).setCell (p := ⟨g, out.length * 6, none⟩) (.inl rfl) (.slice p1 m1 q1)).setCell (p := ⟨g, out.length * 6 + 1, none⟩) (.inl rfl) (.slice p2 m2 q2)).setCell (p := ⟨g, out.length * 6 + 2, none⟩) (.inl rfl) (.int .u64 (mark seed (l.dg seed) k v (r.dg seed)))).setCell (p := ⟨g, out.length * 6 + 3, none⟩) (.inl rfl) (.int .i64 ((l.size : Int) + 1 + (r.size : Int)))).setCell (p := ⟨g, out.length * 6 + 4, none⟩) (.inl rfl) (.int .i64 lf)).setCell (p := ⟨g, out.length * 6 + 5, none⟩) (.inl rfl) (.int .i64 rt))
        have GF := setCell_obj (setCell_obj (setCell_obj (setCell_obj (setCell_obj (setCell_obj GC.out (.slice p1 m1 q1) (j := out.length * 6)) (.slice p2 m2 q2) (j := out.length * 6 + 1)) (.int .u64 (mark seed (l.dg seed) k v (r.dg seed))) (j := out.length * 6 + 2)) (.int .i64 ((l.size : Int) + 1 + (r.size : Int))) (j := out.length * 6 + 3)) (.int .i64 lf) (j := out.length * 6 + 4)) (.int .i64 rt) (j := out.length * 6 + 5)
        generalize (((((w7.setCell ⟨g, out.length * 6, none⟩ (.slice p1 m1 q1)).setCell ⟨g, out.length * 6 + 1, none⟩ (.slice p2 m2 q2)).setCell ⟨g, out.length * 6 + 2, none⟩ (.int .u64 (mark seed (l.dg seed) k v (r.dg seed)))).setCell ⟨g, out.length * 6 + 3, none⟩ (.int .i64 ((l.size : Int) + 1 + (r.size : Int)))).setCell ⟨g, out.length * 6 + 4, none⟩ (.int .i64 lf)).setCell ⟨g, out.length * 6 + 5, none⟩ (.int .i64 rt) = wf at *
        have S7 := ST7.out
        have hgz : ∀ b, w.heap.size ≤ b → b < wz.heap.size → b ≠ g := fun b h1 h2 e => (S7.own g rfl).elim (fun h => by have := S7.v0w g h; omega) fun h => by omega
        have fin := S7.row.setc (i := out.length) (y := ndOf seed l k v r out.length) (g := g) (cs := [.slice p1 m1 q1, .slice p2 m2 q2, .int .u64 (mark seed (l.dg seed) k v (r.dg seed)), .int .i64 ((l.size : Int) + 1 + (r.size : Int)), .int .i64 lf, .int .i64 rt]) (w' := wf) (D' := fun b => w.heap.size ≤ b ∧ b ≠ bm ∧ b < wz.heap.size) (by rw [List.length_append, HN4.out]; omega) rfl
          ⟨_, _, by
            have e3 : (((Tr.nd l k v r).size : Nat) : Int) = (l.size : Int) + 1 + (r.size : Int) := by simp only [Tr.size]; omega
            simp only [ndOf, Tr.dg, e3, HLF.out, HRT.out], S7.ka.kept byteEl_k KF fun b hb _ => hgz b hb.1 hb.2.2, S7.va.kept byteEl_k KF fun b hb _ => hgz b hb.1 hb.2.2⟩ (fun b hb _ => ⟨.inr ⟨hb.1, hb.2.1⟩, hgz b hb.1 hb.2.2⟩) KF (fun cur' hc' => by
            obtain rfl : cur' = cur := by
              have := hc'.symm.trans GC.out
              simpa using this
            exact GF)
        have hset : (L4 ++ r.nodes seed ((out.length : Int) + 1 + l.size)).set out.length (ndOf seed l k v r out.length) = out ++ (Tr.nd l k v r).nodes seed out.length := by
          rw [← HL4.out, set_mid]
          rfl
        rw [hset] at fin
        refine ⟨_, rfl, fin.wide fun b h => h.elim (fun h => .inl h.1) fun h => .inr h.1, S7.kept.trans KF fun b e => ?_, fun b h => (S7.own b h).imp id fun h => by have := S7.bz; omega⟩
        subst e
        exact (S7.own b rfl).imp id fun h => by have := S7.bz; omega
end Go.Proofs.Ytaopjdjbpamhhaa
/- Proved: contracts of the reference 02's Nodes, Digest, Image. Conditions: pairs in memory, those of a treap. -/
namespace Go.Proofs.Ytaopjdjbpamhhaa
open Go Go.RowKit
set_option linter.unusedVariables false
set_option linter.unusedSimpArgs false

set_option maxRecDepth 100000 in
set_option maxHeartbeats 1000000 in
theorem r2Nodes_calls {seed : Int} {D : Nat → Prop} {w : World} {v : Value} {t : Tr} (hg : t.good seed) (ok : t.ok) (hs : t.size ≤ 1000000) (h : SV pairEl D w v t.pairs) :
    Calls Try.prog 174 #[.int .u64 seed, v] w fun e w' => ∃ v', e = .returned v' ∧ Own 172 nodeEl (fun b => w.heap.size ≤ b) w.heap.size w' v' (t.nodes seed 0) ∧ Kept Noneof w w' := by
  have H := Lib.hid (h.bd pairEl_k)
  have HG := Lib.hid hg
  have OK := Lib.hid ok
  have HS := Lib.hid hs
  obtain ⟨a, c, rfl, _⟩ := h
  clear hg ok hs
  go_enter Try.func174, Try.ntmps174
  go_wp2_with fail
  refine (r2grow_calls (seed := seed) (D := fun b => D b ∧ b < w.heap.size) (B := w.heap.size) (fun b h => h.2) t HG.out OK.out Noneof _ _ [] w (by have := HS.out; simpa using this) (Nat.le_refl _) (Own.nil _ _ _ _ _) H.out).mono ?_
  rintro e w1 ⟨v1, rfl, o1, k1, _⟩
  have O1 := Lib.hid o1
  have K1 := Lib.hid k1
  obtain ⟨a1, n1, c1, rfl⟩ := o1.slice'
  clear o1 k1
  go_wp2
  go_ret
  exact ⟨_, rfl, by simpa using O1.out.wide fun b h => h.elim (fun h => h.elim) id, K1.out.mono fun b h => by cases h⟩

set_option maxRecDepth 100000 in
set_option maxHeartbeats 1000000 in
theorem r2Digest_calls {seed : Int} {D : Nat → Prop} {w : World} {v : Value} {t : Tr} (hg : t.good seed) (ok : t.ok) (hs : t.size ≤ 1000000) (h : SV pairEl D w v t.pairs) :
    Calls Try.prog 164 #[.int .u64 seed, v] w fun e w' => e = .returned (.int .u64 (t.dg seed)) ∧ Kept Noneof w w' := by
  have H := Lib.hid h
  have HG := Lib.hid hg
  have OK := Lib.hid ok
  have HS := Lib.hid hs
  obtain ⟨a, c, rfl, _⟩ := h
  clear hg ok hs
  go_enter Try.func164, Try.ntmps164
  go_wp2_with fail
  refine (r2Nodes_calls HG.out OK.out HS.out H.out).mono ?_
  rintro e w1 ⟨v1, rfl, o1, k1⟩
  have K1 := Lib.hid k1
  have hl := o1.slice
  rw [Tr.nodes_len] at hl
  obtain ⟨a1, c1, rfl⟩ := hl
  by_cases hz : t.size = 0
  · have hn : t = .nil := by cases t with
      | nil => rfl
      | nd l k v r => simp [Tr.size] at hz
    subst hn
    clear o1
    go_wp2
    go_ret
    exact ⟨rfl, K1.out⟩
  · have hpos : 0 < t.size := by omega
    have hne : ((t.size : Int) == 0) = false := by rw [beq_eq_false_iff_ne]; omega
    obtain ⟨x, hx, hxd⟩ := nodes_head (seed := seed) hpos 0
    obtain ⟨g, rfl, hnn, gd⟩ := o1.node hx
    rw [hxd] at gd
    have e0 : 0 + 0 * 6 + 2 = 2 := rfl
    rw [e0] at gd
    clear o1 hnn hx hxd hz
    go_wp2
    go_ret
    exact ⟨rfl, K1.out⟩

/-- The bytes of a node of the reference in an image. -/
def chN (x : ND) : UInt8 := (if 0 ≤ x.left then 1 else 0) + (if 0 ≤ x.right then 2 else 0)
def rowN (x : ND) : Bts := [chN x] ++ told x.k x.v
theorem rowN_row {seed : Int} {l r : Tr} {k v : Bts} {i : Int} (hi : 0 ≤ i) (hk : k.length ≤ 64) : rowN (ndOf seed l k v r i) = rowB l k v r := by
  have h1 : chN (ndOf seed l k v r i) = (if l.size = 0 then 0 else 1) + (if r.size = 0 then 0 else 2) := by
    simp only [chN, ndOf]
    congr 1
    · by_cases h : l.size = 0
      · simp [h]
      · simp only [h, if_false]; rw [if_pos (by omega)]
    · by_cases h : r.size = 0
      · simp [h]
      · simp only [h, if_false]; rw [if_pos (by omega)]
  have h2 : leI (k.length : Int) 1 = [UInt8.ofNat k.length] := by
    simp only [leI]
    congr 2
    omega
  have e : rowN (ndOf seed l k v r i) = [chN (ndOf seed l k v r i)] ++ told k v := rfl
  rw [e, h1, told, h2, rowB]
  simp
theorem nodes_rows {seed : Int} : ∀ (t : Tr) (i : Int), 0 ≤ i → t.ok → (t.nodes seed i).map rowN = t.rows
  | .nil, _, _, _ => rfl
  | .nd l k v r, i, hi, ok => by
    rw [Tr.nodes, Tr.rows, List.map_cons, List.map_append, nodes_rows l _ (by omega) ok.1, nodes_rows r _ (by omega) ok.2.2, rowN_row hi ok.2.1.2.1]
/-- The image of a map. -/
def imgT (t : Tr) : Bts := leI t.size 4 ++ t.rows.flatten
theorem rowN_len (x : ND) : (rowN x).length = 4 + x.k.length + x.v.length := by
  simp only [rowN, told, List.length_append, List.length_singleton, leI_len]
  omega
theorem flat_succ {l : List ND} {n : Nat} (h : n < l.length) : ((l.take (n + 1)).map rowN).flatten = ((l.take n).map rowN).flatten ++ rowN l[n] := by
  rw [List.take_succ_eq_append_getElem h, List.map_append, List.flatten_append, List.map_cons, List.map_nil, List.flatten_cons, List.flatten_nil, List.append_nil]
theorem flat_len {l : List ND} (ok : ∀ x ∈ l, x.k.length ≤ 64 ∧ x.v.length ≤ 1000) : ∀ n, ((l.take n).map rowN).flatten.length ≤ n * 1068
  | 0 => by simp
  | n + 1 => by
    have ih := flat_len ok n
    by_cases h : n < l.length
    · rw [flat_succ h, List.length_append, rowN_len, Nat.add_mul]
      have := ok _ (List.getElem_mem h)
      omega
    · rw [List.take_of_length_le (by omega)]
      rw [List.take_of_length_le (by omega)] at ih
      exact Nat.le_trans ih (Nat.mul_le_mul_right _ (Nat.le_succ n))
theorem nodes_ok {seed : Int} : ∀ {t : Tr} {i : Int}, t.ok → ∀ x ∈ t.nodes seed i, x.k.length ≤ 64 ∧ x.v.length ≤ 1000
  | .nil, _, _ => by simp [Tr.nodes]
  | .nd l k v r, i, ok => by
    intro x hx
    simp only [Tr.nodes, List.mem_cons, List.mem_append] at hx
    rcases hx with rfl | hx | hx
    · exact ⟨ok.2.1.2.1, ok.2.1.2.2⟩
    · exact nodes_ok ok.1 x hx
    · exact nodes_ok ok.2.2 x hx

set_option maxRecDepth 100000 in
set_option maxHeartbeats 4000000 in
theorem r2Image_calls {seed : Int} {D : Nat → Prop} {w : World} {v : Value} {t : Tr} (hg : t.good seed) (ok : t.ok) (hs : t.size ≤ 100000) (h : SV pairEl D w v t.pairs) :
    Calls Try.prog 142 #[.int .u64 seed, v] w fun e w' => ∃ v', e = .returned v' ∧ Own 5 byteEl Noneof w.heap.size w' v' (imgT t) ∧ Kept Noneof w w' := by
  have H := Lib.hid h
  have HG := Lib.hid hg
  have OK := Lib.hid ok
  have HS := Lib.hid hs
  have hpl := Tr.pairs_len t
  obtain ⟨a, c, rfl, _⟩ := h
  rw [hpl] at H ⊢
  have hw : IntKind.u64.wrap (t.size : Int) = (t.size : Int) := IntWalk.u64_in _ ⟨by omega, by omega⟩
  clear hg ok hpl
  go_enter Try.func142, Try.ntmps142
  go_wp2_with fail
  refine (r2Little_calls (x := t.size) (n := 4) (by omega) (by omega) (by omega)).mono ?_
  rintro e w1 ⟨v1, rfl, o1, k1⟩
  have O1 := Lib.hid o1
  have K1 := Lib.hid k1
  obtain ⟨a1, n1, c1, rfl⟩ := o1.slice'
  clear o1 k1 hw hs
  go_wp2_with fail
  refine (r2Nodes_calls HG.out OK.out (by have := HS.out; omega) (H.out.kept pairEl_k K1.out fun _ _ _ h => h)).mono ?_
  rintro e w2 ⟨v2, rfl, o2, k2⟩
  have K2 := Lib.hid (K1.out.tr k2)
  have O2 := Lib.hid (O1.out.kept k2 fun _ h => h.elim)
  have NS := Lib.hid (o2.sv.wide (D' := fun b => w1.heap.size ≤ b ∧ b < w2.heap.size) nodeEl_k fun b h hl => ⟨h.elim id id, hl⟩)
  have L1 := Lib.hid O1.out.lt
  have hl2 := o2.slice
  rw [Tr.nodes_len] at hl2
  obtain ⟨a2, c2, rfl⟩ := hl2
  have NOK := Lib.hid (nodes_ok (seed := seed) (i := 0) OK.out)
  have NL := Lib.hid (Tr.nodes_len seed t 0)
  have NR := Lib.hid (nodes_rows (seed := seed) t 0 (Int.le_refl _) OK.out)
  generalize t.nodes seed 0 = L at *
  clear o2 k2 O1
  go_wp2
  go_loopw [5, 7] (fun o i wr => ∃ n : Nat, n ≤ t.size ∧ i = .int .i64 n ∧ Own 5 byteEl Noneof w.heap.size wr o (leI t.size 4 ++ ((L.take n).map rowN).flatten) ∧ Hid (Kept Noneof w wr) ∧ Hid (Kept (fun b => b < w1.heap.size ∨ w2.heap.size ≤ b) w2 wr) ∧ Hid (∀ b, o.ownBlock = some b → b < w1.heap.size ∨ w2.heap.size ≤ b)) (fun _ i _ => t.size - (intOf i).toNat)
  case atStart => exact ⟨0, Nat.zero_le _, rfl, by simpa using O2.out, K2, Lib.hid (Kept.refl _ _), Lib.hid (fun b h => .inl (L1.out b h).2)⟩
  case round =>
    obtain ⟨n, hn, rfl, ho, kw, kn, hob⟩ := hrel
    have HO := Lib.hid ho
    obtain ⟨a3, n3, c3, rfl⟩ := ho.slice'
    clear ho
    by_cases hl : n < t.size
    · have hlL : n < L.length := by rw [NL.out]; exact hl
      have NSr := Lib.hid (NS.out.kept nodeEl_k kn.out fun b hb _ h => by omega)
      obtain ⟨a4, c4, e4, _, _, rd⟩ := NSr.out
      simp only [Value.slice.injEq] at e4
      obtain ⟨rfl, hne, rfl⟩ := e4
      clear hne
      obtain ⟨b5, o5, uk, uv, rfl, hb5, g0, g1, g2, g3, g4, g5, hk, hv⟩ := Rd.node rd hlL
      have HK := Lib.hid hk
      have HV := Lib.hid hv
      have FS := Lib.hid (flat_succ hlL)
      have FL := Lib.hid (flat_len NOK.out n)
      have hx := NOK.out _ (List.getElem_mem hlL)
      have HX := Lib.hid hx
      have CH := Lib.hid (show rowN L[n] = [chN L[n]] ++ told L[n].k L[n].v from rfl)
      have CN := Lib.hid (show chN L[n] = (if 0 ≤ L[n].left then 1 else 0) + (if 0 ≤ L[n].right then 2 else 0) from rfl)
      have TL := Lib.hid (show (told L[n].k L[n].v).length = 3 + L[n].k.length + L[n].v.length by simp only [told, List.length_append, leI_len])
      generalize hch : chN L[n] = ch at *
      clear hk hv hx rd hch
      by_cases c5 : 0 ≤ L[n].left <;> by_cases c6 : 0 ≤ L[n].right
      all_goals
        have CN2 := CN.out
        simp only [c5, c6, if_true, if_false] at CN2
        have CN3 := Lib.hid CN2
        clear CN2
        have hby : 4 + n * 1068 + 1100 ≤ 1000000000 := by have := HS.out; omega
        have hlo : (leI (t.size : Int) 4 ++ (List.map rowN (L.take n)).flatten).length ≤ 4 + n * 1068 := by rw [List.length_append, leI_len]; have := FL.out; omega
        generalize hX : leI (t.size : Int) 4 ++ (List.map rowN (L.take n)).flatten = X at *
        have HX2 := Lib.hid hX
        have k1 : ∀ o, Kept Noneof wr (wr.alloc o) := fun o => (Kept.refl _ _).alloc o
        have BA := Lib.hid (show w.heap.size ≤ wr.heap.size from kw.out.size)
        clear hX
        go_wp2_with (at_builtin; first | refine wl_app_one (E := byteEl) (D := Noneof) (D' := Noneof) rfl (.tmp 38) (.tmp 40) _ rfl tBytes _ _ rfl (HO.out.alloc _) wr.heap.size [.int .u8 3] ch rfl ⟨_, _, heap_alloc_new _ _⟩ (by show _ = _; rw [CN3.out]; rfl) (fun _ h => h.elim) (by omega) (by decide) (by have := BA.out; simp; omega) ?_ | refine wl_app_one (E := byteEl) (D := Noneof) (D' := Noneof) rfl (.tmp 38) (.tmp 40) _ rfl tBytes _ _ rfl (HO.out.alloc _) wr.heap.size [.int .u8 2] ch rfl ⟨_, _, heap_alloc_new _ _⟩ (by show _ = _; rw [CN3.out]; rfl) (fun _ h => h.elim) (by omega) (by decide) (by have := BA.out; simp; omega) ?_ | refine wl_app_one (E := byteEl) (D := Noneof) (D' := Noneof) rfl (.tmp 38) (.tmp 40) _ rfl tBytes _ _ rfl (HO.out.alloc _) wr.heap.size [.int .u8 1] ch rfl ⟨_, _, heap_alloc_new _ _⟩ (by show _ = _; rw [CN3.out]; rfl) (fun _ h => h.elim) (by omega) (by decide) (by have := BA.out; simp; omega) ?_ | refine wl_app_one (E := byteEl) (D := Noneof) (D' := Noneof) rfl (.tmp 38) (.tmp 40) _ rfl tBytes _ _ rfl (HO.out.alloc _) wr.heap.size [.int .u8 0] ch rfl ⟨_, _, heap_alloc_new _ _⟩ (by show _ = _; rw [CN3.out]; rfl) (fun _ h => h.elim) (by omega) (by decide) (by have := BA.out; simp; omega) ?_)
        intro v6 w6 o6 e6 h6
        have E6 := (((Kept.refl (fun b => (Value.slice a3 n3 c3).ownBlock = some b) wr).alloc _).tr e6)
        have nb : (Value.slice a3 n3 c3).ownBlock ≠ some b5 := fun e => by have := hob.out b5 e; omega
        have d0 := E6.cell (p := ⟨b5, o5 + n * 6, none⟩) nb g0
        have d1 := E6.cell (p := ⟨b5, o5 + n * 6 + 1, none⟩) nb g1
        have HK6 := Lib.hid (HK.out.kept byteEl_k E6 fun b hb _ e => by have := hob.out b e; omega)
        have HV6 := Lib.hid (HV.out.kept byteEl_k E6 fun b hb _ e => by have := hob.out b e; omega)
        have KN6 := Lib.hid (kn.out.trans E6 fun b e => .inl (hob.out b e))
        have KW6 := Lib.hid (kw.out.trans E6 fun b e => .inr (HO.out.lt b e).1)
        have HOB6 := Lib.hid (show ∀ b, v6.ownBlock = some b → b < w1.heap.size ∨ w2.heap.size ≤ b from fun b e => (h6 b e).elim (hob.out b) fun h => .inr (by have := kn.out.size; omega))
        have O6 := Lib.hid o6
        have L6 := Lib.hid o6.lt
        obtain ⟨a6, n6, c6', rfl⟩ := o6.slice'
        obtain ⟨ak, ck, rfl, _⟩ := id HK.out
        obtain ⟨av, cv, rfl, _⟩ := id HV.out
        clear o6 e6 h6 E6 nb g0 g1 g2 g3 g4 g5 k1
        go_wp2_with fail
        refine wp_region_chain 13 [11, 12] (fun w' => w'.cell? ⟨b5, o5 + n * 6, none⟩ = some (.slice ak L[n].k.length ck) ∧ w'.cell? ⟨b5, o5 + n * 6 + 1, none⟩ = some (.slice av L[n].v.length cv)) (by kernel_rfl) (by kernel_rfl) ?_ ?_
        · exact ⟨d0, d1⟩
        simp only [List.take_succ_cons, List.take_zero, List.drop_succ_cons, List.drop_zero]
        iterate 11 (refine SeqY.val (v := ?_) (by rfl) (by rfl) (fun wx hSw => ?_) ?_; rotate_left; (focus ((try dsimp only at hSw); go_simp; (try with_reducible rfl))); (try simp only [Act.put, List.setIfInBounds_toArray, List.set_cons_zero, List.set_cons_succ]))
        refine SeqY.act (by rfl) rfl (by rfl) (by rfl) (fun K hK => ?_)
        go_simp
        refine (r2Told_calls (w := w6.drew) (HK6.out.at rfl) (HV6.out.at rfl) (by have := HX.out; omega)).mono ?_
        rintro e w7 ⟨v7, rfl, o7, k7⟩
        have k7 : Kept Noneof w6 w7 := ⟨k7.os, k7.tape, k7.output, k7.size, k7.block⟩
        have S7 := Lib.hid o7.sv
        refine hK.out _ _ ⟨k7.cell (fun h => h) d0, k7.cell (fun h => h) d1⟩ ?_
        have d0 := k7.cell (p := ⟨b5, o5 + n * 6, none⟩) (fun h => h) d0
        have d1 := k7.cell (p := ⟨b5, o5 + n * 6 + 1, none⟩) (fun h => h) d1
        have O7 := Lib.hid (O6.out.kept k7 fun _ h => h.elim)
        have K7 := Lib.hid k7
        obtain ⟨a7, n7, c7, rfl⟩ := o7.slice'
        clear K hK o7 k7
        (try simp only [Act.put, List.setIfInBounds_toArray, List.set_cons_zero, List.set_cons_succ])
        refine SeqY.act (by rfl) rfl (by rfl) (by rfl) (fun K hK => ?_)
        have nb : (Value.slice a6 n6 c6').ownBlock ≠ some b5 := fun e => by have := HOB6.out b5 e; omega
        refine wp_app_bytes (ops := #[]) rfl (.tmp 42) (.tmp 53) _ rfl tBytes _ _ rfl O7.out _ (told L[n].k L[n].v) rfl S7.out (by have := TL.out; simp only [List.length_append, List.length_singleton] at this ⊢; have := HX.out; omega) (by have := BA.out; have := KW6.out.size; have := K7.out.size; omega) ?_
        intro v8 w8 o8 k8 h8
        refine hK.out _ _ ⟨k8.cell nb d0, k8.cell nb d1⟩ ?_
        have O8 := Lib.hid (show Own 5 byteEl Noneof w.heap.size w8 v8 (leI (t.size : Int) 4 ++ (List.map rowN (L.take (n + 1))).flatten) by
          rw [FS.out, ← List.append_assoc, HX2.out, CH.out, ← List.append_assoc]
          exact o8)
        have KW8 := Lib.hid ((KW6.out.tr K7.out).trans k8 fun b e => .inr (L6.out b e).1)
        have KN8 := Lib.hid ((KN6.out.trans K7.out fun _ h => h.elim).trans k8 fun b e => .inl (HOB6.out b e))
        have HOB8 := Lib.hid (show ∀ b, v8.ownBlock = some b → b < w1.heap.size ∨ w2.heap.size ≤ b from fun b e => (h8 b e).elim (HOB6.out b) fun h => .inr (by have := KN6.out.size; have := K7.out.size; omega))
        obtain ⟨a8, n8, c8, rfl⟩ := o8.slice'
        clear K hK o8 k8 h8 nb d0 d1
        (try simp only [Act.put, List.setIfInBounds_toArray, List.set_cons_zero, List.set_cons_succ])
        refine SeqY.nil ?_
        go_wp2
        go_roundw
        case rel => exact ⟨n + 1, by omega, by go_num, O8.out, KW8, KN8, HOB8⟩
        case measure => simp [intOf]; omega
    · obtain rfl : n = t.size := by omega
      go_wp2
      go_ret
      exact ⟨_, rfl, by
        have := HO.out
        rwa [List.take_of_length_le (by rw [NL.out]; exact Nat.le_refl _), NR.out] at this, kw.out⟩
end Go.Proofs.Ytaopjdjbpamhhaa
/- Proved: contracts of the map's function Image and of the law function is. Conditions: maps and pairs in memory. -/
namespace Go.Proofs.Ytaopjdjbpamhhaa
open Go Go.RowKit
set_option linter.unusedVariables false
set_option linter.unusedSimpArgs false

theorem SV.slice' {α : Type} {E : El α} {D : Nat → Prop} {w : World} {v : Value} {l : List α} (h : SV E D w v l) : ∃ a n c, v = .slice a n c := by
  obtain ⟨a, c, h, _⟩ := h
  exact ⟨a, _, c, h⟩
theorem rowB_len (l : Tr) (k v : Bts) (r : Tr) : (rowB l k v r).length = 4 + k.length + v.length := by
  simp only [rowB, List.length_append, List.length_cons, List.length_nil, leI_len]
theorem rows_flat_len : ∀ {t : Tr}, t.ok → t.rows.flatten.length ≤ t.size * 1068
  | .nil, _ => by simp [Tr.rows]
  | .nd l k v r, ok => by
    have h1 := rows_flat_len ok.1
    have h2 := rows_flat_len ok.2.2
    have h3 := ok.2.1
    simp only [Tr.rows, Tr.size, List.flatten_cons, List.flatten_append, List.length_append, rowB_len, Nat.add_mul]
    omega
set_option maxRecDepth 100000 in
set_option maxHeartbeats 2000000 in
theorem orImage_calls {seed : Int} {w : World} {m : Nat} {t : Tr} {F : Nat → Prop} (h : MapAt seed w m t F) (hs : t.size ≤ 100000) :
    Calls Try.prog 62 #[.pointer (some ⟨m, 0, none⟩)] w fun e w' => ∃ v', e = .returned v' ∧ Own 5 byteEl Noneof w.heap.size w' v' (imgT t) ∧ Kept Noneof w w' := by
  have H := Lib.hid h
  obtain ⟨p, S, D, hm, hlt⟩ := h.open
  have HL := Lib.hid hlt
  have c2 := hm.c2
  have HM := Lib.hid hm
  have SZ := Lib.hid hs
  have FL := Lib.hid (rows_flat_len hm.ok)
  clear h hm hlt
  go_enter Try.func62, Try.ntmps62
  go_wp2_with fail
  refine (orreal_calls H.out).mono ?_
  rintro e w1 ⟨rfl, rfl⟩
  go_wp2_with fail
  refine (orgather_rows (seed := seed) (D := fun b => D b ∧ b < w1.heap.size) (B := w1.heap.size) (fun b h => h.2) t p S w1 _ [] HM.out.bd.ht HM.out.ok (fun b hb => HM.out.ht.lt b hb) (Nat.le_refl _) (Own.nil _ _ _ _ _) (by have := SZ.out; simp only [List.length_nil]; omega)).mono ?_
  rintro e w2 ⟨v2, rfl, o2, k2⟩
  have K2 := Lib.hid (show Kept Noneof w1 w2 from ⟨k2.os, k2.tape, k2.output, k2.size, fun b hb _ => k2.block b hb (by omega)⟩)
  have O2 := Lib.hid o2
  obtain ⟨a2, n2, c2', rfl⟩ := o2.slice'
  have d2 := K2.out.cell (p := ⟨m, 2, none⟩) (fun h => h) c2
  have HT := Lib.hid (HM.out.kept0 K2.out).ht
  clear o2 k2 c2
  go_wp2_with fail
  refine (orcount_calls HT.out.child).mono ?_
  rintro e w3 ⟨rfl, rfl⟩
  have hw : IntKind.u64.wrap (t.size : Int) = (t.size : Int) := IntWalk.u64_in _ ⟨by omega, by omega⟩
  go_wp2_with fail
  refine (orlittle_calls (B := w3.heap.size) (l := []) (x := t.size) (n := 4) (Own.nil _ _ _ _ _) (by omega) (by omega) (by omega) (by simp) (Nat.le_refl _)).mono ?_
  rintro e w4 ⟨v4, rfl, o4, k4⟩
  have k4 := k4.mono (T := Noneof) fun b h => by cases h
  have O4 := Lib.hid o4
  have K4 := Lib.hid k4
  obtain ⟨a4, n4, c4', rfl⟩ := o4.slice'
  have S4 := Lib.hid ((O2.out.kept k4 fun _ h => h.elim).sv)
  clear o4 k4 hw d2
  go_wp2_with fail
  refine (byJoin_calls S4.out (by have := FL.out; simp only [List.nil_append]; omega)).mono ?_
  rintro e w5 ⟨v5, rfl, b5, k5⟩
  have B5 := Lib.hid b5
  have K5 := Lib.hid k5
  have O5 := Lib.hid (O4.out.kept k5 fun _ h => h.elim)
  obtain ⟨a5, n5, c5, rfl⟩ := b5.slice'
  clear b5 k5
  have hby : (([] : Bts) ++ leI (t.size : Int) 4).length + (([] : List Bts) ++ t.rows).flatten.length ≤ 140737488355328 := by
    simp only [List.nil_append, leI_len]
    have := FL.out
    omega
  have hbs := K4.out.size
  have hbs2 := K5.out.size
  go_wp2_with (at_builtin; refine wl_app_bytes rfl (.tmp 18) (.tmp 20) _ rfl tBytes _ _ rfl O5.out _ _ rfl B5.out hby (by omega) ?_)
  intro v6 w6 o6 k6 h6
  have O6 := Lib.hid o6
  have K6 := Lib.hid (((K2.out.tr K4.out).tr K5.out).trans k6 fun b e => .inr (by have := (O4.out.lt b e).1; have := K2.out.size; omega))
  obtain ⟨a6, n6, c6, rfl⟩ := o6.slice'
  have HB := Lib.hid (show w1.heap.size ≤ w3.heap.size from K2.out.size)
  clear o6 k6 h6
  go_wp2
  go_ret
  exact ⟨_, rfl, by
    exact O6.out.base HB.out, K6.out⟩

/-- Whether bytes are the same. -/
theorem cmpB_beq (a : Bts) : (cmpB a a == 0) = true := by rw [cmpB_self]; rfl
set_option maxRecDepth 100000 in
set_option maxHeartbeats 2000000 in
theorem l7is_calls {seed : Int} {D : Nat → Prop} {w : World} {m : Nat} {t u : Tr} {F : Nat → Prop} {v : Value} (h : MapAt seed w m t F) (hs : t.size ≤ 100000) (hg : u.good seed) (ok : u.ok) (hu : u.size ≤ 100000) (hl : SV pairEl D w v u.pairs) :
    Calls Try.prog 77 #[.pointer (some ⟨m, 0, none⟩), .int .u64 seed, v] w fun e w' => e = .returned (.bool (cmpB (imgT t) (imgT u) == 0)) ∧ Kept Noneof w w' := by
  have H := Lib.hid h
  have HS := Lib.hid hs
  have HG := Lib.hid hg
  have OK := Lib.hid ok
  have HU := Lib.hid hu
  have HL := Lib.hid hl
  obtain ⟨a, c, rfl, _⟩ := hl
  clear h hs hg ok hu
  go_enter Try.func77, Try.ntmps77
  go_wp2_with fail
  refine (orImage_calls H.out HS.out).mono ?_
  rintro e w1 ⟨v1, rfl, o1, k1⟩
  have O1 := Lib.hid o1
  have K1 := Lib.hid k1
  obtain ⟨a1, n1, c1, rfl⟩ := o1.slice'
  clear o1 k1
  go_wp2_with fail
  refine (r2Image_calls HG.out OK.out HU.out (HL.out.kept pairEl_k K1.out fun _ _ _ h => h)).mono ?_
  rintro e w2 ⟨v2, rfl, o2, k2⟩
  have O1b := Lib.hid ((O1.out.kept k2 fun _ h => h.elim).sv)
  have O2 := Lib.hid o2.sv
  have K2 := Lib.hid (K1.out.tr k2)
  obtain ⟨a2, n2, c2, rfl⟩ := o2.slice'
  clear o2 k2 O1
  go_wp2_with fail
  refine (r2Compare_calls O1b.out O2.out).mono ?_
  rintro e w3 ⟨rfl, dw⟩
  have K3 := Lib.hid (K2.out.drewn dw)
  clear dw
  go_wp2
  go_ret
  exact ⟨rfl, K3.out⟩
end Go.Proofs.Ytaopjdjbpamhhaa
/- Proved: contract of the reference 07's without. Conditions: pairs in memory. -/
namespace Go.Proofs.Ytaopjdjbpamhhaa
open Go Go.RowKit
set_option linter.unusedVariables false
set_option linter.unusedSimpArgs false

def withoutL (l : List (Bts × Bts)) (low high : Bts) (bd : Bool) : List (Bts × Bts) := l.take (rank l low) ++ if bd = true then l.drop (max (rank l high) (rank l low)) else []
theorem inS_ge {p : Bts × Bts} {low high : Bts} (h : ¬ cmpB p.1 low < 0) : inS low true high false p = true := by simp [inS, h]
theorem withoutL_filter : ∀ {l : List (Bts × Bts)} {low high : Bts} {bd : Bool}, Srt l → withoutL l low high bd = l.filter fun p => !inS low true high bd p
  | [], low, high, bd, _ => by cases bd <;> simp [withoutL]
  | p :: l, low, high, bd, hs => by
    have hs' := List.pairwise_cons.1 hs
    have ih := withoutL_filter (l := l) (low := low) (high := high) (bd := bd) hs'.2
    have later : ∀ k, ¬ cmpB p.1 k < 0 → ∀ q ∈ l, ¬ cmpB q.1 k < 0 := fun k h q hq e => h (cmpB_trans (hs'.1 q hq) e)
    rw [List.filter_cons]
    by_cases c : cmpB p.1 low < 0
    · rw [inS_lo c, if_pos (by simp), ← ih]
      unfold withoutL
      rw [rank_cons p l low, if_pos c, List.take_succ_cons, List.cons_append]
      congr 2
      cases bd with
      | false => rfl
      | true =>
        simp only [if_true]
        rw [rank_cons p l high]
        by_cases d : cmpB p.1 high < 0
        · rw [if_pos d, show max (rank l high + 1) (rank l low + 1) = max (rank l high) (rank l low) + 1 by omega, List.drop_succ_cons]
        · have e : rank l high = 0 := rank_zero (later high d)
          rw [if_neg d, e, show max 0 (rank l low + 1) = max 0 (rank l low) + 1 by omega, List.drop_succ_cons]
    · have e0 : rank l low = 0 := rank_zero (later low c)
      unfold withoutL at ih ⊢
      rw [rank_cons p l low, if_neg c, List.take_zero, List.nil_append]
      rw [e0, List.take_zero, List.nil_append] at ih
      cases bd with
      | false =>
        simp only [Bool.false_eq_true, if_false] at ih ⊢
        rw [inS_ge c, if_neg (by simp), ← ih]
      | true =>
        simp only [if_true, Nat.max_zero] at ih ⊢
        rw [rank_cons p l high]
        by_cases d : cmpB p.1 high < 0
        · rw [if_pos d, if_neg (by simp [inS, c, d]), ← ih, List.drop_succ_cons]
        · have e : rank l high = 0 := rank_zero (later high d)
          rw [e, List.drop_zero] at ih
          rw [if_neg d, inS_hi d, if_pos (by simp), List.drop_zero, ← ih]
theorem dropSpan_pairs {seed : Int} {u : Tr} {low high : Bts} {bd : Bool} (hu : u.good seed) : (dropAll seed u (spanKeys u.pairs low high bd)).pairs = u.pairs.filter fun p => !inS low true high bd p := by
  have hs := Tr.good_srt hu
  refine srt_getK (Tr.good_srt (dropAll_good hu)) (srt_filter _ hs) fun k => ?_
  rw [gk_dropAll hu]
  refine Option.ext fun v => ?_
  rw [getK_iff (srt_filter _ hs), List.mem_filter, ← getK_iff hs]
  by_cases hi : inS low true high bd (k, []) = true
  · have hv : inS low true high bd (k, v) = true := hi
    by_cases hk : k ∈ spanKeys u.pairs low high bd
    · rw [if_pos hk]
      simp [hv]
    · rw [if_neg hk]
      rw [spanKeys_iff hu] at hk
      have : ¬ (getK u.pairs k).isSome = true := fun h => hk ⟨hi, h⟩
      constructor
      · intro h; rw [h] at this; simp at this
      · intro h; rw [h.1] at this; simp at this
  · have hv : ¬ inS low true high bd (k, v) = true := hi
    rw [if_neg fun h => hi ((spanKeys_iff hu).1 h).1]
    simp [hv]

set_option maxRecDepth 100000 in
set_option maxHeartbeats 2000000 in
theorem r7without_calls {D D1 D2 : Nat → Prop} {v0 v1 v2 : Value} {l : List (Bts × Bts)} {low high : Bts} {bd : Bool} {w : World} (h0 : SV pairEl D w v0 l) (h1 : BV D1 w v1 low) (h2 : BV D2 w v2 high) (hs : l.length ≤ 100000000) :
    Calls Try.prog 165 #[v0, v1, v2, .bool bd] w fun e w' => ∃ v', e = .returned v' ∧ SV pairEl (fun b => D b ∨ w.heap.size ≤ b) w' v' (withoutL l low high bd) ∧ Kept Noneof w w' := by
  have H0 := Lib.hid (h0.bd pairEl_k)
  have H1 := Lib.hid h1
  have H2 := Lib.hid h2
  have hr1 := rank_le l low
  have hr2 := rank_le l high
  obtain ⟨a0, c0, rfl, ⟨hlc, _⟩, _, _⟩ := h0
  obtain ⟨a1, c1, rfl, _⟩ := h1
  obtain ⟨a2, c2, rfl, _⟩ := h2
  have HS := Lib.hid hs
  have hc1 : rank l low ≤ c0 := by omega
  cases bd
  · have S := Lib.hid (show withoutL l low high false = [] ++ l.take (rank l low) by simp [withoutL])
    go_enter Try.func165, Try.ntmps165
    go_wp2_with fail
    refine (r2Rank_calls (by exact SV.at H0.out rfl) (by exact SV.at H1.out rfl)).mono ?_
    rintro e w1 ⟨rfl, n1, rfl⟩
    go_wp2_with (at_builtin; refine wl_app_list (E := pairEl) (D := fun b => D b ∧ b < w.heap.size) rfl (.tmp 15) (.tmp 18) _ rfl tPairs _ [] rfl (Own.nil 70 pairEl _ w.heap.size _) _ _ rfl (H0.out.at rfl |>.take hr1) (fun b hb hlt => ⟨hb, fun h => by cases h⟩) (by simp; omega) (by omega) (Nat.le_refl _) ?_)
    intro v2 w2 o2 e2 _
    have O2 := Lib.hid (o2.rd (D' := fun b => D b ∨ w.heap.size ≤ b) (fun _ h => .inl h.1) fun b h => .inr (o2.lt b h).1)
    have K2 := Lib.hid (((Kept.refl Noneof w).drewN n1).tr (e2.mono fun b h => by cases h))
    obtain ⟨a3, n3, c3, rfl⟩ := o2.slice'
    clear o2 e2
    go_wp2
    go_ret
    exact ⟨_, rfl, by rw [S.out]; exact O2.out, K2.out⟩
  · have S := Lib.hid (show withoutL l low high true = [] ++ l.take (rank l low) ++ l.drop (max (rank l high) (rank l low)) by simp [withoutL])
    go_enter Try.func165, Try.ntmps165
    go_wp2_with fail
    refine (r2Rank_calls (by exact SV.at H0.out rfl) (by exact SV.at H1.out rfl)).mono ?_
    rintro e w1 ⟨rfl, n1, rfl⟩
    go_wp2_with (at_builtin; refine wl_app_list (E := pairEl) (D := fun b => D b ∧ b < w.heap.size) rfl (.tmp 15) (.tmp 18) _ rfl tPairs _ [] rfl (Own.nil 70 pairEl _ w.heap.size _) _ _ rfl (H0.out.at rfl |>.take hr1) (fun b hb hlt => ⟨hb, fun h => by cases h⟩) (by simp; omega) (by omega) (Nat.le_refl _) ?_)
    intro v2 w2 o2 e2 _
    have K2 := Lib.hid (((Kept.refl Noneof w).drewN n1).tr (e2.mono fun b h => by cases h))
    have O2 := Lib.hid o2
    have L2 := Lib.hid o2.lt
    obtain ⟨a3, m3, c3, rfl⟩ := o2.slice'
    clear o2 e2
    go_wp2_with fail
    refine (r2Rank_calls (H0.out.kept pairEl_k K2.out fun _ _ _ h => h) (H2.out.kept byteEl_k K2.out fun _ _ _ h => h)).mono ?_
    rintro e w3 ⟨rfl, n3, rfl⟩
    have K3 := Lib.hid (K2.out.drewN n3)
    have O3 := Lib.hid (show Own 70 pairEl (fun b => D b ∧ b < w.heap.size) w.heap.size (w2.drewN n3) (.slice a3 m3 c3) ([] ++ l.take (rank l low)) from O2.out.at rfl)
    have hl1 : (l.take (rank l low)).length ≤ l.length := by rw [List.length_take]; omega
    have hl2 : ∀ n, (l.drop n).length ≤ l.length := fun n => by rw [List.length_drop]; omega
    have HBY := Lib.hid (show ∀ n, (([] ++ l.take (rank l low)).length + (l.drop n).length) * 48 ≤ 140737488355328 from fun n => by have := hl2 n; have := HS.out; rw [List.nil_append]; omega)
    clear hl1 hl2
    by_cases hlt : rank l high < rank l low
    · have S2 := Lib.hid (show withoutL l low high true = [] ++ l.take (rank l low) ++ l.drop (rank l low) by rw [S.out, Nat.max_eq_right (by omega)])
      go_wp2_with (at_builtin; refine wl_app_list (E := pairEl) rfl (.tmp 28) (.tmp 31) _ rfl tPairs _ _ rfl O3.out _ _ rfl ((H0.out.kept pairEl_k K3.out fun _ _ _ h => h).drop (n := rank l low) hr1 rfl) (fun b hb hlt => ⟨hb, fun h => by have := L2.out b h; omega⟩) (HBY.out _) (by decide) K3.out.size ?_)
      all_goals
        intro x7 w7 o7 e7 _
        have O7 := Lib.hid (o7.rd (D' := fun b => D b ∨ w.heap.size ≤ b) (fun _ h => .inl h.1) fun b h => .inr (o7.lt b h).1)
        have K7 := Lib.hid (K3.out.trans e7 fun b h => .inr (L2.out b h).1)
        obtain ⟨a7, n7, c7, rfl⟩ := o7.slice'
        clear o7 e7
        go_wp2
        go_ret
        exact ⟨_, rfl, by first | (rw [S2.out]; exact O7.out) | (rw [S2.out, List.nil_append, List.take_append_drop]; exact O7.out), K7.out⟩
    · have hc2 : rank l high ≤ c0 := by omega
      have S2 := Lib.hid (show withoutL l low high true = [] ++ l.take (rank l low) ++ l.drop (rank l high) by rw [S.out, Nat.max_eq_left (by omega)])
      go_wp2_with (at_builtin; refine wl_app_list (E := pairEl) rfl (.tmp 28) (.tmp 31) _ rfl tPairs _ _ rfl O3.out _ _ rfl ((H0.out.kept pairEl_k K3.out fun _ _ _ h => h).drop (n := rank l high) hr2 rfl) (fun b hb hlt => ⟨hb, fun h => by have := L2.out b h; omega⟩) (HBY.out _) (by decide) K3.out.size ?_)
      all_goals
        intro x7 w7 o7 e7 _
        have O7 := Lib.hid (o7.rd (D' := fun b => D b ∨ w.heap.size ≤ b) (fun _ h => .inl h.1) fun b h => .inr (o7.lt b h).1)
        have K7 := Lib.hid (K3.out.trans e7 fun b h => .inr (L2.out b h).1)
        obtain ⟨a7, n7, c7, rfl⟩ := o7.slice'
        clear o7 e7
        go_wp2
        go_ret
        exact ⟨_, rfl, by first | (rw [S2.out]; exact O7.out) | (rw [S2.out, List.nil_append, List.take_append_drop]; exact O7.out), K7.out⟩
end Go.Proofs.Ytaopjdjbpamhhaa
/- Proved: contract of the reference 07's span: the messages about a span and the receiver's pairs behind them. Conditions: pairs in memory, those of treaps. -/
namespace Go.Proofs.Ytaopjdjbpamhhaa
open Go Go.RowKit
set_option linter.unusedVariables false
set_option linter.unusedSimpArgs false

theorem talkR_len (seed : Int) : ∀ (t u : Tr) (low high : Bts) (bd : Bool), (talkR seed u t low high bd).length ≤ 2 * t.size + 1
  | .nil, u, low, high, bd => by simp [talkR]
  | .nd l k v r, u, low, high, bd => by
    have h1 := talkR_len seed l (u.put seed k v) low k true
    have h2 := talkR_len seed r (refT seed (u.put seed k v) l low k true) (k ++ [0]) high bd
    rw [talkR]
    split
    · simp
    · simp only [List.length_cons, List.length_append, Tr.size]
      omega
def talkObj (vm vt : Value) : Obj := .cells #[vm, vt] 90
def pairObj (k v : Value) : Obj := .cells #[k, v] 70

/-- Anywhere. -/
abbrev Any : Nat → Prop := fun _ => True
theorem SV.any {α : Type} {E : El α} {D : Nat → Prop} {w : World} {v : Value} {l : List α} (hk : 0 < E.k) (h : SV E D w v l) : SV E Any w v l := h.wide hk fun _ _ _ => trivial
theorem SV.still {α : Type} {E : El α} {D : Nat → Prop} {w w' : World} {v : Value} {l : List α} (hk : 0 < E.k) (h : SV E D w v l) (k : Kept Noneof w w') : SV E D w' v l := h.kept hk k fun _ _ _ h => h
/-- But for one block. -/
def Not1 (Q : Nat → Prop) (n : Nat) : Nat → Prop := fun b => Q b ∧ b ≠ n
def Lt1 (Q : Nat → Prop) (n : Nat) : Nat → Prop := fun b => Q b ∧ b < n
theorem Lt1.not1 {Q : Nat → Prop} {n b : Nat} (h : Lt1 Q n b) : Not1 Q n b := ⟨h.1, by have := h.2; omega⟩
theorem SV.lt1 {α : Type} {E : El α} {D : Nat → Prop} {w : World} {v : Value} {l : List α} (hk : 0 < E.k) (h : SV E D w v l) : SV E (Lt1 D w.heap.size) w v l := h.mono hk fun b hb hlt => ⟨⟨hb, hlt⟩, rfl⟩
theorem SV.lt {α : Type} {E : El α} {D : Nat → Prop} {w : World} {v : Value} {l : List α} (hk : 0 < E.k) (h : SV E D w v l) : SV E (fun b => b < w.heap.size) w v l := h.mono hk fun b _ hlt => ⟨hlt, rfl⟩
theorem msgObj_cells {w : World} {b : Nat} {vl vh vp : Value} {bd same : Bool} {size dg : Int} (h : w.heap[b]? = some (msgObj vl vh bd size dg same vp)) : w.cell? ⟨b, 0, none⟩ = some vl ∧ w.cell? ⟨b, 1, none⟩ = some vh ∧ w.cell? ⟨b, 2, none⟩ = some (.bool bd) ∧ w.cell? ⟨b, 3, none⟩ = some (.int .i64 size) ∧ w.cell? ⟨b, 4, none⟩ = some (.int .u64 dg) ∧ w.cell? ⟨b, 5, none⟩ = some (.bool same) ∧ w.cell? ⟨b, 6, none⟩ = some vp ∧ ∀ j, w.frozen? ⟨b, j, none⟩ = false := by
  unfold msgObj at h
  simp [World.cell?, World.frozen?, h]
theorem talkObj_cells {w : World} {b : Nat} {vm vt : Value} (h : w.heap[b]? = some (talkObj vm vt)) : w.cell? ⟨b, 0, none⟩ = some vm ∧ w.cell? ⟨b, 1, none⟩ = some vt ∧ ∀ j, w.frozen? ⟨b, j, none⟩ = false := by
  unfold talkObj at h
  simp [World.cell?, World.frozen?, h]
/-- '[]T{x}': a row of one element. -/
theorem Own.lit1 {α : Type} {E : El α} {D D' : Nat → Prop} {w : World} {e : TypeId} {cs : List Value} {y : α} (hm : E.R D' w cs y) (hD : ∀ b, D' b → b < w.heap.size → D b) :
    Own e E D w.heap.size (w.alloc (.cells cs.toArray e)) (.slice (some ⟨w.heap.size, 0, none⟩) 1 1) [y] := by
  have hl := E.len hm
  have k := (Kept.refl Noneof w).alloc (.cells cs.toArray e)
  have hs : w.heap.size < (w.alloc (.cells cs.toArray e)).heap.size := by simp
  refine ⟨by simp, fun b => D b ∧ b < w.heap.size, fun b hb => ⟨hb.1, by omega, ?_⟩, cs, ⟨by simp [hl], .inr ⟨w.heap.size, 1, cs.toArray, rfl, Nat.le_refl _, heap_alloc_new _ _, Nat.le_refl _, by unfold maxLen; omega, by simp [hl], by simp [← hl]⟩⟩, ?_⟩
  · simp only [Value.ownBlock, ne_eq, Option.some.injEq]
    omega
  · exact Cells.single (E.mono (fun b hb hlt => ⟨⟨hD b hb hlt, hlt⟩, k.block b hlt fun h => h⟩) hm)
theorem refT_size (seed : Int) : ∀ (t u : Tr) (low high : Bts) (bd : Bool), (refT seed u t low high bd).size ≤ u.size + t.size
  | .nil, u, low, high, bd => by
    rw [refT]
    split
    · exact Nat.le_refl _
    · exact dropAll_size seed _ _
  | .nd l k v r, u, low, high, bd => by
    rw [refT]
    split
    · exact Nat.le_add_right _ _
    · have h1 := Tr.put_size seed k v u
      have h2 := refT_size seed l (u.put seed k v) low k true
      have h3 := refT_size seed r (refT seed (u.put seed k v) l low k true) (k ++ [0]) high bd
      simp only [Tr.size]
      omega
theorem dropAll_ok (seed : Int) : ∀ {ks : List Bts} {u : Tr}, u.ok → (dropAll seed u ks).ok
  | [], _, h => h
  | k :: ks, u, h => by
    rw [dropAll_cons]
    refine dropAll_ok seed ?_
    unfold Tr.dropIf
    split
    · exact Tr.drop_ok h
    · exact h
theorem refT_ok (seed : Int) : ∀ {t u : Tr} {low high : Bts} {bd : Bool}, t.ok → u.ok → (refT seed u t low high bd).ok
  | .nil, u, low, high, bd, _, hu => by
    rw [refT]
    split
    · exact hu
    · exact dropAll_ok seed hu
  | .nd l k v r, u, low, high, bd, ht, hu => by
    rw [refT]
    split
    · exact hu
    · exact refT_ok seed ht.2.2 (refT_ok seed ht.1 (Tr.put_ok ht.2.1 hu))
theorem Tr.cut_ok {t : Tr} {low high : Bts} {fr tt : Bool} {seed : Int} (hg : t.good seed) (h : t.ok) : (t.cut low fr high tt).ok := by
  rw [Tr.ok_iff] at h ⊢
  rw [(Tr.cut_good low fr high tt hg).2]
  exact fun p hp => h p (List.mem_filter.1 hp).1
set_option maxRecDepth 100000 in
set_option maxHeartbeats 8000000 in
theorem r7span_calls {seed : Int} {F : List (Bts × Bts)} (hF : Srt F) (hFl : F.length ≤ 100000) : ∀ (t u : Tr) (low high : Bts) (bd : Bool) (vf vt lo hi : Value) (w : World), t.good seed → t.ok → u.good seed → u.ok → u.size + t.size ≤ 100000 → t.pairs = F.filter (inS low true high bd) →
    ∀ (Q : Nat → Prop), (∀ b, w.heap.size ≤ b → Q b) → SV pairEl Q w vf F → SV pairEl Q w vt u.pairs → BV Q w lo low → BV Q w hi high →
    Calls Try.prog 124 #[.int .u64 seed, vf, vt, lo, hi, .bool bd] w fun e w' => ∃ vm vt', e = .returned (.agg #[vm, vt']) ∧ SV msgEl Q w' vm (talkR seed u t low high bd) ∧ SV pairEl Q w' vt' (refT seed u t low high bd).pairs ∧ Kept Noneof w w' := by
  intro t
  induction t with
  | nil =>
    intro u low high bd vf vt lo hi w hg ok ug uok hsz hp Q hq h1 h2 h3 h4
    (
    have HQ := Lib.hid (show ∀ b, w.heap.size < b → Not1 Q w.heap.size b from fun b hb => ⟨hq b (Nat.le_of_lt hb), by omega⟩)
    have H1 := Lib.hid (h1.lt1 pairEl_k)
    have H2 := Lib.hid (h2.lt1 pairEl_k)
    have H3 := Lib.hid (h3.lt1 byteEl_k)
    have H4 := Lib.hid (h4.lt1 byteEl_k)
    have HP := Lib.hid hp
    have UG := Lib.hid ug
    have UOK := Lib.hid uok
    have TG := Lib.hid hg
    have TOK := Lib.hid ok
    have HS := Lib.hid hsz
    have hts : (Tr.nil).size ≤ 100000 := by omega
    have hcs : (u.cut low true high bd).size ≤ 100000 := by have := Tr.cut_size u low true high bd; omega
    obtain ⟨af, nf, cf, rfl⟩ := h1.slice'
    obtain ⟨at1, nt, ct, rfl⟩ := h2.slice'
    obtain ⟨al, nl, cl, rfl⟩ := h3.slice'
    obtain ⟨ah, nh, ch, rfl⟩ := h4.slice'
    clear h1 h2 h3 h4 hq hp ug uok hsz hg ok
    go_enter Try.func124, Try.ntmps124
    go_wp2_with fail
    have G12 := heap_alloc_new w (.cells #[.slice none 0 0, .slice none 0 0] 90)
    have K1 := (Kept.refl Noneof w).alloc (.cells #[.slice none 0 0, .slice none 0 0] 90)
    generalize w.alloc (.cells #[.slice none 0 0, .slice none 0 0] 90) = w1 at *
    refine (r2Span_calls (H1.out.still pairEl_k K1) (H3.out.still byteEl_k K1) (H4.out.still byteEl_k K1)).mono ?_
    rintro e w2 ⟨v13, rfl, s13, d2⟩
    rw [spanL_filter hF, ← HP.out] at s13
    have K2 := Lib.hid (K1.drewn d2)
    have G12 := Lib.hid (show w2.heap[w.heap.size]? = some (talkObj (.slice none 0 0) (.slice none 0 0)) by rw [d2.heap]; exact G12)
    have S13 := Lib.hid (s13.at d2.heap)
    obtain ⟨a13, c13, hv13, _⟩ := id s13
    rw [Tr.pairs_len] at hv13
    subst hv13
    clear s13 d2 K1
    go_wp2_with fail
    refine (r2Span_calls (H2.out.still pairEl_k K2.out) (H3.out.still byteEl_k K2.out) (H4.out.still byteEl_k K2.out)).mono ?_
    rintro e w3 ⟨v14, rfl, s14, d3⟩
    rw [spanL_filter (Tr.good_srt UG.out), ← (Tr.cut_good low true high bd UG.out).2] at s14
    have K3 := Lib.hid (K2.out.drewn d3)
    have G12b := Lib.hid (show w3.heap[w.heap.size]? = some (talkObj (.slice none 0 0) (.slice none 0 0)) by rw [d3.heap]; exact G12.out)
    have S13b := Lib.hid (S13.out.at d3.heap)
    have S14 := Lib.hid (s14.at d3.heap)
    obtain ⟨a14, c14, hv14, _⟩ := id s14
    rw [Tr.pairs_len] at hv14
    subst hv14
    clear s14 d3 K2 G12 S13
    go_wp2_with fail
    refine (r2Digest_calls TG.out TOK.out (by omega) S13b.out).mono ?_
    rintro e w4 ⟨rfl, k4⟩
    have K4 := Lib.hid (K3.out.tr k4)
    have G4 := Lib.hid (k4.obj (fun h => h) G12b.out)
    have S13c := Lib.hid (S13b.out.still pairEl_k k4)
    have S14c := Lib.hid (S14.out.still pairEl_k k4)
    clear k4 K3 G12b S13b S14
    go_upto_region 4 with (fail))
    (
    have G15 := heap_alloc_new w4 (msgObj (.slice al nl cl) (.slice ah nh ch) bd (((Tr.nil).size : Nat) : Int) ((Tr.nil).dg seed) false (.slice none 0 0))
    have K5 := (Kept.refl Noneof w4).alloc (msgObj (.slice al nl cl) (.slice ah nh ch) bd (((Tr.nil).size : Nat) : Int) ((Tr.nil).dg seed) false (.slice none 0 0))
    have hsm : sameAt seed u (Tr.nil) low high bd = (((u.cut low true high bd).size == (Tr.nil).size) && ((u.cut low true high bd).dg seed == (Tr.nil).dg seed)) := rfl
    have HSM := Lib.hid hsm
    clear hsm
    unfold msgObj at G15 K5
    generalize w4.alloc (.cells #[.slice al nl cl, .slice ah nh ch, .bool bd, .int .i64 (((Tr.nil).size : Nat) : Int), .int .u64 ((Tr.nil).dg seed), .bool false, .slice none 0 0] 97) = w5 at *
    have e4 : w5.cell? ⟨w4.heap.size, 4, none⟩ = some (.int .u64 ((Tr.nil).dg seed)) := by simp [World.cell?, G15]
    have G15 := Lib.hid G15
    have K5 := Lib.hid K5
    go_cut [2] (fun s2 wx => s2 = .slice at1 nt ct ∧ Hid (Kept Noneof w4 wx) ∧ Hid (wx.heap[w4.heap.size]? = some (msgObj (.slice al nl cl) (.slice ah nh ch) bd (((Tr.nil).size : Nat) : Int) ((Tr.nil).dg seed) (sameAt seed u (Tr.nil) low high bd) (.slice none 0 0))))
    case first =>
      by_cases hlen : (u.cut low true high bd).size = (Tr.nil).size
      · have b1 : (((u.cut low true high bd).size : Int) == (((Tr.nil).size : Nat) : Int)) = true := by rw [hlen]; simp
        have HLN := Lib.hid (show sameAt seed u (Tr.nil) low high bd = ((u.cut low true high bd).dg seed == (Tr.nil).dg seed) by rw [HSM.out, hlen]; simp)
        clear hlen
        refine wp_region_chain 14 [8] (fun w' => w'.cell? ⟨w4.heap.size, 4, none⟩ = some (.int .u64 ((Tr.nil).dg seed))) (by kernel_rfl) (by kernel_rfl) ?_ ?_
        · exact e4
        simp only [List.take_succ_cons, List.take_zero, List.drop_succ_cons, List.drop_zero]
        iterate 8 (refine SeqY.val (v := ?_) (by rfl) (by rfl) (fun wx hSw => ?_) ?_; rotate_left; (focus ((try dsimp only at hSw); go_simp; (try with_reducible rfl))); (try simp only [Act.put, List.setIfInBounds_toArray, List.set_cons_zero, List.set_cons_succ]))
        refine SeqY.act (by rfl) rfl (by rfl) (by rfl) (fun K hK => ?_)
        go_simp
        refine (r2Digest_calls (w := w5.drew) (Tr.cut_good low true high bd UG.out).1 (Tr.cut_ok UG.out UOK.out) (by omega) ((S14c.out.still pairEl_k K5.out).at rfl)).mono ?_
        rintro e w6 ⟨rfl, k6⟩
        have k6 : Kept Noneof w5 w6 := ⟨k6.os, k6.tape, k6.output, k6.size, k6.block⟩
        refine hK.out _ _ (k6.cell (fun h => h) e4) ?_
        have K6 := Lib.hid k6
        have G6 := Lib.hid (k6.obj (fun h => h) G15.out)
        clear K hK k6
        (try simp only [Act.put, List.setIfInBounds_toArray, List.set_cons_zero, List.set_cons_succ])
        iterate 5 (refine SeqY.val (v := ?_) (by rfl) (by rfl) (fun wx hSw => ?_) ?_; rotate_left; (focus ((try dsimp only at hSw); go_simp; (try with_reducible rfl))); (try simp only [Act.put, List.setIfInBounds_toArray, List.set_cons_zero, List.set_cons_succ]))
        refine SeqY.nil ?_
        have f5 : w6.cell? ⟨w4.heap.size, 5, none⟩ = some (.bool false) := by simp [World.cell?, G6.out]
        have ff : ∀ j, w6.frozen? ⟨w4.heap.size, j, none⟩ = false := fun j => by simp [World.frozen?, G6.out]
        clear e4 b1
        go_wp2_with fail
        go_meet
        have KF := (Kept.refl (fun b => b = w4.heap.size) w6).setCell (p := ⟨w4.heap.size, 5, none⟩) (.inl rfl) (.bool ((u.cut low true high bd).dg seed == (Tr.nil).dg seed))
        exact ⟨rfl, Lib.hid ((K5.out.tr K6.out).trans KF fun b h => .inr (by omega)), Lib.hid (by rw [HLN.out]; exact setCell_obj G6.out _)⟩
      · have b1 : (((u.cut low true high bd).size : Int) == (((Tr.nil).size : Nat) : Int)) = false := by rw [beq_eq_false_iff_ne]; omega
        have HLN := Lib.hid (show sameAt seed u (Tr.nil) low high bd = false by rw [HSM.out, beq_eq_false_iff_ne.2 hlen]; rfl)
        clear hlen
        refine wp_region_chain 14 [8] (fun w' => w'.cell? ⟨w4.heap.size, 4, none⟩ = some (.int .u64 ((Tr.nil).dg seed))) (by kernel_rfl) (by kernel_rfl) ?_ ?_
        · exact e4
        simp only [List.take_succ_cons, List.take_zero, List.drop_succ_cons, List.drop_zero]
        iterate 6 (refine SeqY.val (v := ?_) (by rfl) (by rfl) (fun wx hSw => ?_) ?_; rotate_left; (focus ((try dsimp only at hSw); go_simp; (try with_reducible rfl))); (try simp only [Act.put, List.setIfInBounds_toArray, List.set_cons_zero, List.set_cons_succ]))
        iterate 6 (refine SeqY.skip (by rfl) ?_; (try simp only [Act.put, List.setIfInBounds_toArray, List.set_cons_zero, List.set_cons_succ]))
        iterate 2 (refine SeqY.val (v := ?_) (by rfl) (by rfl) (fun wx hSw => ?_) ?_; rotate_left; (focus ((try dsimp only at hSw); go_simp; (try with_reducible rfl))); (try simp only [Act.put, List.setIfInBounds_toArray, List.set_cons_zero, List.set_cons_succ]))
        refine SeqY.nil ?_
        have G6 := Lib.hid (show w5.drew.heap[w4.heap.size]? = _ from G15.out)
        have K6 := Lib.hid (K5.out.drew)
        generalize w5.drew = w6 at *
        have f5 : w6.cell? ⟨w4.heap.size, 5, none⟩ = some (.bool false) := by simp [World.cell?, G6.out]
        have ff : ∀ j, w6.frozen? ⟨w4.heap.size, j, none⟩ = false := fun j => by simp [World.frozen?, G6.out]
        clear e4 b1
        go_wp2_with fail
        go_meet
        have KF := (Kept.refl (fun b => b = w4.heap.size) w6).setCell (p := ⟨w4.heap.size, 5, none⟩) (.inl rfl) (.bool false)
        exact ⟨rfl, Lib.hid (K6.out.trans KF fun b h => .inr (by omega)), Lib.hid (by rw [HLN.out]; exact setCell_obj G6.out _)⟩)
    case rest =>
      (
      obtain ⟨rfl, K5, G5⟩ := hcut
      have G12c := Lib.hid (K5.out.obj (fun h => h) G4.out)
      have K6 := Lib.hid (K4.out.tr K5.out)
      have H2c := Lib.hid (H2.out.still pairEl_k K6.out)
      have H3c := Lib.hid (H3.out.still byteEl_k K6.out)
      have H4c := Lib.hid (H4.out.still byteEl_k K6.out)
      have B15 := Lib.hid (show w.heap.size ≤ w4.heap.size from K4.out.size)
      have B12 := Lib.hid (block_lt G4.out)
      obtain ⟨m0, m1, m2, m3, m4, m5, m6, mf⟩ := msgObj_cells G5.out
      obtain ⟨q0, q1, qf⟩ := talkObj_cells G12c.out
      clear e4)
      cases hs : sameAt seed u Tr.nil low high bd
      · rw [hs] at m5
        have RS := Lib.hid (show (refT seed u Tr.nil low high bd).pairs = withoutL u.pairs low high bd by
          rw [refT, hs, if_neg (by simp), dropSpan_pairs UG.out, withoutL_filter (Tr.good_srt UG.out)])
        have TS := Lib.hid (show talkR seed u Tr.nil low high bd = [⟨low, high, bd, 0, 0, false, []⟩] by rw [talkR, hs])
        clear hs
        have hz : Tr.nil.size = 0 := rfl
        go_wp2_with fail
        clear hz
        refine wp_region_kept 8 [(1, .act IsSlice fun x wx => SV msgEl (Not1 Q w.heap.size) wx x [⟨low, high, bd, 0, 0, false, []⟩]), (6, .act IsSlice fun x wx => SV pairEl (Not1 Q w.heap.size) wx x (withoutL u.pairs low high bd))] Noneof (by kernel_rfl) (by kernel_rfl) (by kernel_rfl) ?_; simp only [List.take_succ_cons, List.take_zero, List.drop_succ_cons, List.drop_zero]
        have hS : ∀ w', Kept Noneof wc w' → w'.cell? ⟨w4.heap.size, 0, none⟩ = some (.slice al nl cl) ∧ w'.cell? ⟨w4.heap.size, 1, none⟩ = some (.slice ah nh ch) ∧ w'.cell? ⟨w4.heap.size, 2, none⟩ = some (.bool bd) ∧ w'.cell? ⟨w4.heap.size, 3, none⟩ = some (.int .i64 ((Tr.nil.size : Nat) : Int)) ∧ w'.cell? ⟨w4.heap.size, 4, none⟩ = some (.int .u64 (Tr.nil.dg seed)) ∧ w'.cell? ⟨w4.heap.size, 5, none⟩ = some (.bool false) ∧ w'.cell? ⟨w4.heap.size, 6, none⟩ = some (.slice none 0 0) := fun w' k => ⟨k.cell (fun h => h) m0, k.cell (fun h => h) m1, k.cell (fun h => h) m2, k.cell (fun h => h) m3, k.cell (fun h => h) m4, k.cell (fun h => h) m5, k.cell (fun h => h) m6⟩
        (refine SeqL.val (v := ?_) hS rfl (by rfl) (fun wx hSw => ?_) ?_; rotate_left; (focus ((try dsimp only at hSw); go_simp; (try with_reducible rfl))); (try simp only [Act.put, List.setIfInBounds_toArray, List.set_cons_zero, List.set_cons_succ]))
        refine SeqL.act rfl rfl (by rfl) (by rfl) isSlice (fun wx hx hh K hK => ?_) (fun u1 hu1 => ?_)
        · go_simp
          have OL := Own.lit1 (E := msgEl) (e := 97) (D := Not1 Q w.heap.size) (D' := Lt1 Q w.heap.size) (w := wx) (cs := [.slice al nl cl, .slice ah nh ch, .bool bd, .int .i64 ((Tr.nil.size : Nat) : Int), .int .u64 (Tr.nil.dg seed), .bool false, .slice none 0 0]) (y := ⟨low, high, bd, 0, 0, false, []⟩) ⟨_, _, _, rfl, H3c.out.still byteEl_k hx, H4c.out.still byteEl_k hx, SV.nil _ _⟩ (fun b h _ => h.not1)
          have hxs := hx.size
          exact hK.out _ _ ⟨_, _, _, rfl⟩ ((Kept.refl _ _).alloc _) (OL.sv.wide msgEl_k fun b h _ => h.elim id fun h => HQ.out b (by have := B12.out; have := K5.out.size; omega))
        obtain ⟨b1, n1', c1', rfl⟩ := hu1
        (try simp only [Act.put, List.setIfInBounds_toArray, List.set_cons_zero, List.set_cons_succ])
        iterate 4 (refine SeqL.val (v := ?_) hS rfl (by rfl) (fun wx hSw => ?_) ?_; rotate_left; (focus ((try dsimp only at hSw); go_simp; (try with_reducible rfl))); (try simp only [Act.put, List.setIfInBounds_toArray, List.set_cons_zero, List.set_cons_succ]))
        refine SeqL.act rfl rfl (by rfl) (by rfl) isSlice (fun wx hx hh K hK => ?_) (fun u1 hu1 => ?_)
        · go_simp
          refine (r7without_calls (H2c.out.still pairEl_k hx) (H3c.out.still byteEl_k hx) (H4c.out.still byteEl_k hx) (by rw [Tr.pairs_len]; have := HS.out; omega)).mono ?_
          rintro e w6 ⟨v', rfl, o1, k1⟩
          have hxs := hx.size
          exact hK.out v' w6 o1.slice' k1 (o1.wide pairEl_k fun b h _ => h.elim (fun h => h.not1) fun h => HQ.out b (by have := B12.out; have := K5.out.size; omega))
        obtain ⟨b2, n2', c2', rfl⟩ := hu1
        (try simp only [Act.put, List.setIfInBounds_toArray, List.set_cons_zero, List.set_cons_succ])
        (refine SeqL.val (v := ?_) hS rfl (by rfl) (fun wx hSw => ?_) ?_; rotate_left; (focus ((try dsimp only at hSw); go_simp; (try with_reducible rfl))); (try simp only [Act.put, List.setIfInBounds_toArray, List.set_cons_zero, List.set_cons_succ]))
        refine SeqL.nil fun wz hz hh => ?_
        obtain ⟨wa, _, oa, ka⟩ := hh 1 (by decide) _ _ _ rfl rfl
        obtain ⟨wb, _, ob, kb⟩ := hh 6 (by decide) _ _ _ rfl rfl
        have OA := Lib.hid (show SV msgEl (Not1 Q w.heap.size) wz (.slice b1 n1' c1') [⟨low, high, bd, 0, 0, false, []⟩] from SV.still msgEl_k oa ka)
        have OB := Lib.hid (show SV pairEl (Not1 Q w.heap.size) wz (.slice b2 n2' c2') (withoutL u.pairs low high bd) from SV.still pairEl_k ob kb)
        have GZ := Lib.hid (hz.obj (fun h => h) G12c.out)
        have KZ := Lib.hid (K6.out.tr hz)
        clear hh hS oa ob ka kb hz q0 q1 qf m0 m1 m2 m3 m4 m5 m6 mf
        obtain ⟨q0, q1, qf⟩ := talkObj_cells GZ.out
        go_wp2_with fail
        have KT := ((Kept.refl (fun b => b = w.heap.size) wz).setCell (p := ⟨w.heap.size, 0, none⟩) (.inl rfl) (.slice b1 n1' c1')).setCell (p := ⟨w.heap.size, 1, none⟩) (.inl rfl) (.slice b2 n2' c2')
        have GF := setCell_obj (setCell_obj GZ.out (.slice b1 n1' c1') (j := 0)) (.slice b2 n2' c2') (j := 1)
        have hb12 := B12.out
        have hb15 := B15.out
        have hwc := K5.out.size
        refine bodyPost_ret (results_cell_row rfl _ _ w.heap.size _ #[_, _] (0, 0) _ rfl GF Try.underlying90 rfl (by kernel_rfl)) rfl ?_
        refine ⟨_, _, rfl, ?_, ?_, ?_⟩
        · rw [TS.out]
          exact (OA.out.kept msgEl_k KT (fun b hb _ e => hb.2 e)).wide msgEl_k fun b h _ => h.1
        · rw [RS.out]
          exact (OB.out.kept pairEl_k KT (fun b hb _ e => hb.2 e)).wide pairEl_k fun b h _ => h.1
        · exact KZ.out.trans KT fun b e => .inr (by omega)
      · rw [hs] at m5
        have HS2 := Lib.hid hs
        have RS := Lib.hid (show refT seed u Tr.nil low high bd = u by rw [refT, if_pos hs])
        have TS := Lib.hid (show talkR seed u Tr.nil low high bd = [⟨low, high, bd, 0, 0, true, []⟩] by rw [talkR, hs])
        clear hs
        have qa := fun o => talkObj_cells (((Kept.refl Noneof wc).alloc o).obj (fun h => h) G12c.out)
        have q0a := fun o => (qa o).1
        have q1a := fun o => (qa o).2.1
        have qfa := fun o => (qa o).2.2
        clear q0 q1 qf qa
        go_wp2_with fail
        (
        have KA := (Kept.refl Noneof wc).alloc (.cells #[.slice al nl cl, .slice ah nh ch, .bool bd, .int .i64 (((Tr.nil).size : Nat) : Int), .int .u64 ((Tr.nil).dg seed), .bool true, .slice none 0 0] 97)
        have OL := Own.lit1 (E := msgEl) (e := 97) (D := Not1 Q w.heap.size) (D' := Lt1 Q w.heap.size) (w := wc) (cs := [.slice al nl cl, .slice ah nh ch, .bool bd, .int .i64 (((Tr.nil).size : Nat) : Int), .int .u64 ((Tr.nil).dg seed), .bool true, .slice none 0 0]) (y := ⟨low, high, bd, (Tr.nil).size, (Tr.nil).dg seed, true, []⟩) ⟨_, _, _, rfl, H3c.out, H4c.out, SV.nil _ _⟩ (fun b h _ => h.not1)
        have GA := KA.obj (p := w.heap.size) (fun h => h) G12c.out
        generalize wc.alloc (.cells #[.slice al nl cl, .slice ah nh ch, .bool bd, .int .i64 (((Tr.nil).size : Nat) : Int), .int .u64 ((Tr.nil).dg seed), .bool true, .slice none 0 0] 97) = wd at *
        have KT := ((Kept.refl (fun b => b = w.heap.size) wd).setCell (p := ⟨w.heap.size, 0, none⟩) (.inl rfl) (.slice (some ⟨wc.heap.size, 0, none⟩) 1 1)).setCell (p := ⟨w.heap.size, 1, none⟩) (.inl rfl) (.slice at1 nt ct)
        have GF := setCell_obj (setCell_obj GA (.slice (some ⟨wc.heap.size, 0, none⟩) 1 1) (j := 0)) (.slice at1 nt ct) (j := 1)
        have hb12 := B12.out
        have hb15 := B15.out
        have hwc := K5.out.size
        refine bodyPost_ret (results_cell_row rfl _ _ w.heap.size _ #[_, _] (0, 0) _ rfl GF Try.underlying90 rfl (by kernel_rfl)) rfl ?_
        refine ⟨_, _, rfl, ?_, ?_, ?_⟩
        · rw [TS.out]
          exact ((OL.sv.wide (D' := Not1 Q w.heap.size) msgEl_k fun b h _ => h.elim id fun h => HQ.out b (by omega)).kept msgEl_k KT (fun b hb _ e => hb.2 e)).wide msgEl_k fun b h _ => h.1
        · rw [RS.out]
          exact ((H2c.out.still pairEl_k KA).kept pairEl_k KT (fun b hb _ e => by have := hb.2; omega)).wide pairEl_k fun b h _ => h.1
        · exact (K6.out.tr KA).trans KT fun b e => .inr (by omega))
  | nd l k v r il ir =>
    intro u low high bd vf vt lo hi w hg ok ug uok hsz hp Q hq h1 h2 h3 h4
    have IL := Lib.hid il
    have IR := Lib.hid ir
    clear il ir
    (
    have HQ := Lib.hid (show ∀ b, w.heap.size < b → Not1 Q w.heap.size b from fun b hb => ⟨hq b (Nat.le_of_lt hb), by omega⟩)
    have H1 := Lib.hid (h1.lt1 pairEl_k)
    have H2 := Lib.hid (h2.lt1 pairEl_k)
    have H3 := Lib.hid (h3.lt1 byteEl_k)
    have H4 := Lib.hid (h4.lt1 byteEl_k)
    have HP := Lib.hid hp
    have UG := Lib.hid ug
    have UOK := Lib.hid uok
    have TG := Lib.hid hg
    have TOK := Lib.hid ok
    have HS := Lib.hid hsz
    have hts : (Tr.nd l k v r).size ≤ 100000 := by omega
    have hcs : (u.cut low true high bd).size ≤ 100000 := by have := Tr.cut_size u low true high bd; omega
    obtain ⟨af, nf, cf, rfl⟩ := h1.slice'
    obtain ⟨at1, nt, ct, rfl⟩ := h2.slice'
    obtain ⟨al, nl, cl, rfl⟩ := h3.slice'
    obtain ⟨ah, nh, ch, rfl⟩ := h4.slice'
    clear h1 h2 h3 h4 hq hp ug uok hsz hg ok
    go_enter Try.func124, Try.ntmps124
    go_wp2_with fail
    have G12 := heap_alloc_new w (.cells #[.slice none 0 0, .slice none 0 0] 90)
    have K1 := (Kept.refl Noneof w).alloc (.cells #[.slice none 0 0, .slice none 0 0] 90)
    generalize w.alloc (.cells #[.slice none 0 0, .slice none 0 0] 90) = w1 at *
    refine (r2Span_calls (H1.out.still pairEl_k K1) (H3.out.still byteEl_k K1) (H4.out.still byteEl_k K1)).mono ?_
    rintro e w2 ⟨v13, rfl, s13, d2⟩
    rw [spanL_filter hF, ← HP.out] at s13
    have K2 := Lib.hid (K1.drewn d2)
    have G12 := Lib.hid (show w2.heap[w.heap.size]? = some (talkObj (.slice none 0 0) (.slice none 0 0)) by rw [d2.heap]; exact G12)
    have S13 := Lib.hid (s13.at d2.heap)
    obtain ⟨a13, c13, hv13, _⟩ := id s13
    rw [Tr.pairs_len] at hv13
    subst hv13
    clear s13 d2 K1
    go_wp2_with fail
    refine (r2Span_calls (H2.out.still pairEl_k K2.out) (H3.out.still byteEl_k K2.out) (H4.out.still byteEl_k K2.out)).mono ?_
    rintro e w3 ⟨v14, rfl, s14, d3⟩
    rw [spanL_filter (Tr.good_srt UG.out), ← (Tr.cut_good low true high bd UG.out).2] at s14
    have K3 := Lib.hid (K2.out.drewn d3)
    have G12b := Lib.hid (show w3.heap[w.heap.size]? = some (talkObj (.slice none 0 0) (.slice none 0 0)) by rw [d3.heap]; exact G12.out)
    have S13b := Lib.hid (S13.out.at d3.heap)
    have S14 := Lib.hid (s14.at d3.heap)
    obtain ⟨a14, c14, hv14, _⟩ := id s14
    rw [Tr.pairs_len] at hv14
    subst hv14
    clear s14 d3 K2 G12 S13
    go_wp2_with fail
    refine (r2Digest_calls TG.out TOK.out (by omega) S13b.out).mono ?_
    rintro e w4 ⟨rfl, k4⟩
    have K4 := Lib.hid (K3.out.tr k4)
    have G4 := Lib.hid (k4.obj (fun h => h) G12b.out)
    have S13c := Lib.hid (S13b.out.still pairEl_k k4)
    have S14c := Lib.hid (S14.out.still pairEl_k k4)
    clear k4 K3 G12b S13b S14
    go_upto_region 4 with (fail))
    (
    have G15 := heap_alloc_new w4 (msgObj (.slice al nl cl) (.slice ah nh ch) bd (((Tr.nd l k v r).size : Nat) : Int) ((Tr.nd l k v r).dg seed) false (.slice none 0 0))
    have K5 := (Kept.refl Noneof w4).alloc (msgObj (.slice al nl cl) (.slice ah nh ch) bd (((Tr.nd l k v r).size : Nat) : Int) ((Tr.nd l k v r).dg seed) false (.slice none 0 0))
    have hsm : sameAt seed u (Tr.nd l k v r) low high bd = (((u.cut low true high bd).size == (Tr.nd l k v r).size) && ((u.cut low true high bd).dg seed == (Tr.nd l k v r).dg seed)) := rfl
    have HSM := Lib.hid hsm
    clear hsm
    unfold msgObj at G15 K5
    generalize w4.alloc (.cells #[.slice al nl cl, .slice ah nh ch, .bool bd, .int .i64 (((Tr.nd l k v r).size : Nat) : Int), .int .u64 ((Tr.nd l k v r).dg seed), .bool false, .slice none 0 0] 97) = w5 at *
    have e4 : w5.cell? ⟨w4.heap.size, 4, none⟩ = some (.int .u64 ((Tr.nd l k v r).dg seed)) := by simp [World.cell?, G15]
    have G15 := Lib.hid G15
    have K5 := Lib.hid K5
    go_cut [2] (fun s2 wx => s2 = .slice at1 nt ct ∧ Hid (Kept Noneof w4 wx) ∧ Hid (wx.heap[w4.heap.size]? = some (msgObj (.slice al nl cl) (.slice ah nh ch) bd (((Tr.nd l k v r).size : Nat) : Int) ((Tr.nd l k v r).dg seed) (sameAt seed u (Tr.nd l k v r) low high bd) (.slice none 0 0))))
    case first =>
      by_cases hlen : (u.cut low true high bd).size = (Tr.nd l k v r).size
      · have b1 : (((u.cut low true high bd).size : Int) == (((Tr.nd l k v r).size : Nat) : Int)) = true := by rw [hlen]; simp
        have HLN := Lib.hid (show sameAt seed u (Tr.nd l k v r) low high bd = ((u.cut low true high bd).dg seed == (Tr.nd l k v r).dg seed) by rw [HSM.out, hlen]; simp)
        clear hlen
        refine wp_region_chain 14 [8] (fun w' => w'.cell? ⟨w4.heap.size, 4, none⟩ = some (.int .u64 ((Tr.nd l k v r).dg seed))) (by kernel_rfl) (by kernel_rfl) ?_ ?_
        · exact e4
        simp only [List.take_succ_cons, List.take_zero, List.drop_succ_cons, List.drop_zero]
        iterate 8 (refine SeqY.val (v := ?_) (by rfl) (by rfl) (fun wx hSw => ?_) ?_; rotate_left; (focus ((try dsimp only at hSw); go_simp; (try with_reducible rfl))); (try simp only [Act.put, List.setIfInBounds_toArray, List.set_cons_zero, List.set_cons_succ]))
        refine SeqY.act (by rfl) rfl (by rfl) (by rfl) (fun K hK => ?_)
        go_simp
        refine (r2Digest_calls (w := w5.drew) (Tr.cut_good low true high bd UG.out).1 (Tr.cut_ok UG.out UOK.out) (by omega) ((S14c.out.still pairEl_k K5.out).at rfl)).mono ?_
        rintro e w6 ⟨rfl, k6⟩
        have k6 : Kept Noneof w5 w6 := ⟨k6.os, k6.tape, k6.output, k6.size, k6.block⟩
        refine hK.out _ _ (k6.cell (fun h => h) e4) ?_
        have K6 := Lib.hid k6
        have G6 := Lib.hid (k6.obj (fun h => h) G15.out)
        clear K hK k6
        (try simp only [Act.put, List.setIfInBounds_toArray, List.set_cons_zero, List.set_cons_succ])
        iterate 5 (refine SeqY.val (v := ?_) (by rfl) (by rfl) (fun wx hSw => ?_) ?_; rotate_left; (focus ((try dsimp only at hSw); go_simp; (try with_reducible rfl))); (try simp only [Act.put, List.setIfInBounds_toArray, List.set_cons_zero, List.set_cons_succ]))
        refine SeqY.nil ?_
        have f5 : w6.cell? ⟨w4.heap.size, 5, none⟩ = some (.bool false) := by simp [World.cell?, G6.out]
        have ff : ∀ j, w6.frozen? ⟨w4.heap.size, j, none⟩ = false := fun j => by simp [World.frozen?, G6.out]
        clear e4 b1
        go_wp2_with fail
        go_meet
        have KF := (Kept.refl (fun b => b = w4.heap.size) w6).setCell (p := ⟨w4.heap.size, 5, none⟩) (.inl rfl) (.bool ((u.cut low true high bd).dg seed == (Tr.nd l k v r).dg seed))
        exact ⟨rfl, Lib.hid ((K5.out.tr K6.out).trans KF fun b h => .inr (by omega)), Lib.hid (by rw [HLN.out]; exact setCell_obj G6.out _)⟩
      · have b1 : (((u.cut low true high bd).size : Int) == (((Tr.nd l k v r).size : Nat) : Int)) = false := by rw [beq_eq_false_iff_ne]; omega
        have HLN := Lib.hid (show sameAt seed u (Tr.nd l k v r) low high bd = false by rw [HSM.out, beq_eq_false_iff_ne.2 hlen]; rfl)
        clear hlen
        refine wp_region_chain 14 [8] (fun w' => w'.cell? ⟨w4.heap.size, 4, none⟩ = some (.int .u64 ((Tr.nd l k v r).dg seed))) (by kernel_rfl) (by kernel_rfl) ?_ ?_
        · exact e4
        simp only [List.take_succ_cons, List.take_zero, List.drop_succ_cons, List.drop_zero]
        iterate 6 (refine SeqY.val (v := ?_) (by rfl) (by rfl) (fun wx hSw => ?_) ?_; rotate_left; (focus ((try dsimp only at hSw); go_simp; (try with_reducible rfl))); (try simp only [Act.put, List.setIfInBounds_toArray, List.set_cons_zero, List.set_cons_succ]))
        iterate 6 (refine SeqY.skip (by rfl) ?_; (try simp only [Act.put, List.setIfInBounds_toArray, List.set_cons_zero, List.set_cons_succ]))
        iterate 2 (refine SeqY.val (v := ?_) (by rfl) (by rfl) (fun wx hSw => ?_) ?_; rotate_left; (focus ((try dsimp only at hSw); go_simp; (try with_reducible rfl))); (try simp only [Act.put, List.setIfInBounds_toArray, List.set_cons_zero, List.set_cons_succ]))
        refine SeqY.nil ?_
        have G6 := Lib.hid (show w5.drew.heap[w4.heap.size]? = _ from G15.out)
        have K6 := Lib.hid (K5.out.drew)
        generalize w5.drew = w6 at *
        have f5 : w6.cell? ⟨w4.heap.size, 5, none⟩ = some (.bool false) := by simp [World.cell?, G6.out]
        have ff : ∀ j, w6.frozen? ⟨w4.heap.size, j, none⟩ = false := fun j => by simp [World.frozen?, G6.out]
        clear e4 b1
        go_wp2_with fail
        go_meet
        have KF := (Kept.refl (fun b => b = w4.heap.size) w6).setCell (p := ⟨w4.heap.size, 5, none⟩) (.inl rfl) (.bool false)
        exact ⟨rfl, Lib.hid (K6.out.trans KF fun b h => .inr (by omega)), Lib.hid (by rw [HLN.out]; exact setCell_obj G6.out _)⟩)
    case rest =>
      (
      obtain ⟨rfl, K5, G5⟩ := hcut
      have G12c := Lib.hid (K5.out.obj (fun h => h) G4.out)
      have K6 := Lib.hid (K4.out.tr K5.out)
      have H2c := Lib.hid (H2.out.still pairEl_k K6.out)
      have H3c := Lib.hid (H3.out.still byteEl_k K6.out)
      have H4c := Lib.hid (H4.out.still byteEl_k K6.out)
      have B15 := Lib.hid (show w.heap.size ≤ w4.heap.size from K4.out.size)
      have B12 := Lib.hid (block_lt G4.out)
      obtain ⟨m0, m1, m2, m3, m4, m5, m6, mf⟩ := msgObj_cells G5.out
      obtain ⟨q0, q1, qf⟩ := talkObj_cells G12c.out
      clear e4)
      cases hs : sameAt seed u (Tr.nd l k v r) low high bd
      · rw [hs] at m5 G5
        have RS := Lib.hid (show refT seed u (Tr.nd l k v r) low high bd = refT seed (refT seed (u.put seed k v) l low k true) r (k ++ [0]) high bd by
          rw [refT, hs, if_neg (by simp)])
        have TS := Lib.hid (show talkR seed u (Tr.nd l k v r) low high bd = ⟨low, high, bd, (Tr.nd l k v r).size, (Tr.nd l k v r).dg seed, false, [(k, v)]⟩ :: (talkR seed (u.put seed k v) l low k true ++ talkR seed (refT seed (u.put seed k v) l low k true) r (k ++ [0]) high bd) by rw [talkR, hs, if_neg (by simp)])
        clear hs
        have hlen : (Tr.nd l k v r).pairs.length = l.size + 1 + r.size := by rw [Tr.pairs_len]; simp only [Tr.size]; omega
        have hat : l.size < (Tr.nd l k v r).pairs.length := by omega
        have hne : (((Tr.nd l k v r).size : Int) == 0) = false := by rw [beq_eq_false_iff_ne]; simp only [Tr.size]; omega
        have S13 := Lib.hid (S13c.out.still pairEl_k K5.out)
        obtain ⟨a13', c13', e13, _, _, rd⟩ := id S13.out
        simp only [Value.slice.injEq] at e13
        obtain ⟨rfl, hee, rfl⟩ := e13
        clear hee
        obtain ⟨b0, o0, uk, uv, rfl, hDb, g0, g1, hkv, hvv⟩ := Rd.pair rd hat
        rw [Tr.pairs_at] at hkv hvv
        obtain ⟨ak, nk, ck, rfl⟩ := hkv.slice'
        obtain ⟨av, nv, cv, rfl⟩ := hvv.slice'
        have KV := Lib.hid hkv
        have VV := Lib.hid hvv
        have E0 := Lib.hid (Tr.top_pairs TG.out)
        have G0 := Lib.hid g0
        have G1 := Lib.hid g1
        have hls : (l.size : Int) < ((Tr.nd l k v r).size : Int) := by simp only [Tr.size]; omega
        have HSZ := Lib.hid (show u.size + (l.size + 1 + r.size) ≤ 100000 by have := HS.out; simp only [Tr.size] at this; omega)
        have PO := Lib.hid (Tr.parts_of TG.out HP.out)
        generalize hSZ : (Tr.nd l k v r).size = SZ at *
        generalize hDG : (Tr.nd l k v r).dg seed = DG at *
        clear rd hkv hvv g0 g1 hat hlen hSZ hDG
        go_wp2_with fail
        refine (r2Top_calls S13.out).mono ?_
        rintro e w6 ⟨rfl, d6⟩
        rw [E0.out]
        have kd := (Kept.refl Noneof wc).drewn d6
        have g0 := kd.cell (p := ⟨b0, o0 + l.size * 2, none⟩) (fun h => h) G0.out
        have g1 := kd.cell (p := ⟨b0, o0 + l.size * 2 + 1, none⟩) (fun h => h) G1.out
        clear m0 m1 m2 m3 m4 m5 m6 mf q0 q1 qf hne
        go_upto_region 10 with (fail)
        have G16 := heap_alloc_new w6 (pairObj (.slice ak nk ck) (.slice av nv cv))
        have k7 := (Kept.refl Noneof w6).alloc (pairObj (.slice ak nk ck) (.slice av nv cv))
        unfold pairObj at G16 k7
        have s7 : w6.heap.size < (w6.alloc (.cells #[.slice ak nk ck, .slice av nv cv] 70)).heap.size := by simp
        generalize w6.alloc (.cells #[.slice ak nk ck, .slice av nv cv] 70) = w7 at *
        
        have k67 := kd.tr k7
        have G5b := Lib.hid (k67.obj (fun h => h) G5.out)
        have G12d := Lib.hid (k67.obj (fun h => h) G12c.out)
        have KV7 := Lib.hid (KV.out.still byteEl_k k67)
        have VV7 := Lib.hid (VV.out.still byteEl_k k67)
        have H1d := Lib.hid (H1.out.still pairEl_k (K6.out.tr k67))
        have H2d := Lib.hid (H2c.out.still pairEl_k k67)
        have H3d := Lib.hid (H3c.out.still byteEl_k k67)
        have H4d := Lib.hid (H4c.out.still byteEl_k k67)
        have K7 := Lib.hid (K6.out.tr k67)
        have S7 := Lib.hid s7
        have G16 := Lib.hid G16
        have B6 := Lib.hid (show w4.heap.size < w6.heap.size by rw [d6.heap]; exact block_lt G5.out)
        have c0 : w7.cell? ⟨w6.heap.size, 0, none⟩ = some (.slice ak nk ck) := by simp [World.cell?, G16.out]
        have c1 : w7.cell? ⟨w6.heap.size, 1, none⟩ = some (.slice av nv cv) := by simp [World.cell?, G16.out]
        have ma := fun o => msgObj_cells (((Kept.refl Noneof w7).alloc o).obj (fun h => h) G5b.out)
        have m6 := fun o => (ma o).2.2.2.2.2.2.1
        have mf := fun o => (ma o).2.2.2.2.2.2.2
        clear g0 g1 d6 kd k7 k67 s7 ma KV VV H2c H3c H4c G5 G12c K6 G0 G1 S13 S13c S14c
        have OL := Own.lit1 (E := pairEl) (e := 70) (D := Lt1 Q w.heap.size) (D' := Lt1 Q w.heap.size) (w := w7) (cs := [.slice ak nk ck, .slice av nv cv]) (y := (k, v)) ⟨_, _, rfl, KV7.out, VV7.out⟩ (fun b h _ => h)
        have KA := (Kept.refl Noneof w7).alloc (.cells #[.slice ak nk ck, .slice av nv cv] 70)
        have KT := (Kept.refl (fun b => b = w4.heap.size) (w7.alloc (.cells #[.slice ak nk ck, .slice av nv cv] 70))).setCell (p := ⟨w4.heap.size, 6, none⟩) (.inl rfl) (.slice (some ⟨w7.heap.size, 0, none⟩) 1 1)
        have G5c := setCell_obj (KA.obj (fun h => h) G5b.out) (.slice (some ⟨w7.heap.size, 0, none⟩) 1 1) (j := 6)
        go_upto_region 11 with (fail)
        generalize (w7.alloc (.cells #[.slice ak nk ck, .slice av nv cv] 70)).setCell ⟨w4.heap.size, 6, none⟩ (.slice (some ⟨w7.heap.size, 0, none⟩) 1 1) = w8 at *
        have hb4 := B15.out
        have hb6 := B6.out
        have hs7 := S7.out
        have K78 := Lib.hid ((KA.mono fun _ h => h.elim).tr KT)
        have hb12 := B12.out
        have nw : ∀ b, Lt1 Q w.heap.size b → ¬ b = w4.heap.size := fun b h e => by have := h.2; omega
        have K8 := Lib.hid (K7.out.trans K78.out fun b e => .inr (by subst e; exact hb4))
        have H1e := Lib.hid (H1d.out.kept pairEl_k K78.out fun b h _ => nw b h)
        have H2e := Lib.hid (H2d.out.kept pairEl_k K78.out fun b h _ => nw b h)
        have H3e := Lib.hid (H3d.out.kept byteEl_k K78.out fun b h _ => nw b h)
        have H4e := Lib.hid (H4d.out.kept byteEl_k K78.out fun b h _ => nw b h)
        have KV8 := Lib.hid (KV7.out.kept byteEl_k K78.out fun b h _ => nw b h)
        have VV8 := Lib.hid (VV7.out.kept byteEl_k K78.out fun b h _ => nw b h)
        have G12e := Lib.hid (K78.out.obj (p := w.heap.size) (fun e => by omega) G12d.out)
        have G16e := Lib.hid (K78.out.obj (p := w6.heap.size) (fun e => by omega) G16.out)
        have G5e := Lib.hid (show w8.heap[w4.heap.size]? = some (msgObj (.slice al nl cl) (.slice ah nh ch) bd (SZ : Int) DG false (.slice (some ⟨w7.heap.size, 0, none⟩) 1 1)) from G5c)
        have PR8 := Lib.hid (OL.sv.kept pairEl_k KT fun b h _ e => h.elim (fun h => nw b h e) fun h => by omega)
        have S8 := Lib.hid (show w7.heap.size < w8.heap.size by have := KT.size; simp at this; omega)
        clear OL KA KT G5c nw H1d H2d H3d H4d KV7 VV7 G12d G16 G5b m6 mf c0 c1 K7
        have c0 : w8.cell? ⟨w6.heap.size, 0, none⟩ = some (.slice ak nk ck) := by simp [World.cell?, G16e.out]
        have c1 : w8.cell? ⟨w6.heap.size, 1, none⟩ = some (.slice av nv cv) := by simp [World.cell?, G16e.out]
        go_wp2_with fail
        refine (r2Put_calls H2e.out KV8.out VV8.out (by rw [Tr.pairs_len]; have := HS.out; omega)).mono ?_
        rintro e w9 ⟨v9, rfl, o9, k9⟩
        have S9 := Lib.hid (show SV pairEl (Not1 Q w.heap.size) w9 v9 (u.put seed k v).pairs by
          rw [(Tr.put_good UG.out).2, ← putK_ins]
          exact o9.sv.wide pairEl_k fun b h _ => (h.elim id .inr).elim (fun h => h.not1) fun h => HQ.out b (by have := S8.out; omega))
        obtain ⟨a9, n9, c9, rfl⟩ := o9.slice'
        have K9 := Lib.hid (K8.out.tr k9)
        have H1f := Lib.hid (H1e.out.still pairEl_k k9)
        have H3f := Lib.hid (H3e.out.still byteEl_k k9)
        have H4f := Lib.hid (H4e.out.still byteEl_k k9)
        have KV9 := Lib.hid (KV8.out.still byteEl_k k9)
        have PR9 := Lib.hid (PR8.out.still pairEl_k k9)
        have G12f := Lib.hid (k9.obj (fun h => h) G12e.out)
        have G16f := Lib.hid (k9.obj (fun h => h) G16e.out)
        have G5f := Lib.hid (k9.obj (fun h => h) G5e.out)
        have S9s := Lib.hid (Nat.lt_of_lt_of_le S8.out k9.size)
        clear o9 k9 c0 c1 H1e H2e H3e H4e KV8 VV8 PR8 G12e G16e G5e K8 K78
        have hkl := TOK.out.2.1
        have HKL := Lib.hid hkl
        have ca : ∀ o, (w9.alloc o).cell? ⟨w6.heap.size, 0, none⟩ = some (.slice ak nk ck) := fun o => by
          have := ((Kept.refl Noneof w9).alloc o).obj (fun h => h) G16f.out
          simp [World.cell?, this]
        have k9a := fun o => (Kept.refl Noneof w9).alloc o
        clear hkl
        go_wp2_with (at_builtin; refine wl_app_bytes rfl (.tmp 86) (.tmp 88) _ rfl tBytes _ [] rfl (Own.lit0 5 byteEl Noneof w9) _ k rfl (KV9.out.still byteEl_k (k9a _)) (by have := HKL.out; simp; omega) (by simp) ?_)
        intro v10 w10 o10 e10 _
        have K10 := Lib.hid ((k9a _).trans e10 fun b h => .inr ((Own.lit0 5 byteEl Noneof w9).lt b h).1)
        have O10 := Lib.hid o10
        obtain ⟨a10, n10, c10, rfl⟩ := o10.slice'
        have hl10 := O10.out.lt
        have L10 := Lib.hid hl10
        have hw10 := K10.out.size
        clear o10 e10 ca k9a hl10
        go_wp2_with (at_builtin; refine wl_app_one (E := byteEl) (D := Noneof) (D' := Noneof) rfl (.tmp 89) (.tmp 90) _ rfl tBytes _ _ rfl (O10.out.alloc _) w10.heap.size [.int .u8 0] 0 rfl ⟨_, _, heap_alloc_new _ _⟩ rfl (fun _ h => h.elim) (by have := HKL.out; simp; omega) (by decide) (by simp; omega) ?_)
        intro v11 w11 o11 e11 _
        have K11 := Lib.hid ((K10.out.alloc _).trans e11 fun b h => .inr (L10.out b h).1)
        have S17 := Lib.hid (show BV (Not1 Q w.heap.size) w11 v11 (k ++ [0]) from o11.sv.wide byteEl_k fun b h _ => h.elim (fun h => h.elim) fun h => HQ.out b (by have := S9s.out; omega))
        obtain ⟨a11, n11, c11, rfl⟩ := o11.slice'
        have K9b := Lib.hid (K9.out.tr K11.out)
        have H1g := Lib.hid ((H1f.out.still pairEl_k K11.out).wide (D' := Not1 Q w.heap.size) pairEl_k fun b h _ => h.not1)
        have H3g := Lib.hid (H3f.out.still byteEl_k K11.out)
        have H4g := Lib.hid (H4f.out.still byteEl_k K11.out)
        have KVg := Lib.hid (KV9.out.still byteEl_k K11.out)
        have PRg := Lib.hid (PR9.out.still pairEl_k K11.out)
        have S9g := Lib.hid (S9.out.still pairEl_k K11.out)
        have G12g := Lib.hid (K11.out.obj (fun h => h) G12f.out)
        have G16g := Lib.hid (K11.out.obj (fun h => h) G16f.out)
        have G5g := Lib.hid (K11.out.obj (fun h => h) G5f.out)
        have S11 := Lib.hid (Nat.lt_of_lt_of_le S9s.out K11.out.size)
        have c0 : w11.cell? ⟨w6.heap.size, 0, none⟩ = some (.slice ak nk ck) := by simp [World.cell?, G16g.out]
        clear o11 e11 O10 L10 hw10 K10 K11 K9 H1f H3f H4f KV9 PR9 S9 G12f G16f G5f S9s
        have PG := Lib.hid (Tr.put_good (key := k) (val := v) UG.out)
        have PK := Lib.hid (Tr.put_ok (seed := seed) (key := k) (val := v) HKL.out UOK.out)
        have PS := Lib.hid (Tr.put_size seed k v u)
        go_wp2_with fail
        refine (IL.out (u.put seed k v) low k true _ _ _ _ w11 TG.out.1 TOK.out.1 PG.out.1 PK.out (by have := PS.out; have := HSZ.out; omega) PO.out.2.1 (Not1 Q w.heap.size) (fun b hb => HQ.out b (by have := S11.out; omega)) H1g.out S9g.out (H3g.out.wide byteEl_k fun b h _ => h.not1) (KVg.out.wide byteEl_k fun b h _ => h.not1)).mono ?_
        rintro e w12 ⟨vm1, vt1, rfl, sm1, st1, k12⟩
        obtain ⟨x1, y1, z1, rfl⟩ := sm1.slice'
        obtain ⟨x2, y2, z2, rfl⟩ := st1.slice'
        have SM1 := Lib.hid sm1
        have ST1 := Lib.hid st1
        have K12 := Lib.hid k12
        clear sm1 st1 k12 c0
        have G12h := K12.out.obj (fun h => h) G12g.out
        have G5h := K12.out.obj (fun h => h) G5g.out
        have PRh := PRg.out.still pairEl_k K12.out
        go_upto_region 14 with (fail)
        have G18 := heap_alloc_new w12 (talkObj (.slice x1 y1 z1) (.slice x2 y2 z2))
        have k13 := (Kept.refl Noneof w12).alloc (talkObj (.slice x1 y1 z1) (.slice x2 y2 z2))
        have s13 : w12.heap.size < (w12.alloc (talkObj (.slice x1 y1 z1) (.slice x2 y2 z2))).heap.size := by simp
        unfold talkObj at G18 k13 s13
        generalize w12.alloc (.cells #[.slice x1 y1 z1, .slice x2 y2 z2] 90) = w13 at *
        have KA13 := K12.out.tr k13
        have K13 := Lib.hid (K9b.out.tr KA13)
        have H1h := Lib.hid (H1g.out.still pairEl_k KA13)
        have H3h := Lib.hid (H3g.out.still byteEl_k KA13)
        have H4h := Lib.hid (H4g.out.still byteEl_k KA13)
        have S17h := Lib.hid (S17.out.still byteEl_k KA13)
        have PRh := Lib.hid (PRh.still pairEl_k k13)
        have SM13 := Lib.hid (SM1.out.still msgEl_k k13)
        have ST13 := Lib.hid (ST1.out.still pairEl_k k13)
        have G12h := Lib.hid (k13.obj (fun h => h) G12h)
        have G5h := Lib.hid (k13.obj (fun h => h) G5h)
        have G18 := Lib.hid G18
        have S13 := Lib.hid (show w7.heap.size < w12.heap.size ∧ w12.heap.size < w13.heap.size by have := S11.out; have := K12.out.size; omega)
        have c1 : w13.cell? ⟨w12.heap.size, 1, none⟩ = some (.slice x2 y2 z2) := by simp [World.cell?, G18.out]
        have RG := Lib.hid (refT_good (t := l) (low := low) (high := k) (bd := true) PG.out.1)
        have RK := Lib.hid (refT_ok seed (low := low) (high := k) (bd := true) TOK.out.1 PK.out)
        have RZ := Lib.hid (refT_size seed l (u.put seed k v) low k true)
        clear KA13 k13 s13 H1g H3g H4g S17 PRg SM1 ST1 G12g G5g G16g KVg S9g K9b
        go_wp2_with fail
        refine (IR.out (refT seed (u.put seed k v) l low k true) (k ++ [0]) high bd _ _ _ _ w13 TG.out.2.1 TOK.out.2.2 RG.out RK.out (by have := RZ.out; have := PS.out; have := HSZ.out; omega) PO.out.2.2 (Not1 Q w.heap.size) (fun b hb => HQ.out b (by have := S13.out; omega)) H1h.out ST13.out S17h.out (H4h.out.wide byteEl_k fun b h _ => h.not1)).mono ?_
        rintro e w14 ⟨vm2, vt2, rfl, sm2, st2, k14⟩
        obtain ⟨x3, y3, z3, rfl⟩ := sm2.slice'
        obtain ⟨x4, y4, z4, rfl⟩ := st2.slice'
        have SM2 := Lib.hid sm2
        have ST2 := Lib.hid st2
        have K14 := Lib.hid k14
        clear sm2 st2 k14 c1
        go_upto_region 15 with (fail)
        have G19 := heap_alloc_new w14 (talkObj (.slice x3 y3 z3) (.slice x4 y4 z4))
        have k15 := (Kept.refl Noneof w14).alloc (talkObj (.slice x3 y3 z3) (.slice x4 y4 z4))
        have s15 : w14.heap.size < (w14.alloc (talkObj (.slice x3 y3 z3) (.slice x4 y4 z4))).heap.size := by simp
        unfold talkObj at G19 k15 s15
        generalize w14.alloc (.cells #[.slice x3 y3 z3, .slice x4 y4 z4] 90) = w15 at *
        have KA15 := K14.out.tr k15
        have K15 := Lib.hid (K13.out.tr KA15)
        have H3i := Lib.hid (H3h.out.still byteEl_k KA15)
        have H4i := Lib.hid (H4h.out.still byteEl_k KA15)
        have PRi := Lib.hid (PRh.out.still pairEl_k KA15)
        have SMa := Lib.hid ((SM13.out.still msgEl_k KA15).bd msgEl_k)
        have SMb := Lib.hid ((SM2.out.still msgEl_k k15).bd msgEl_k)
        have STb := Lib.hid ((ST2.out.still pairEl_k k15).bd pairEl_k)
        have G12i := Lib.hid (KA15.obj (fun h => h) G12h.out)
        have G5i := Lib.hid (KA15.obj (fun h => h) G5h.out)
        have G18i := Lib.hid (KA15.obj (fun h => h) G18.out)
        have G19 := Lib.hid G19
        have S15 := Lib.hid (show w12.heap.size < w14.heap.size ∧ w14.heap.size < w15.heap.size by have := S13.out; have := K14.out.size; omega)
        clear KA15 k15 s15 H1h H3h H4h S17h PRh SM13 ST13 SM2 ST2 G12h G5h G18 K13
        obtain ⟨m0, m1, m2, m3, m4, m5, m6, mf⟩ := msgObj_cells G5i.out
        have hb12 := B12.out
        have s15 := S15.out
        have s13 := S13.out
        have OL := Own.lit1 (E := msgEl) (e := 97) (D := Not1 Q w.heap.size) (D' := Not1 Q w.heap.size) (w := w15) (cs := [.slice al nl cl, .slice ah nh ch, .bool bd, .int .i64 (SZ : Int), .int .u64 DG, .bool false, .slice (some ⟨w7.heap.size, 0, none⟩) 1 1]) (y := ⟨low, high, bd, SZ, DG, false, [(k, v)]⟩) ⟨_, _, _, rfl, H3i.out.wide byteEl_k fun b h _ => h.not1, H4i.out.wide byteEl_k fun b h _ => h.not1, PRi.out.wide pairEl_k fun b h _ => h.elim (fun h => h.not1) fun h => HQ.out b (by omega)⟩ (fun b h _ => h)
        have KA := (Kept.refl Noneof w15).alloc (.cells #[.slice al nl cl, .slice ah nh ch, .bool bd, .int .i64 (SZ : Int), .int .u64 DG, .bool false, .slice (some ⟨w7.heap.size, 0, none⟩) 1 1] 97)
        have sA : w15.heap.size < (w15.alloc (.cells #[.slice al nl cl, .slice ah nh ch, .bool bd, .int .i64 (SZ : Int), .int .u64 DG, .bool false, .slice (some ⟨w7.heap.size, 0, none⟩) 1 1] 97)).heap.size := by simp
        go_upto_region 16 with (fail)
        generalize w15.alloc (.cells #[.slice al nl cl, .slice ah nh ch, .bool bd, .int .i64 (SZ : Int), .int .u64 DG, .bool false, .slice (some ⟨w7.heap.size, 0, none⟩) 1 1] 97) = w16 at *
        have OL := Lib.hid OL
        have K16 := Lib.hid (K15.out.tr KA)
        have SMa2 := Lib.hid (SMa.out.still msgEl_k KA)
        have SMb2 := Lib.hid (SMb.out.still msgEl_k KA)
        have STb2 := Lib.hid (STb.out.still pairEl_k KA)
        have G12j := Lib.hid (KA.obj (fun h => h) G12i.out)
        have G18j := Lib.hid (KA.obj (fun h => h) G18i.out)
        have G19j := Lib.hid (KA.obj (fun h => h) G19.out)
        have S16 := Lib.hid sA
        have TL1 := Lib.hid (talkR_len seed l (u.put seed k v) low k true)
        have TL2 := Lib.hid (talkR_len seed r (refT seed (u.put seed k v) l low k true) (k ++ [0]) high bd)
        have LS := Lib.hid (show l.size ≤ 100000 ∧ r.size ≤ 100000 by have := HSZ.out; omega)
        clear KA sA SMa SMb STb G12i G18i G19 G5i m0 m1 m2 m3 m4 m5 m6 mf H3i H4i PRi K15
        have c0 : w16.cell? ⟨w12.heap.size, 0, none⟩ = some (.slice x1 y1 z1) := by simp [World.cell?, G18j.out]
        generalize hT1 : talkR seed (u.put seed k v) l low k true = T1 at *
        generalize hT2 : talkR seed (refT seed (u.put seed k v) l low k true) r (k ++ [0]) high bd = T2 at *
        clear hT1 hT2 s13 s15 hb12
        go_wp2_with (at_builtin; refine wl_app_list (E := msgEl) rfl (.tmp 109) (.tmp 111) _ rfl tMsgs (.slice (some ⟨w15.heap.size, 0, none⟩) 1 1) _ rfl OL.out _ _ rfl SMa2.out ?c3 ?c4 ?c5 ?c6 ?_)
        case c3 => exact fun b hb _ => ⟨hb.1, fun h => by simp only [Value.ownBlock, Option.some.injEq] at h; have := hb.2; omega⟩
        case c4 => have := TL1.out; have := LS.out; simp only [List.length_singleton]; omega
        case c5 => decide
        case c6 => have := S16.out; omega
        intro v17 w17 o17 e17 h17
        have e17 : Kept (fun b => b = w15.heap.size) w16 w17 := e17.mono fun b h => by simp only [Value.ownBlock, Option.some.injEq] at h; exact h.symm
        have h17 : ∀ b, v17.ownBlock = some b → b = w15.heap.size ∨ w16.heap.size ≤ b := fun b hb => (h17 b hb).imp (fun h => by simp only [Value.ownBlock, Option.some.injEq] at h; exact h.symm) id
        have O17 := Lib.hid o17
        have H17 := Lib.hid h17
        obtain ⟨x5, y5, z5, rfl⟩ := o17.slice'
        have s16 := S16.out
        have s15 := S15.out
        have hb12 := B12.out
        have hs12 := K5.out.size
        have s13 := S13.out
        have K17 := Lib.hid (K16.out.trans e17 fun b e => .inr (by subst e; omega))
        have SMb3 := Lib.hid (SMb2.out.kept msgEl_k e17 fun b hb _ e => by have := hb.2; omega)
        have STb3 := Lib.hid (STb2.out.kept pairEl_k e17 fun b hb _ e => by have := hb.2; omega)
        have G12k := Lib.hid (e17.obj (p := w.heap.size) (fun e => by omega) G12j.out)
        have G19k := Lib.hid (e17.obj (p := w14.heap.size) (fun e => by omega) G19j.out)
        have S17 := Lib.hid (show w16.heap.size ≤ w17.heap.size from e17.size)
        clear o17 e17 h17 c0 G18j G12j G19j SMb2 STb2 OL SMa2 K16 s16 s15 hb12 hs12 s13
        have c0 : w17.cell? ⟨w14.heap.size, 0, none⟩ = some (.slice x3 y3 z3) := by simp [World.cell?, G19k.out]
        go_wp2_with (at_builtin; refine wl_app_list (E := msgEl) rfl (.tmp 113) (.tmp 115) _ rfl tMsgs (.slice x5 y5 z5) _ rfl O17.out _ _ rfl SMb3.out ?c3 ?c4 ?c5 ?c6 ?_)
        case c3 => exact fun b hb _ => ⟨hb.1, fun h => by have := H17.out b h; have := hb.2; have := S16.out; omega⟩
        case c4 => have := TL1.out; have := TL2.out; have := LS.out; simp only [List.length_append, List.length_cons, List.length_nil]; omega
        case c5 => decide
        case c6 => have := S16.out; have := S17.out; omega
        intro v18 w18 o18 e18 h18
        have s16 := S16.out
        have s15 := S15.out
        have hb12 := B12.out
        have hs12 := K5.out.size
        have s13 := S13.out
        have e18 : Kept (fun b => b = w15.heap.size ∨ w16.heap.size ≤ b) w17 w18 := e18.mono fun b h => H17.out b h
        have M18 := Lib.hid (o18.sv.wide (D' := Not1 Q w.heap.size) msgEl_k fun b h _ => h.elim id fun h => HQ.out b (by omega))
        obtain ⟨x6, y6, z6, rfl⟩ := o18.slice'
        have K18 := Lib.hid (K17.out.trans e18 fun b e => .inr (by omega))
        have STb4 := Lib.hid (STb3.out.kept pairEl_k e18 fun b hb _ e => by have := hb.2; omega)
        have G12l := Lib.hid (e18.obj (p := w.heap.size) (fun e => by omega) G12k.out)
        have G19l := Lib.hid (e18.obj (p := w14.heap.size) (fun e => by omega) G19k.out)
        clear o18 e18 h18 c0 G12k G19k SMb3 STb3 K17 s16 s15 hb12 hs12 s13
        have c1 : w18.cell? ⟨w14.heap.size, 1, none⟩ = some (.slice x4 y4 z4) := by simp [World.cell?, G19l.out]
        obtain ⟨q0, q1, qf⟩ := talkObj_cells G12l.out
        go_wp2_with fail
        have KT := ((Kept.refl (fun b => b = w.heap.size) w18).setCell (p := ⟨w.heap.size, 0, none⟩) (.inl rfl) (.slice x6 y6 z6)).setCell (p := ⟨w.heap.size, 1, none⟩) (.inl rfl) (.slice x4 y4 z4)
        have GF := setCell_obj (setCell_obj G12l.out (.slice x6 y6 z6) (j := 0)) (.slice x4 y4 z4) (j := 1)
        refine bodyPost_ret (results_cell_row rfl _ _ w.heap.size _ #[_, _] (0, 0) _ rfl GF Try.underlying90 rfl (by kernel_rfl)) rfl ?_
        refine ⟨_, _, rfl, ?_, ?_, ?_⟩
        · rw [TS.out]
          exact (M18.out.kept msgEl_k KT (fun b hb _ e => hb.2 e)).wide msgEl_k fun b h _ => h.1
        · rw [RS.out]
          exact (STb4.out.kept pairEl_k KT (fun b hb _ e => hb.1.2 e)).wide pairEl_k fun b h _ => h.1.1
        · exact K18.out.trans KT fun b e => .inr (by omega)
      · rw [hs] at m5
        have RS := Lib.hid (show refT seed u (Tr.nd l k v r) low high bd = u by rw [refT, if_pos hs])
        have TS := Lib.hid (show talkR seed u (Tr.nd l k v r) low high bd = [⟨low, high, bd, (Tr.nd l k v r).size, (Tr.nd l k v r).dg seed, true, []⟩] by rw [talkR, if_pos hs])
        clear hs
        have qa := fun o => talkObj_cells (((Kept.refl Noneof wc).alloc o).obj (fun h => h) G12c.out)
        have q0a := fun o => (qa o).1
        have q1a := fun o => (qa o).2.1
        have qfa := fun o => (qa o).2.2
        clear q0 q1 qf qa
        go_wp2_with fail
        (
        have KA := (Kept.refl Noneof wc).alloc (.cells #[.slice al nl cl, .slice ah nh ch, .bool bd, .int .i64 (((Tr.nd l k v r).size : Nat) : Int), .int .u64 ((Tr.nd l k v r).dg seed), .bool true, .slice none 0 0] 97)
        have OL := Own.lit1 (E := msgEl) (e := 97) (D := Not1 Q w.heap.size) (D' := Lt1 Q w.heap.size) (w := wc) (cs := [.slice al nl cl, .slice ah nh ch, .bool bd, .int .i64 (((Tr.nd l k v r).size : Nat) : Int), .int .u64 ((Tr.nd l k v r).dg seed), .bool true, .slice none 0 0]) (y := ⟨low, high, bd, (Tr.nd l k v r).size, (Tr.nd l k v r).dg seed, true, []⟩) ⟨_, _, _, rfl, H3c.out, H4c.out, SV.nil _ _⟩ (fun b h _ => h.not1)
        have GA := KA.obj (p := w.heap.size) (fun h => h) G12c.out
        generalize wc.alloc (.cells #[.slice al nl cl, .slice ah nh ch, .bool bd, .int .i64 (((Tr.nd l k v r).size : Nat) : Int), .int .u64 ((Tr.nd l k v r).dg seed), .bool true, .slice none 0 0] 97) = wd at *
        have KT := ((Kept.refl (fun b => b = w.heap.size) wd).setCell (p := ⟨w.heap.size, 0, none⟩) (.inl rfl) (.slice (some ⟨wc.heap.size, 0, none⟩) 1 1)).setCell (p := ⟨w.heap.size, 1, none⟩) (.inl rfl) (.slice at1 nt ct)
        have GF := setCell_obj (setCell_obj GA (.slice (some ⟨wc.heap.size, 0, none⟩) 1 1) (j := 0)) (.slice at1 nt ct) (j := 1)
        have hb12 := B12.out
        have hb15 := B15.out
        have hwc := K5.out.size
        refine bodyPost_ret (results_cell_row rfl _ _ w.heap.size _ #[_, _] (0, 0) _ rfl GF Try.underlying90 rfl (by kernel_rfl)) rfl ?_
        refine ⟨_, _, rfl, ?_, ?_, ?_⟩
        · rw [TS.out]
          exact ((OL.sv.wide (D' := Not1 Q w.heap.size) msgEl_k fun b h _ => h.elim id fun h => HQ.out b (by omega)).kept msgEl_k KT (fun b hb _ e => hb.2 e)).wide msgEl_k fun b h _ => h.1
        · rw [RS.out]
          exact ((H2c.out.still pairEl_k KA).kept pairEl_k KT (fun b hb _ e => by have := hb.2; omega)).wide pairEl_k fun b h _ => h.1
        · exact (K6.out.tr KA).trans KT fun b e => .inr (by omega))
end Go.Proofs.Ytaopjdjbpamhhaa
/- Proved: contracts of the reference 07's Mirror and SameMessages (of the same messages). Conditions: pairs and messages in memory. -/
namespace Go.Proofs.Ytaopjdjbpamhhaa
open Go Go.RowKit
set_option linter.unusedVariables false
set_option linter.unusedSimpArgs false

set_option maxRecDepth 100000 in
set_option maxHeartbeats 2000000 in
theorem r7Mirror_calls {seed : Int} {D1 D2 : Nat → Prop} {t u : Tr} {vf vt : Value} {w : World} (hg : t.good seed) (ok : t.ok) (ug : u.good seed) (uok : u.ok) (hs : u.size + t.size ≤ 100000) (h1 : SV pairEl D1 w vf t.pairs) (h2 : SV pairEl D2 w vt u.pairs) :
    Calls Try.prog 59 #[.int .u64 seed, vf, vt] w fun e w' => ∃ vm vt', e = .returned (.agg #[vm, vt']) ∧ SV msgEl Any w' vm (talk seed u t [] [] false) ∧ SV pairEl Any w' vt' (mirT seed u t).pairs ∧ Kept Noneof w w' := by
  have H1 := Lib.hid (h1.lt pairEl_k)
  have H2 := Lib.hid (h2.lt pairEl_k)
  have TG := Lib.hid hg
  have TOK := Lib.hid ok
  have UG := Lib.hid ug
  have UOK := Lib.hid uok
  have HS := Lib.hid hs
  obtain ⟨a1, n1, c1, rfl⟩ := h1.slice'
  obtain ⟨a2, n2, c2, rfl⟩ := h2.slice'
  clear h1 h2 hg ok ug uok hs
  go_enter Try.func59, Try.ntmps59
  go_wp2_with fail
  have G1 := heap_alloc_new w (.cells #[.slice none 0 0, .slice none 0 0] 90)
  have K1 := (Kept.refl Noneof w).alloc (.cells #[.slice none 0 0, .slice none 0 0] 90)
  have s1 : w.heap.size < (w.alloc (.cells #[.slice none 0 0, .slice none 0 0] 90)).heap.size := by simp
  generalize w.alloc (.cells #[.slice none 0 0, .slice none 0 0] 90) = w1 at *
  refine (r7span_calls (Tr.good_srt TG.out) (by rw [Tr.pairs_len]; have := HS.out; omega) t u [] [] false _ _ _ _ w1 TG.out TOK.out UG.out UOK.out HS.out (filter_all _).symm (fun b => b ≠ w.heap.size) (fun b hb => by omega) ((H1.out.still pairEl_k K1).wide pairEl_k fun b h _ => by omega) ((H2.out.still pairEl_k K1).wide pairEl_k fun b h _ => by omega) (BV.nil _ _) (BV.nil _ _)).mono ?_
  rintro e w2 ⟨vm, vt, rfl, sm, st, k2⟩
  rw [talkR_talk UG.out TG.out (inSpan_all t) UG.out fun _ _ => rfl] at sm
  rw [refT_mirT UG.out TG.out] at st
  obtain ⟨x1, y1, z1, rfl⟩ := sm.slice'
  obtain ⟨x2, y2, z2, rfl⟩ := st.slice'
  have SM := Lib.hid sm
  have ST := Lib.hid st
  have K2 := Lib.hid (K1.tr k2)
  have G2 := Lib.hid (show w2.heap[w.heap.size]? = some (talkObj (.slice none 0 0) (.slice none 0 0)) from k2.obj (fun h => h) G1)
  clear sm st k2 K1 G1 s1
  obtain ⟨q0, q1, qf⟩ := talkObj_cells G2.out
  go_wp2
  have KT := ((Kept.refl (fun b => b = w.heap.size) w2).setCell (p := ⟨w.heap.size, 0, none⟩) (.inl rfl) (.slice x1 y1 z1)).setCell (p := ⟨w.heap.size, 1, none⟩) (.inl rfl) (.slice x2 y2 z2)
  have GF := setCell_obj (setCell_obj G2.out (.slice x1 y1 z1) (j := 0)) (.slice x2 y2 z2) (j := 1)
  refine bodyPost_ret (results_cell_row rfl _ _ w.heap.size _ #[_, _] (0, 0) _ rfl GF Try.underlying90 rfl (by kernel_rfl)) rfl ?_
  exact ⟨_, _, rfl, (SM.out.kept msgEl_k KT fun b h _ e => h e).any msgEl_k, (ST.out.kept pairEl_k KT fun b h _ e => h e).any pairEl_k, K2.out.trans KT fun b e => .inr (by omega)⟩

theorem Rd.msg {D : Nat → Prop} {w : World} {a : Option Addr} {l : List Msg} (h : Rd msgEl D w a l) {i : Nat} (hi : i < l.length) : ∃ b o vl vh vp, a = some ⟨b, o, none⟩ ∧ D b ∧ w.cell? ⟨b, o + i * 7, none⟩ = some vl ∧ w.cell? ⟨b, o + i * 7 + 1, none⟩ = some vh ∧ w.cell? ⟨b, o + i * 7 + 2, none⟩ = some (.bool l[i].bd) ∧ w.cell? ⟨b, o + i * 7 + 3, none⟩ = some (.int .i64 l[i].size) ∧ w.cell? ⟨b, o + i * 7 + 4, none⟩ = some (.int .u64 l[i].dg) ∧ w.cell? ⟨b, o + i * 7 + 5, none⟩ = some (.bool l[i].same) ∧ w.cell? ⟨b, o + i * 7 + 6, none⟩ = some vp ∧ BV D w vl l[i].low ∧ BV D w vh l[i].high ∧ SV pairEl D w vp l[i].prs := by
  obtain ⟨b, o, cs, h1, h2, h4, vl, vh, vp, h5, h6, h7, h8⟩ := h i hi
  subst h5
  have e0 := h4 0 (by simp)
  have e1 := h4 1 (by simp)
  have e2 := h4 2 (by simp)
  have e3 := h4 3 (by simp)
  have e4 := h4 4 (by simp)
  have e5 := h4 5 (by simp)
  have e6 := h4 6 (by simp)
  have k : msgEl.k = 7 := rfl
  rw [k] at e0 e1 e2 e3 e4 e5 e6
  exact ⟨b, o, vl, vh, vp, h1, h2, by simpa using e0, by simpa [Nat.add_assoc] using e1, by simpa [Nat.add_assoc] using e2, by simpa [Nat.add_assoc] using e3, by simpa [Nat.add_assoc] using e4, by simpa [Nat.add_assoc] using e5, by simpa [Nat.add_assoc] using e6, h6, h7, h8⟩

set_option maxRecDepth 100000 in
set_option maxHeartbeats 4000000 in
theorem r7Same_calls {D1 D2 : Nat → Prop} {v1 v2 : Value} {l : List Msg} {w : World} (h1 : SV msgEl D1 w v1 l) (h2 : SV msgEl D2 w v2 l) :
    Calls Try.prog 76 #[v1, v2] w fun e w' => e = .returned (.bool true) ∧ Kept Noneof w w' := by
  have H1 := Lib.hid h1
  have H2 := Lib.hid h2
  obtain ⟨a1, c1, rfl, _⟩ := h1
  obtain ⟨a2, c2, rfl, _⟩ := h2
  go_enter Try.func76, Try.ntmps76
  go_wp2
  go_loopw [5] (fun i wr => ∃ n : Nat, n ≤ l.length ∧ i = .int .i64 n ∧ Hid (Kept Noneof w wr)) (fun i _ => l.length - (intOf i).toNat)
  case atStart => exact ⟨0, Nat.zero_le _, rfl, Lib.hid (Kept.refl _ _)⟩
  case round =>
    obtain ⟨n, hn, rfl, kw⟩ := hrel
    by_cases hl : n < l.length
    · obtain ⟨a1', c1', e1, _, _, rd1⟩ := H1.out.still msgEl_k kw.out
      obtain ⟨a2', c2', e2, _, _, rd2⟩ := H2.out.still msgEl_k kw.out
      simp only [Value.slice.injEq, true_and] at e1 e2
      obtain ⟨rfl, rfl⟩ := e1
      obtain ⟨rfl, rfl⟩ := e2
      obtain ⟨b1, o1, l1, k1, p1, rfl, _, x0, x1, x2, x3, x4, x5, x6, hl1, hk1, hp1⟩ := Rd.msg rd1 hl
      obtain ⟨b2, o2, l2, k2, p2, rfl, _, y0, y1, y2, y3, y4, y5, y6, hl2, hk2, hp2⟩ := Rd.msg rd2 hl
      have L1 := Lib.hid hl1
      have L2 := Lib.hid hl2
      have P1 := Lib.hid hk1
      have P2 := Lib.hid hk2
      have Q1 := Lib.hid hp1
      have Q2 := Lib.hid hp2
      obtain ⟨z1, z2, z3, rfl⟩ := hl1.slice'
      obtain ⟨z4, z5, z6, rfl⟩ := hl2.slice'
      obtain ⟨z7, z8, z9, rfl⟩ := hk1.slice'
      obtain ⟨s1, s2, s3, rfl⟩ := hk2.slice'
      obtain ⟨s4, s5, s6, rfl⟩ := hp1.slice'
      obtain ⟨s7, s8, s9, rfl⟩ := hp2.slice'
      clear hl1 hl2 hk1 hk2 hp1 hp2 rd1 rd2
      generalize hm : l[n] = m at *
      clear hm
      go_upto_region 6 with (fail)
      go_cut [6, 7] (fun q6 q7 wx => ∃ bx by' : Nat, q6 = bp bx ∧ q7 = bp by' ∧ Hid (wx.heap[bx]? = some (msgObj (.slice z1 z2 z3) (.slice z7 z8 z9) m.bd m.size m.dg m.same (.slice s4 s5 s6))) ∧ Hid (wx.heap[by']? = some (msgObj (.slice z4 z5 z6) (.slice s1 s2 s3) m.bd m.size m.dg m.same (.slice s7 s8 s9))) ∧ Hid (Kept Noneof wr wx))
      case first =>
        refine wp_region_chain2 11 8 [8, 9, 10] (fun w' => w'.cell? ⟨b1, o1 + n * 7, none⟩ = some (.slice z1 z2 z3) ∧ w'.cell? ⟨b1, o1 + n * 7 + 1, none⟩ = some (.slice z7 z8 z9) ∧ w'.cell? ⟨b1, o1 + n * 7 + 2, none⟩ = some (.bool m.bd) ∧ w'.cell? ⟨b1, o1 + n * 7 + 3, none⟩ = some (.int .i64 m.size) ∧ w'.cell? ⟨b1, o1 + n * 7 + 4, none⟩ = some (.int .u64 m.dg) ∧ w'.cell? ⟨b1, o1 + n * 7 + 5, none⟩ = some (.bool m.same) ∧ w'.cell? ⟨b1, o1 + n * 7 + 6, none⟩ = some (.slice s4 s5 s6) ∧ w'.cell? ⟨b2, o2 + n * 7, none⟩ = some (.slice z4 z5 z6) ∧ w'.cell? ⟨b2, o2 + n * 7 + 1, none⟩ = some (.slice s1 s2 s3) ∧ w'.cell? ⟨b2, o2 + n * 7 + 2, none⟩ = some (.bool m.bd) ∧ w'.cell? ⟨b2, o2 + n * 7 + 3, none⟩ = some (.int .i64 m.size) ∧ w'.cell? ⟨b2, o2 + n * 7 + 4, none⟩ = some (.int .u64 m.dg) ∧ w'.cell? ⟨b2, o2 + n * 7 + 5, none⟩ = some (.bool m.same) ∧ w'.cell? ⟨b2, o2 + n * 7 + 6, none⟩ = some (.slice s7 s8 s9)) (by kernel_rfl) (by kernel_rfl) ⟨x0, x1, x2, x3, x4, x5, x6, y0, y1, y2, y3, y4, y5, y6⟩ ?_ ?_
        all_goals simp only [List.take_succ_cons, List.take_zero, List.drop_succ_cons, List.drop_zero, num, swz]
        · (
        have k0 := (Kept.refl Noneof wr).drew
        have x0 := k0.cell (fun h => h) x0
        have x1 := k0.cell (fun h => h) x1
        have x2 := k0.cell (fun h => h) x2
        have x3 := k0.cell (fun h => h) x3
        have x4 := k0.cell (fun h => h) x4
        have x5 := k0.cell (fun h => h) x5
        have x6 := k0.cell (fun h => h) x6
        have y0 := k0.cell (fun h => h) y0
        have y1 := k0.cell (fun h => h) y1
        have y2 := k0.cell (fun h => h) y2
        have y3 := k0.cell (fun h => h) y3
        have y4 := k0.cell (fun h => h) y4
        have y5 := k0.cell (fun h => h) y5
        have y6 := k0.cell (fun h => h) y6
        generalize wr.drew = w0 at *
        iterate 8 (refine SeqZ.val (v := ?_) (by rfl) (by rfl) (fun wx hSw => ?_) ?_; rotate_left; (focus ((try dsimp only at hSw); go_simp; (try with_reducible rfl))); (try simp only [Act.put, List.setIfInBounds_toArray, List.set_cons_zero, List.set_cons_succ]))
        refine SeqZ.act (by rfl) rfl (by rfl) (by rfl) (fun K hK => ?_)
        go_simp
        have ka := (Kept.refl Noneof w0).alloc (msgObj (.slice none 0 0) (.slice none 0 0) false 0 0 false (.slice none 0 0))
        have ga := heap_alloc_new w0 (msgObj (.slice none 0 0) (.slice none 0 0) false 0 0 false (.slice none 0 0))
        refine hK.out _ _ ⟨ka.cell (fun h => h) x0, ka.cell (fun h => h) x1, ka.cell (fun h => h) x2, ka.cell (fun h => h) x3, ka.cell (fun h => h) x4, ka.cell (fun h => h) x5, ka.cell (fun h => h) x6, ka.cell (fun h => h) y0, ka.cell (fun h => h) y1, ka.cell (fun h => h) y2, ka.cell (fun h => h) y3, ka.cell (fun h => h) y4, ka.cell (fun h => h) y5, ka.cell (fun h => h) y6⟩ ?_
        have sa : (w0.alloc (msgObj (.slice none 0 0) (.slice none 0 0) false 0 0 false (.slice none 0 0))).heap.size = w0.heap.size + 1 := by simp
        unfold msgObj at ka ga sa
        generalize w0.alloc (.cells #[.slice none 0 0, .slice none 0 0, .bool false, .int .i64 0, .int .u64 0, .bool false, .slice none 0 0] 97) = wa at *
        clear K hK
        (try simp only [Act.put, List.setIfInBounds_toArray, List.set_cons_zero, List.set_cons_succ])
        refine SeqZ.act (by rfl) rfl (by rfl) (by rfl) (fun K hK => ?_)
        go_simp
        have kb := (Kept.refl Noneof wa).alloc (msgObj (.slice none 0 0) (.slice none 0 0) false 0 0 false (.slice none 0 0))
        have gb := heap_alloc_new wa (msgObj (.slice none 0 0) (.slice none 0 0) false 0 0 false (.slice none 0 0))
        have kc := ka.tr kb
        refine hK.out _ _ ⟨kc.cell (fun h => h) x0, kc.cell (fun h => h) x1, kc.cell (fun h => h) x2, kc.cell (fun h => h) x3, kc.cell (fun h => h) x4, kc.cell (fun h => h) x5, kc.cell (fun h => h) x6, kc.cell (fun h => h) y0, kc.cell (fun h => h) y1, kc.cell (fun h => h) y2, kc.cell (fun h => h) y3, kc.cell (fun h => h) y4, kc.cell (fun h => h) y5, kc.cell (fun h => h) y6⟩ ?_
        have ga := kb.obj (fun h => h) ga
        unfold msgObj at kb gb kc
        have gb : (wa.alloc (.cells #[.slice none 0 0, .slice none 0 0, .bool false, .int .i64 0, .int .u64 0, .bool false, .slice none 0 0] 97)).heap[w0.heap.size + 1]? = some (.cells #[.slice none 0 0, .slice none 0 0, .bool false, .int .i64 0, .int .u64 0, .bool false, .slice none 0 0] 97) := by rw [← sa]; exact gb
        generalize wa.alloc (.cells #[.slice none 0 0, .slice none 0 0, .bool false, .int .i64 0, .int .u64 0, .bool false, .slice none 0 0] 97) = wb at *
        clear K hK ka kb sa
        (try simp only [Act.put, List.setIfInBounds_toArray, List.set_cons_zero, List.set_cons_succ])
        have KC := Lib.hid kc
        have GA := Lib.hid (show wb.heap[w0.heap.size]? = some (msgObj (.slice none 0 0) (.slice none 0 0) false 0 0 false (.slice none 0 0)) from ga)
        have GB := Lib.hid (show wb.heap[w0.heap.size + 1]? = some (msgObj (.slice none 0 0) (.slice none 0 0) false 0 0 false (.slice none 0 0)) from gb)
        clear ga gb kc
        obtain ⟨p0, p1', p2, p3, p4, p5, p6, pf⟩ := msgObj_cells GA.out
        refine SeqZ.act0 (by rfl) rfl (by rfl) (fun K hK => ?_)
        go_simp
        have ks := (((((((Kept.refl (fun b => b = (w0.heap.size)) wb).setCell (p := ⟨(w0.heap.size), 0, none⟩) (.inl rfl) (.slice z1 z2 z3)).setCell (p := ⟨(w0.heap.size), 1, none⟩) (.inl rfl) (.slice z7 z8 z9)).setCell (p := ⟨(w0.heap.size), 2, none⟩) (.inl rfl) (.bool m.bd)).setCell (p := ⟨(w0.heap.size), 3, none⟩) (.inl rfl) (.int .i64 m.size)).setCell (p := ⟨(w0.heap.size), 4, none⟩) (.inl rfl) (.int .u64 m.dg)).setCell (p := ⟨(w0.heap.size), 5, none⟩) (.inl rfl) (.bool m.same)).setCell (p := ⟨(w0.heap.size), 6, none⟩) (.inl rfl) (.slice s4 s5 s6)
        have gs := setCell_obj (setCell_obj (setCell_obj (setCell_obj (setCell_obj (setCell_obj (setCell_obj GA.out (.slice z1 z2 z3) (j := 0)) (.slice z7 z8 z9) (j := 1)) (.bool m.bd) (j := 2)) (.int .i64 m.size) (j := 3)) (.int .u64 m.dg) (j := 4)) (.bool m.same) (j := 5)) (.slice s4 s5 s6) (j := 6)
        have kd := KC.out.trans ks (fun b e => .inr (by subst e; omega))
        refine hK.out _ ⟨kd.cell (fun h => h) x0, kd.cell (fun h => h) x1, kd.cell (fun h => h) x2, kd.cell (fun h => h) x3, kd.cell (fun h => h) x4, kd.cell (fun h => h) x5, kd.cell (fun h => h) x6, kd.cell (fun h => h) y0, kd.cell (fun h => h) y1, kd.cell (fun h => h) y2, kd.cell (fun h => h) y3, kd.cell (fun h => h) y4, kd.cell (fun h => h) y5, kd.cell (fun h => h) y6⟩ ?_
        have gy := ks.obj (p := (w0.heap.size + 1)) (fun e => by omega) GB.out
        generalize ((((((wb.setCell ⟨(w0.heap.size), 0, none⟩ (.slice z1 z2 z3)).setCell ⟨(w0.heap.size), 1, none⟩ (.slice z7 z8 z9)).setCell ⟨(w0.heap.size), 2, none⟩ (.bool m.bd)).setCell ⟨(w0.heap.size), 3, none⟩ (.int .i64 m.size)).setCell ⟨(w0.heap.size), 4, none⟩ (.int .u64 m.dg)).setCell ⟨(w0.heap.size), 5, none⟩ (.bool m.same)).setCell ⟨(w0.heap.size), 6, none⟩ (.slice s4 s5 s6) = wd at *
        clear K hK p0 p1' p2 p3 p4 p5 p6 pf
        have GX := Lib.hid (show wd.heap[(w0.heap.size)]? = some (msgObj (.slice z1 z2 z3) (.slice z7 z8 z9) m.bd m.size m.dg m.same (.slice s4 s5 s6)) from gs)
        have GY := Lib.hid gy
        have KD := Lib.hid kd
        clear gs gy kd ks GA GB KC
        refine SeqZ.nil ?_
        obtain ⟨p0, p1', p2, p3, p4, p5, p6, pf⟩ := msgObj_cells GY.out
        clear x0 x1 x2 x3 x4 x5 x6 y0 y1 y2 y3 y4 y5 y6
        go_wp2_with fail
        go_meet
        have ks := (((((((Kept.refl (fun b => b = (w0.heap.size + 1)) wd).setCell (p := ⟨(w0.heap.size + 1), 0, none⟩) (.inl rfl) (.slice z4 z5 z6)).setCell (p := ⟨(w0.heap.size + 1), 1, none⟩) (.inl rfl) (.slice s1 s2 s3)).setCell (p := ⟨(w0.heap.size + 1), 2, none⟩) (.inl rfl) (.bool m.bd)).setCell (p := ⟨(w0.heap.size + 1), 3, none⟩) (.inl rfl) (.int .i64 m.size)).setCell (p := ⟨(w0.heap.size + 1), 4, none⟩) (.inl rfl) (.int .u64 m.dg)).setCell (p := ⟨(w0.heap.size + 1), 5, none⟩) (.inl rfl) (.bool m.same)).setCell (p := ⟨(w0.heap.size + 1), 6, none⟩) (.inl rfl) (.slice s7 s8 s9)
        have gs := setCell_obj (setCell_obj (setCell_obj (setCell_obj (setCell_obj (setCell_obj (setCell_obj GY.out (.slice z4 z5 z6) (j := 0)) (.slice s1 s2 s3) (j := 1)) (.bool m.bd) (j := 2)) (.int .i64 m.size) (j := 3)) (.int .u64 m.dg) (j := 4)) (.bool m.same) (j := 5)) (.slice s7 s8 s9) (j := 6)
        exact ⟨(w0.heap.size), (w0.heap.size + 1), rfl, rfl, Lib.hid (ks.obj (p := (w0.heap.size)) (fun e => by omega) GX.out), Lib.hid gs, Lib.hid ((k0.tr KD.out).trans ks fun b e => .inr (by subst e; have := k0.size; omega))⟩)
        · (
        have k0 := (Kept.refl Noneof wr).drew
        have x0 := k0.cell (fun h => h) x0
        have x1 := k0.cell (fun h => h) x1
        have x2 := k0.cell (fun h => h) x2
        have x3 := k0.cell (fun h => h) x3
        have x4 := k0.cell (fun h => h) x4
        have x5 := k0.cell (fun h => h) x5
        have x6 := k0.cell (fun h => h) x6
        have y0 := k0.cell (fun h => h) y0
        have y1 := k0.cell (fun h => h) y1
        have y2 := k0.cell (fun h => h) y2
        have y3 := k0.cell (fun h => h) y3
        have y4 := k0.cell (fun h => h) y4
        have y5 := k0.cell (fun h => h) y5
        have y6 := k0.cell (fun h => h) y6
        generalize wr.drew = w0 at *
        iterate 8 (refine SeqZ.val (v := ?_) (by rfl) (by rfl) (fun wx hSw => ?_) ?_; rotate_left; (focus ((try dsimp only at hSw); go_simp; (try with_reducible rfl))); (try simp only [Act.put, List.setIfInBounds_toArray, List.set_cons_zero, List.set_cons_succ]))
        refine SeqZ.act (by rfl) rfl (by rfl) (by rfl) (fun K hK => ?_)
        go_simp
        have ka := (Kept.refl Noneof w0).alloc (msgObj (.slice none 0 0) (.slice none 0 0) false 0 0 false (.slice none 0 0))
        have ga := heap_alloc_new w0 (msgObj (.slice none 0 0) (.slice none 0 0) false 0 0 false (.slice none 0 0))
        refine hK.out _ _ ⟨ka.cell (fun h => h) x0, ka.cell (fun h => h) x1, ka.cell (fun h => h) x2, ka.cell (fun h => h) x3, ka.cell (fun h => h) x4, ka.cell (fun h => h) x5, ka.cell (fun h => h) x6, ka.cell (fun h => h) y0, ka.cell (fun h => h) y1, ka.cell (fun h => h) y2, ka.cell (fun h => h) y3, ka.cell (fun h => h) y4, ka.cell (fun h => h) y5, ka.cell (fun h => h) y6⟩ ?_
        have sa : (w0.alloc (msgObj (.slice none 0 0) (.slice none 0 0) false 0 0 false (.slice none 0 0))).heap.size = w0.heap.size + 1 := by simp
        unfold msgObj at ka ga sa
        generalize w0.alloc (.cells #[.slice none 0 0, .slice none 0 0, .bool false, .int .i64 0, .int .u64 0, .bool false, .slice none 0 0] 97) = wa at *
        clear K hK
        (try simp only [Act.put, List.setIfInBounds_toArray, List.set_cons_zero, List.set_cons_succ])
        refine SeqZ.act (by rfl) rfl (by rfl) (by rfl) (fun K hK => ?_)
        go_simp
        have kb := (Kept.refl Noneof wa).alloc (msgObj (.slice none 0 0) (.slice none 0 0) false 0 0 false (.slice none 0 0))
        have gb := heap_alloc_new wa (msgObj (.slice none 0 0) (.slice none 0 0) false 0 0 false (.slice none 0 0))
        have kc := ka.tr kb
        refine hK.out _ _ ⟨kc.cell (fun h => h) x0, kc.cell (fun h => h) x1, kc.cell (fun h => h) x2, kc.cell (fun h => h) x3, kc.cell (fun h => h) x4, kc.cell (fun h => h) x5, kc.cell (fun h => h) x6, kc.cell (fun h => h) y0, kc.cell (fun h => h) y1, kc.cell (fun h => h) y2, kc.cell (fun h => h) y3, kc.cell (fun h => h) y4, kc.cell (fun h => h) y5, kc.cell (fun h => h) y6⟩ ?_
        have ga := kb.obj (fun h => h) ga
        unfold msgObj at kb gb kc
        have gb : (wa.alloc (.cells #[.slice none 0 0, .slice none 0 0, .bool false, .int .i64 0, .int .u64 0, .bool false, .slice none 0 0] 97)).heap[w0.heap.size + 1]? = some (.cells #[.slice none 0 0, .slice none 0 0, .bool false, .int .i64 0, .int .u64 0, .bool false, .slice none 0 0] 97) := by rw [← sa]; exact gb
        generalize wa.alloc (.cells #[.slice none 0 0, .slice none 0 0, .bool false, .int .i64 0, .int .u64 0, .bool false, .slice none 0 0] 97) = wb at *
        clear K hK ka kb sa
        (try simp only [Act.put, List.setIfInBounds_toArray, List.set_cons_zero, List.set_cons_succ])
        have KC := Lib.hid kc
        have GA := Lib.hid (show wb.heap[w0.heap.size]? = some (msgObj (.slice none 0 0) (.slice none 0 0) false 0 0 false (.slice none 0 0)) from ga)
        have GB := Lib.hid (show wb.heap[w0.heap.size + 1]? = some (msgObj (.slice none 0 0) (.slice none 0 0) false 0 0 false (.slice none 0 0)) from gb)
        clear ga gb kc
        obtain ⟨p0, p1', p2, p3, p4, p5, p6, pf⟩ := msgObj_cells GB.out
        refine SeqZ.act0 (by rfl) rfl (by rfl) (fun K hK => ?_)
        go_simp
        have ks := (((((((Kept.refl (fun b => b = (w0.heap.size + 1)) wb).setCell (p := ⟨(w0.heap.size + 1), 0, none⟩) (.inl rfl) (.slice z1 z2 z3)).setCell (p := ⟨(w0.heap.size + 1), 1, none⟩) (.inl rfl) (.slice z7 z8 z9)).setCell (p := ⟨(w0.heap.size + 1), 2, none⟩) (.inl rfl) (.bool m.bd)).setCell (p := ⟨(w0.heap.size + 1), 3, none⟩) (.inl rfl) (.int .i64 m.size)).setCell (p := ⟨(w0.heap.size + 1), 4, none⟩) (.inl rfl) (.int .u64 m.dg)).setCell (p := ⟨(w0.heap.size + 1), 5, none⟩) (.inl rfl) (.bool m.same)).setCell (p := ⟨(w0.heap.size + 1), 6, none⟩) (.inl rfl) (.slice s4 s5 s6)
        have gs := setCell_obj (setCell_obj (setCell_obj (setCell_obj (setCell_obj (setCell_obj (setCell_obj GB.out (.slice z1 z2 z3) (j := 0)) (.slice z7 z8 z9) (j := 1)) (.bool m.bd) (j := 2)) (.int .i64 m.size) (j := 3)) (.int .u64 m.dg) (j := 4)) (.bool m.same) (j := 5)) (.slice s4 s5 s6) (j := 6)
        have kd := KC.out.trans ks (fun b e => .inr (by subst e; omega))
        refine hK.out _ ⟨kd.cell (fun h => h) x0, kd.cell (fun h => h) x1, kd.cell (fun h => h) x2, kd.cell (fun h => h) x3, kd.cell (fun h => h) x4, kd.cell (fun h => h) x5, kd.cell (fun h => h) x6, kd.cell (fun h => h) y0, kd.cell (fun h => h) y1, kd.cell (fun h => h) y2, kd.cell (fun h => h) y3, kd.cell (fun h => h) y4, kd.cell (fun h => h) y5, kd.cell (fun h => h) y6⟩ ?_
        have gy := ks.obj (p := (w0.heap.size)) (fun e => by omega) GA.out
        generalize ((((((wb.setCell ⟨(w0.heap.size + 1), 0, none⟩ (.slice z1 z2 z3)).setCell ⟨(w0.heap.size + 1), 1, none⟩ (.slice z7 z8 z9)).setCell ⟨(w0.heap.size + 1), 2, none⟩ (.bool m.bd)).setCell ⟨(w0.heap.size + 1), 3, none⟩ (.int .i64 m.size)).setCell ⟨(w0.heap.size + 1), 4, none⟩ (.int .u64 m.dg)).setCell ⟨(w0.heap.size + 1), 5, none⟩ (.bool m.same)).setCell ⟨(w0.heap.size + 1), 6, none⟩ (.slice s4 s5 s6) = wd at *
        clear K hK p0 p1' p2 p3 p4 p5 p6 pf
        have GX := Lib.hid (show wd.heap[(w0.heap.size + 1)]? = some (msgObj (.slice z1 z2 z3) (.slice z7 z8 z9) m.bd m.size m.dg m.same (.slice s4 s5 s6)) from gs)
        have GY := Lib.hid gy
        have KD := Lib.hid kd
        clear gs gy kd ks GA GB KC
        refine SeqZ.nil ?_
        obtain ⟨p0, p1', p2, p3, p4, p5, p6, pf⟩ := msgObj_cells GY.out
        clear x0 x1 x2 x3 x4 x5 x6 y0 y1 y2 y3 y4 y5 y6
        go_wp2_with fail
        go_meet
        have ks := (((((((Kept.refl (fun b => b = (w0.heap.size)) wd).setCell (p := ⟨(w0.heap.size), 0, none⟩) (.inl rfl) (.slice z4 z5 z6)).setCell (p := ⟨(w0.heap.size), 1, none⟩) (.inl rfl) (.slice s1 s2 s3)).setCell (p := ⟨(w0.heap.size), 2, none⟩) (.inl rfl) (.bool m.bd)).setCell (p := ⟨(w0.heap.size), 3, none⟩) (.inl rfl) (.int .i64 m.size)).setCell (p := ⟨(w0.heap.size), 4, none⟩) (.inl rfl) (.int .u64 m.dg)).setCell (p := ⟨(w0.heap.size), 5, none⟩) (.inl rfl) (.bool m.same)).setCell (p := ⟨(w0.heap.size), 6, none⟩) (.inl rfl) (.slice s7 s8 s9)
        have gs := setCell_obj (setCell_obj (setCell_obj (setCell_obj (setCell_obj (setCell_obj (setCell_obj GY.out (.slice z4 z5 z6) (j := 0)) (.slice s1 s2 s3) (j := 1)) (.bool m.bd) (j := 2)) (.int .i64 m.size) (j := 3)) (.int .u64 m.dg) (j := 4)) (.bool m.same) (j := 5)) (.slice s7 s8 s9) (j := 6)
        exact ⟨(w0.heap.size + 1), (w0.heap.size), rfl, rfl, Lib.hid (ks.obj (p := (w0.heap.size + 1)) (fun e => by omega) GX.out), Lib.hid gs, Lib.hid ((k0.tr KD.out).trans ks fun b e => .inr (by subst e; have := k0.size; omega))⟩)
      case rest =>
        obtain ⟨bx, by', rfl, rfl, GX, GY, KX⟩ := hcut
        clear x0 x1 x2 x3 x4 x5 x6 y0 y1 y2 y3 y4 y5 y6
        obtain ⟨p0, p1, p2, p3, p4, p5, p6, pf⟩ := msgObj_cells GX.out
        obtain ⟨q0, q1, q2, q3, q4, q5, q6, qf⟩ := msgObj_cells GY.out
        clear pf qf
        go_wp2_with fail
        refine (r2Compare_calls (L1.out.still byteEl_k KX.out) (L2.out.still byteEl_k KX.out)).mono ?_
        rintro e w1 ⟨rfl, n1, rfl⟩
        rw [cmpB_self]
        have KX1 := Lib.hid (KX.out.drewN n1)
        go_wp2_with fail
        refine (r2Compare_calls (P1.out.still byteEl_k KX1.out) (P2.out.still byteEl_k KX1.out)).mono ?_
        rintro e w1 ⟨rfl, n2, rfl⟩
        rw [cmpB_self]
        have KX2 := Lib.hid (KX.out.drewN (n1 + n2))
        go_wp2_with fail
        refine (r2SamePairs_calls (Q1.out.still pairEl_k KX2.out) (Q2.out.still pairEl_k KX2.out)).mono ?_
        rintro e w1 ⟨rfl, n3, rfl⟩
        have hsp : sameP m.prs m.prs = true := sameP_upto rfl fun i h1 h2 => ⟨cmpB_self _, cmpB_self _⟩
        rw [hsp]
        have KX3 := Lib.hid (kw.out.tr (KX.out.drewN (n1 + n2 + n3)))
        clear hsp
        go_wp2
        go_roundw
        case rel => exact ⟨n + 1, by omega, by go_num, KX3⟩
        case measure => simp [intOf]; omega
    · obtain rfl : n = l.length := by omega
      go_wp2
      go_ret
      exact ⟨rfl, kw.out⟩
end Go.Proofs.Ytaopjdjbpamhhaa
