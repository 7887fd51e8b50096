/- Proved: contracts of the map's function All and of the iterator that it returns. Conditions: a map in memory. -/
import Derived.Test.YtaopjdjbpamhhaaMapB
import Derived.Test.YtaopjdjbpamhhaaRng
namespace Go.Proofs.Ytaopjdjbpamhhaa
open Go Go.RowKit Go.Shelf
set_option linter.unusedVariables false
set_option linter.unusedSimpArgs false
attribute [local go_sem] Oper.semAt_some

set_option maxHeartbeats 1000000 in
theorem orAll_calls {w : World} {m : Nat} :
    Calls Try.prog 161 #[.pointer (some ⟨m, 0, none⟩)] w fun e w' => e = .returned (.func (.func 186) #[] #[.pointer (some ⟨w.heap.size, 0, none⟩)]) ∧ w'.cell? ⟨w.heap.size, 0, none⟩ = some (.pointer (some ⟨m, 0, none⟩)) ∧ Kept Noneof w w' ∧ w.heap.size < w'.heap.size := by
  go_enter Try.func161, Try.ntmps161
  go_wp2
  go_ret
  exact ⟨rfl, by simp, (Kept.refl _ _).alloc _, by simp⟩

/-- What a round of All is handed: a key and a value, and what they read as. -/
abbrev AllE : Type := Value × Value × Bts × Bts
def allRx (B N : Nat) (x : AllE) (W : World) : Prop := BV (fun b => B + 2 ≤ b ∧ b < N) W x.1 x.2.2.1 ∧ BV (fun b => B + 2 ≤ b ∧ b < N) W x.2.1 x.2.2.2

set_option maxRecDepth 100000 in
set_option maxHeartbeats 2000000 in
theorem orAll_1_iter {seed : Int} {W : World} {m : Nat} {t : Tr} {F : Nat → Prop} {B bb n : Nat} (h : MapAt seed W m t F) (hs : t.size ≤ 1000000) (hb : W.cell? ⟨bb, 0, none⟩ = some (.pointer (some ⟨m, 0, none⟩))) (hsz : W.heap.size = B + 2) (hbb : bb < B) :
    IterRel n Try.prog 186 #[.pointer (some ⟨bb, 0, none⟩)] (fun x : AllE => #[x.1, x.2.1]) B (allRx B) (fun xs => xs.map (fun x => x.2.2) = t.pairs) (fun pre => pre.map (fun x => x.2.2) <+: t.pairs) t.pairs.length W := by
  intro J Jx hY hJ hJx h0
  have H := Lib.hid h
  obtain ⟨p, S, D, hm, hlt⟩ := h.open
  have HL := Lib.hid hlt
  have c2 := hm.c2
  have HM := Lib.hid hm
  have SZ := Lib.hid hs
  have HY := Lib.hid hY
  have HJ := Lib.hid hJ
  have HX := Lib.hid hJx
  have H0 := Lib.hid h0
  have HW := Lib.hid hsz
  have HBB := Lib.hid hbb
  clear h hm hlt hs hY hJ hJx h0 hsz hbb
  refine callsIn_of_wp Try.func186 rfl trivial ?_ rfl
  simp only [Try.ntmps186, List.size_toArray, List.length_cons, List.length_nil, Nat.reduceAdd, Nat.reduceSub, Array.replicate_succ, Array.replicate_zero, List.push_toArray, List.append_toArray, List.nil_append, List.cons_append]
  gi_wp2
  refine ⟨trivial, fun hd => (by simp [Fence.wide] at hd), callsIn_wide.2 ((orreal_calls H.out).mono ?_)⟩
  rintro e w1 ⟨rfl, rfl⟩
  gi_wp2
  refine ⟨trivial, fun hd => (by simp [Fence.wide] at hd), callsIn_wide.2 ((orordered_calls (B := B + 2) (fun b hb => by have := HL.out b hb; have := HW.out; omega) t p S w1 _ [] HM.out.ht (fun b hb => by have := HM.out.ht.lt b hb; have := HW.out; omega) (by have := HW.out; omega) (Own.nil _ _ _ _ _) (by have := SZ.out; simp only [List.length_nil]; omega)).mono ?_)⟩
  rintro e w2 ⟨v2, rfl, o2, k2⟩
  have hn2 : B + 2 ≤ w2.heap.size := by have := k2.size; have := HW.out; omega
  have SV2 := Lib.hid (show SV pairEl (fun b => B + 2 ≤ b ∧ b < w2.heap.size) w2 v2 t.pairs from (o2.sv.bd pairEl_k).wide pairEl_k fun b h _ => by omega)
  have K2 : Kept Noneof w1 w2 := ⟨k2.os, k2.tape, k2.output, k2.size, fun k hk _ => k2.block k hk (by have := HW.out; omega)⟩
  have J2 := H0.out w2 K2
  have hlen := Tr.pairs_len t
  obtain ⟨a, c, rfl, hac, hmx, hrd⟩ := SV2.out
  have RD := Lib.hid hrd
  have HN := Lib.hid hn2
  clear o2 k2 K2 hn2 hrd hlen
  generalize hNN : w2.heap.size = N at *
  gi_wp2
  gi_loopw [14] (fun i wr => ∃ (k : Nat) (pre : List AllE), k ≤ t.pairs.length ∧ i = .int .i64 k ∧ Hid (pre.map (fun x => x.2.2) = t.pairs.take k) ∧ J N pre wr ∧ KpN (B + 2) N w2 wr) (fun i _ => t.pairs.length - (intOf i).toNat)
  case atStart => exact ⟨0, [], Nat.zero_le _, rfl, Lib.hid rfl, J2, Kept.refl _ _⟩
  case round =>
    obtain ⟨k, pre, hk, rfl, HP, hJs, hkn⟩ := hrel
    by_cases hl : k < t.pairs.length
    · have hrd := RD.out.kept (E := pairEl) pairEl_k hkn (fun b h1 _ h2 => by omega)
      obtain ⟨b1, o1, u, v, rfl, _, g1, g2, hk', hv'⟩ := Rd.pair hrd hl
      obtain ⟨fn, tmps, assign, body, hy, hR⟩ := HY.out N pre (u, v, t.pairs[k]) (wr.alloc (.cells #[u, v] 70)) HN.out (by have := congrArg List.length HP.out; simp only [List.length_map, List.length_take] at this; omega) (HJ.out _ _ _ _ hJs ((Kept.refl Noneof wr).alloc _)) ⟨hk'.kept byteEl_k ((Kept.refl Noneof wr).alloc _) (fun _ _ _ h => h), hv'.kept byteEl_k ((Kept.refl Noneof wr).alloc _) (fun _ _ _ h => h)⟩
      dsimp only at hy
      have HP2 := Lib.hid (show (pre ++ [(u, v, t.pairs[k])]).map (fun x => x.2.2) = t.pairs.take (k + 1) by
        rw [List.map_append, HP.out, List.take_add_one, List.getElem?_eq_getElem hl]; rfl)
      obtain ⟨a1, c1, hu1, _⟩ := id hk'
      obtain ⟨a2, c2', hv1, _⟩ := id hv'
      clear hk' hv' hrd
      subst hu1 hv1
      gi_wp2
      refine ⟨fun hd => by simp [Fence.wide] at hd, hR.mono ?_⟩
      rintro e W3 (⟨rfl, hJ3, hk3⟩ | ⟨rfl, hJx3⟩)
      · gi_wp2
        go_roundw
        case rel => exact ⟨k + 1, _, by omega, by go_num, HP2, hJ3, (hkn.alloc _).tr hk3⟩
        case measure => simp [intOf]; omega
      · gi_wp2
        refine bodyPost_ret (results_none rfl _ _ _) rfl ?_
        exact ⟨⟨_, rfl⟩, .inr ⟨N, _, HN.out, by rw [HP2.out]; exact List.take_prefix _ _, hJx3⟩⟩
    · obtain rfl : k = t.pairs.length := by omega
      gi_wp2
      go_end0
      exact ⟨⟨_, rfl⟩, .inl ⟨N, pre, HN.out, by rw [HP.out, List.take_length], hJs⟩⟩
end Go.Proofs.Ytaopjdjbpamhhaa
