/- Proved: texts of the families over slots, order and swap, joined, as far as the claim needs them. Conditions: as each theorem says. -/
import Derived.Test.YtaopjdjbpamhhaaSSVL
import Derived.Test.YtaopjdjbpamhhaaSSVC
import Derived.Deep.DeepCutAuto
import Derived.Test.YtaopjdjbpamhhaaSSVA
/- Proved: contracts of the slots package's little and of the table's Image. Conditions: a table in memory. -/
namespace Go.Proofs.Ytaopjdjbpamhhaa
open Go Go.RowKit
set_option linter.unusedVariables false
set_option linter.unusedSimpArgs false
set_option maxHeartbeats 400000 in
theorem sllittle_calls {B : Nat} {v : Value} {l : Bts} {x : Int} {n : Nat} {w : World} (hown : Own 5 byteEl Noneof B w v l) (h0 : 0 ≤ x) (h1 : x ≤ 9223372036854775807) (hn : n ≤ 8) (hl : l.length ≤ 1000000000) (hB : B ≤ w.heap.size) :
    Calls Try.prog 90 #[v, .int .i64 x, .int .i64 n] w fun e w' => ∃ v', e = .returned v' ∧ Own 5 byteEl Noneof B w' v' (l ++ leI x n) ∧ Kept (fun k => v.ownBlock = some k) w w' ∧ ∀ b, v'.ownBlock = some b → v.ownBlock = some b ∨ w.heap.size ≤ b := by
  have O := Lib.hid hown
  clear hown
  go_enter Try.func90, Try.ntmps90
  go_wp2
  go_loopw [0, 1, 8] (fun s y i wr => ∃ k : Nat, k ≤ n ∧ i = .int .i64 k ∧ y = .int .i64 (x / 2 ^ (8 * k)) ∧ Hid (Own 5 byteEl Noneof B wr s (l ++ leI x k)) ∧ Hid (Kept (fun k => v.ownBlock = some k) w wr) ∧ Hid (∀ b, s.ownBlock = some b → v.ownBlock = some b ∨ w.heap.size ≤ b)) (fun _ _ i _ => n - (intOf i).toNat)
  case atStart => exact ⟨0, by omega, rfl, by simp, by show Own _ _ _ _ _ _ _; simpa [leI] using O.out, Kept.refl _ _, fun b h => .inl h⟩
  case round =>
    obtain ⟨k, hk, rfl, rfl, hown, hkept, hrow⟩ := hrel
    by_cases hlt : k < n
    · have hx : 0 ≤ x / 2 ^ (8 * k) := Int.ediv_nonneg h0 (Int.pow_nonneg (by decide))
      have hx2 : x / 2 ^ (8 * k) ≤ 9223372036854775807 := Int.le_trans (Int.ediv_le_self _ h0) h1
      have hl2 := leI_len k x
      have hs := hkept.out.size
      go_wp2_with (at_builtin; refine wl_app_one (E := byteEl) (D := Noneof) (D' := Noneof) rfl (.tmp 10) (.tmp 13) _ rfl tBytes _ _ rfl (hown.out.alloc _) _ [.int .u8 (x / 2 ^ (8 * k) % 256)] (UInt8.ofNat (x / 2 ^ (8 * k) % 256).toNat) rfl ?c1 ?c2 ?c3 ?c4 ?c5 ?c6 ?_; (case c1 => exact ⟨_, _, heap_alloc_new _ _⟩); (case c2 => show _ = _; rw [u8_of _ hx]); (case c3 => exact fun _ h => h.elim); (case c4 => simp; omega); (case c5 => omega); (case c6 => simp; omega))
      intro v' w1 hown1 hk1 hf1
      have O1 := Lib.hid (show Own 5 byteEl Noneof B w1 v' (l ++ leI x (k + 1)) by rw [leI_snoc]; exact hown1)
      have K1 := Lib.hid ((hkept.out.alloc _).trans hk1 fun b hb => hrow.out b hb)
      have R1 := Lib.hid (show ∀ b, v'.ownBlock = some b → v.ownBlock = some b ∨ w.heap.size ≤ b from fun b hb => (hf1 b hb).elim (hrow.out b) fun h => .inr (by have := hkept.out.size; omega))
      have he : x / 2 ^ (8 * k) / 256 = x / 2 ^ (8 * (k + 1)) := by rw [Int.ediv_ediv_of_nonneg (Int.pow_nonneg (by decide)), Nat.mul_add, Int.pow_add]; rfl
      have HE := Lib.hid he
      clear he hown1 hk1 hf1 hown hkept hrow hl2
      go_wp2
      go_roundw
      case rel => exact ⟨k + 1, by omega, by go_num, by rw [← HE.out], O1, K1, R1⟩
      case measure => simp [intOf]; omega
    · obtain rfl : k = n := by omega
      go_wp2
      go_ret
      exact ⟨_, rfl, hown.out, hkept.out, hrow.out⟩

theorem cellB_two {k v : Bts} (hk : k.length ≤ 64) : [1, UInt8.ofNat k.length] ++ leI v.length 2 ++ k ++ v = cellB (some (k, v)) := by
  have e : leI k.length 1 = [UInt8.ofNat k.length] := by
    have h : ((k.length : Int) % 256).toNat = k.length := by omega
    simp only [leI, h]
  simp only [cellB, told, e, List.cons_append, List.nil_append]
set_option maxRecDepth 100000 in
set_option maxHeartbeats 4000000 in
theorem slImage_calls {seed : Int} {w : World} {t : Nat} {l : List (Bts × Bts)} {F : Nat → Prop} (h : TabAt seed w t l F) :
    Calls Try.prog 26 #[bp t] w fun e w' => ∃ v', e = .returned v' ∧ Own 5 byteEl Noneof w.heap.size w' v' (imgT seed l) ∧ Kept Noneof w w' := by
  have H := Lib.hid h
  obtain ⟨hlen, hok⟩ : l.length ≤ 100000 ∧ ∀ p ∈ l, okP p := by obtain ⟨_, _, _, _, h⟩ := h; exact ⟨h.len, h.ok⟩
  have OK := Lib.hid hok
  clear h hok
  obtain ⟨n, hn⟩ : ∃ n, l.length = n := ⟨_, rfl⟩
  replace hlen : n ≤ 100000 := by omega
  obtain ⟨cells, hce⟩ : ∃ c, cellsN l.length = c := ⟨_, rfl⟩
  have QB := Lib.hid (show cells ≤ 1048576 by have := (cellsN_spec (n := l.length) (by omega)).2.2.2.2; omega)
  have PL := Lib.hid (show (posE seed l).length = cells by rw [posE_len]; exact hce)
  have IL := Lib.hid (fun k (hk : k ≤ cells) => imgK_len (seed := seed) (l := l) (by omega) OK.out (k := k) (by omega))
  have IA := Lib.hid (show imgK seed l cells = imgT seed l by rw [← hce]; exact imgK_all seed l)
  have I0 := Lib.hid (show leI n 4 = imgK seed l 0 by rw [imgK_zero, hn])
  have SL := Lib.hid (show (sortE seed l).length = n by rw [sortE_len]; exact hn)
  have HLn := Lib.hid (show l.length ≤ 100000 by omega)
  have LD := Lib.hid (sllaid_calls H.out)
  rw [hn] at LD
  have LD := Lib.hid (LD.out)
  have hcn : cellsN n = cells := by rw [← hn]; exact hce
  rw [hcn] at LD
  replace hn := Lib.hid hn
  clear hce hcn
  go_enter Try.func26, Try.ntmps26
  go_wp2_with fail
  refine (slnone_calls H.out).mono ?_
  rintro e w ⟨rfl, rfl⟩
  go_wp2_with fail
  refine LD.out.mono ?_
  rintro e w1 ⟨g, c, g2, rfl, sv, ho, k1⟩
  have SVH := Lib.hid ((sv.bd (entEl_k seed)))
  have PO := Lib.hid ho
  have K1 := Lib.hid k1
  clear LD sv ho k1 H
  go_wp2_with fail
  refine (sllittle_calls (B := w1.heap.size) (l := []) (x := n) (n := 4) (Own.nil _ _ _ _ _) (by omega) (by omega) (by omega) (by simp) (Nat.le_refl _)).mono ?_
  rintro e w2 ⟨v2, rfl, o2, k2, _⟩
  rw [List.nil_append, I0.out] at o2
  have O2 := Lib.hid o2
  have K2 := Lib.hid (k2.mono (T := Noneof) fun _ h => by cases h)
  clear o2 k2
  go_wp2_with fail
  go_loopw [5, 21] (fun v kv wr => ∃ k : Nat, k ≤ cells ∧ kv = .int .i64 k ∧ Hid (Own 5 byteEl Noneof w1.heap.size wr v (imgK seed l k)) ∧ Hid (Kept Noneof w1 wr)) (fun _ kv _ => cells - (intOf kv).toNat)
  case atStart => exact ⟨0, Nat.zero_le _, rfl, O2, K2⟩
  clear O2 K2
  obtain ⟨k, hk, rfl, O, K⟩ := hrel
  obtain ⟨oa, on, oc, rfl⟩ := O.out.slice'
  by_cases hlt : k < cells
  · have hlt' : (k : Int) < (cells : Int) := by omega
    have hcb := QB.out
    have hkp : k < (posE seed l).length := by rw [PL.out]; exact hlt
    obtain ⟨e0, _, _, _⟩ := (PO.out.kept K.out fun _ h => h.elim).islot hkp
    have GB := Lib.hid O.out.lt
    have LB := Lib.hid (IL.out k hk)
    rcases posE_val HLn.out hkp with hx | ⟨i, hi, hx⟩
    · have CE := Lib.hid (imgK_succ (celE_free hkp (by omega)))
      rw [hx] at e0
      clear hx hkp
      go_wp2_with (at_builtin; refine wl_app_one (E := byteEl) (D := Noneof) (D' := Noneof) rfl (.tmp 27) (.tmp 28) _ rfl tBytes _ _ rfl (O.out.alloc _) _ [.int .u8 0] 0 rfl ?c1 ?c2 ?c3 ?c4 ?c5 ?c6 ?_)
      case c1 => exact ⟨_, _, heap_alloc_new _ _⟩
      case c2 => exact (rfl : _ = _)
      case c3 => exact fun _ h => h.elim
      case c4 => have := LB.out; omega
      case c5 => omega
      case c6 => have := K.out.size; simp; omega
      intro v5 w5 ho5 k5 b5
      have O5 := Lib.hid (show Own 5 byteEl Noneof w1.heap.size w5 v5 (imgK seed l (k + 1)) by rw [← CE.out]; exact ho5)
      have K5 := Lib.hid ((K.out.alloc _).trans k5 fun b hb => .inr (GB.out b hb).1)
      clear ho5 k5 b5 O K e0 CE
      go_wp2
      go_roundw
      case rel => exact ⟨k + 1, by omega, by go_num, O5, K5⟩
      case measure => simp [intOf]; omega
    · have hiL : i < (sortE seed l).length := by rw [sortE_len]; exact hi
      have CE := Lib.hid (imgK_succ (celE_full hkp hx hiL))
      have hp := OK.out _ ((sortE_perm seed l).mem_iff.1 (List.getElem_mem hiL))
      obtain ⟨_, _, hsl, _, _, rd⟩ := SVH.out
      simp only [Value.slice.injEq] at hsl
      obtain ⟨rfl, -, rfl⟩ := hsl
      obtain ⟨b, o, u, v, he, db, a0, a1, a2, a3, hu, hv⟩ := Rd.ent rd hiL
      simp only [Option.some.injEq, Addr.mk.injEq, and_true] at he
      obtain ⟨rfl, rfl⟩ := he
      simp only [Nat.zero_add] at a0 a1 a2 a3
      replace a0 := K.out.cell (p := ⟨g, i * 4, none⟩) (fun h => h) a0
      replace a1 := K.out.cell (p := ⟨g, i * 4 + 1, none⟩) (fun h => h) a1
      replace a2 := K.out.cell (p := ⟨g, i * 4 + 2, none⟩) (fun h => h) a2
      replace a3 := K.out.cell (p := ⟨g, i * 4 + 3, none⟩) (fun h => h) a3
      rw [hx] at e0
      generalize (sortE seed l)[i] = p at *
      obtain ⟨p1, p2⟩ := p
      obtain ⟨_, hp1, hp2⟩ := hp
      simp only at hu hv a2 a3 hp1 hp2
      have HU := Lib.hid hu
      have HV := Lib.hid hv
      obtain ⟨ua, uc, rfl, _⟩ := hu
      obtain ⟨va, vc, rfl, _⟩ := hv
      have hin : (i : Int) < (n : Int) := by have := hn.out; omega
      have hb := byte_nat p1.length (by omega)
      have T2 := Lib.hid (cellB_two (v := p2) hp1)
      have kA := ((Kept.refl Noneof wr).alloc (.cells #[.slice ua p1.length uc, .slice va p2.length vc, .int .u64 (coin seed 1 p1), .int .u64 (coin seed 2 p1)] 138))
      have qA := heap_alloc_new wr (.cells #[.slice ua p1.length uc, .slice va p2.length vc, .int .u64 (coin seed 1 p1), .int .u64 (coin seed 2 p1)] 138)
      have sA : (wr.alloc (.cells #[.slice ua p1.length uc, .slice va p2.length vc, .int .u64 (coin seed 1 p1), .int .u64 (coin seed 2 p1)] 138)).heap.size = wr.heap.size + 1 := by simp
      have kB := (Kept.refl Noneof (wr.alloc (.cells #[.slice ua p1.length uc, .slice va p2.length vc, .int .u64 (coin seed 1 p1), .int .u64 (coin seed 2 p1)] 138))).alloc (.cells #[.int .u8 1, .int .u8 (p1.length : Int)] 5)
      have qB := heap_alloc_new (wr.alloc (.cells #[.slice ua p1.length uc, .slice va p2.length vc, .int .u64 (coin seed 1 p1), .int .u64 (coin seed 2 p1)] 138)) (.cells #[.int .u8 1, .int .u8 (p1.length : Int)] 5)
      rw [sA] at qB
      have KA := Lib.hid (kA.tr kB)
      have QA := Lib.hid (kB.obj (fun h => h) qA)
      have QB' := Lib.hid qB
      have HP := Lib.hid (And.intro hp1 hp2)
      clear hx hkp hiL rd db kA qA sA kB qB hp1 hp2
      go_wp2_with (at_builtin; refine wl_app (E := byteEl) (D := Noneof) (D' := Noneof) rfl (.tmp 34) (.tmp 39) _ rfl tBytes _ _ rfl (O.out.kept KA.out fun _ h => h.elim) _ 2 [1, UInt8.ofNat p1.length] rfl ?d1 ?d2 [.int .u8 1, .int .u8 (p1.length : Int)] ?d3 ?d4 ?d5 ?d6 ?d7 ?d8 ?_)
      case d3 => exact two_bytes rfl (by have := HP.out.1; simp; omega)
      case d5 => exact fun _ h => h.elim
      case d6 => have := LB.out; first | omega | (simp; omega)
      case d8 => have := K.out.size; have := KA.out.size; omega
      intro v5 w5 ho5 k5 b5 _
      have hq5 := k5.obj (p := wr.heap.size) (fun e => by have := (GB.out _ e).2; omega) QA.out
      have NB := Lib.hid (show ∀ b, v5.ownBlock = some b → w1.heap.size ≤ b ∧ b ≠ wr.heap.size from fun b e => ⟨(ho5.lt b e).1, fun h => by
        rcases b5 b e with h2 | h2
        · have := (GB.out b h2).2; omega
        · have := KA.out.size; first | omega | (simp at h2; omega)⟩)
      have K5 := Lib.hid ((K.out.tr KA.out).trans k5 fun b e => .inr (GB.out b e).1)
      have O5 := Lib.hid ho5
      obtain ⟨a5, n5, c5, rfl⟩ := ho5.slice'
      have q0 : w5.cell? ⟨wr.heap.size, 0, none⟩ = some (.slice ua p1.length uc) := by simp [World.cell?, hq5]
      have q1 : w5.cell? ⟨wr.heap.size, 1, none⟩ = some (.slice va p2.length vc) := by simp [World.cell?, hq5]
      have LB5 := Lib.hid (show (imgK seed l k ++ [1, UInt8.ofNat p1.length]).length ≤ 900000002 by have := LB.out; simp; omega)
      have hv2 := HP.out.2
      have hwl := block_lt hq5
      clear ho5 k5 b5 hq5 e0 hb
      go_wp2_with fail
      refine (sllittle_calls (x := p2.length) (n := 2) O5.out (by omega) (by omega) (by omega) (by have := LB5.out; omega) K5.out.size).mono ?_
      rintro e w6 ⟨v6, rfl, o6, k6, b6⟩
      have K6 := Lib.hid (K5.out.trans k6 fun b e => .inr (NB.out b e).1)
      have nb : ¬ (Value.slice a5 n5 c5).ownBlock = some wr.heap.size := fun e => (NB.out _ e).2 rfl
      replace q0 := k6.cell (p := ⟨wr.heap.size, 0, none⟩) nb q0
      replace q1 := k6.cell (p := ⟨wr.heap.size, 1, none⟩) nb q1
      have NB6 := Lib.hid (show ∀ b, v6.ownBlock = some b → w1.heap.size ≤ b ∧ b ≠ wr.heap.size from fun b e => ⟨(o6.lt b e).1, fun h => by
        rcases b6 b e with h2 | h2
        · exact (NB.out b h2).2 h
        · omega⟩)
      have O6 := Lib.hid o6
      obtain ⟨a6, n6, c6, rfl⟩ := o6.slice'
      have LB6 := Lib.hid (show (imgK seed l k ++ [1, UInt8.ofNat p1.length] ++ leI p2.length 2).length ≤ 900000004 by have := LB5.out; rw [List.length_append, leI_len]; omega)
      have hg2 : wr.heap.size < w6.heap.size := by have := k6.size; omega
      clear o6 k6 b6 nb O5 K5 NB O K
      go_wp2_with fail
      refine wp_region_chain 7 [3, 6] (fun w' => w'.cell? ⟨wr.heap.size, 0, none⟩ = some (.slice ua p1.length uc) ∧ w'.cell? ⟨wr.heap.size, 1, none⟩ = some (.slice va p2.length vc)) (by kernel_rfl) (by kernel_rfl) ?_ ?_
      · exact ⟨q0, q1⟩
      refine SeqW.out ?_
      simp only [List.take_succ_cons, List.take_zero, List.drop_succ_cons, List.drop_zero]
      have kd := (Kept.refl Noneof w6).drew
      replace O6 := Lib.hid (O6.out.kept kd fun _ h => h.elim)
      replace K6 := Lib.hid (K6.out.tr kd)
      replace q0 := kd.cell (p := ⟨wr.heap.size, 0, none⟩) (fun h => h) q0
      replace q1 := kd.cell (p := ⟨wr.heap.size, 1, none⟩) (fun h => h) q1
      have hg2 : wr.heap.size < w6.drew.heap.size := hg2
      generalize w6.drew = w7 at *
      clear kd
      iterate 3 (refine SeqW.val (v := ?_) (by rfl) (by rfl) (fun wx hSw => ?_) ?_; rotate_left; (focus ((try dsimp only at hSw); go_simp; (try with_reducible rfl))); (try simp only [Act.put, List.setIfInBounds_toArray, List.set_cons_zero, List.set_cons_succ]))
      refine SeqW.act (by rfl) rfl (by rfl) (by rfl) (fun K hK => ?_)
      refine wp_app_bytes (ops := #[]) rfl (.tmp 46) (.tmp 48) _ rfl tBytes _ _ rfl O6.out _ p1 rfl (HU.out.still' K6.out) (by have := LB6.out; have := HP.out.1; omega) K6.out.size ?_
      intro v8 w8 o8 k8 b8
      have K8 := Lib.hid (K6.out.trans k8 fun b e => .inr (NB6.out b e).1)
      have nb : ¬ (Value.slice a6 n6 c6).ownBlock = some wr.heap.size := fun e => (NB6.out _ e).2 rfl
      replace q0 := k8.cell (p := ⟨wr.heap.size, 0, none⟩) nb q0
      replace q1 := k8.cell (p := ⟨wr.heap.size, 1, none⟩) nb q1
      have NB8 := Lib.hid (show ∀ b, v8.ownBlock = some b → w1.heap.size ≤ b ∧ b ≠ wr.heap.size from fun b e => ⟨(o8.lt b e).1, fun h => by
        rcases b8 b e with h2 | h2
        · exact (NB6.out b h2).2 h
        · omega⟩)
      have O8 := Lib.hid o8
      obtain ⟨a8, n8, c8, rfl⟩ := o8.slice'
      have LB8 := Lib.hid (show (imgK seed l k ++ [1, UInt8.ofNat p1.length] ++ leI p2.length 2 ++ p1).length ≤ 900000100 by have := LB6.out; have := HP.out.1; rw [List.length_append]; omega)
      refine hK.out _ _ ⟨q0, q1⟩ ?_
      clear K hK o8 k8 b8 nb O6 K6 NB6 hg2
      (try simp only [Act.put, List.setIfInBounds_toArray, List.set_cons_zero, List.set_cons_succ])
      iterate 2 (refine SeqW.val (v := ?_) (by rfl) (by rfl) (fun wx hSw => ?_) ?_; rotate_left; (focus ((try dsimp only at hSw); go_simp; (try with_reducible rfl))); (try simp only [Act.put, List.setIfInBounds_toArray, List.set_cons_zero, List.set_cons_succ]))
      refine SeqW.act (by rfl) rfl (by rfl) (by rfl) (fun K hK => ?_)
      refine wp_app_bytes (ops := #[]) rfl (.tmp 49) (.tmp 51) _ rfl tBytes _ _ rfl O8.out _ p2 rfl (HV.out.still' K8.out) (by have := LB8.out; have := HP.out.2; omega) K8.out.size ?_
      intro v9 w9 o9 k9 b9
      have K9 := Lib.hid (K8.out.trans k9 fun b e => .inr (NB8.out b e).1)
      have nb : ¬ (Value.slice a8 n8 c8).ownBlock = some wr.heap.size := fun e => (NB8.out _ e).2 rfl
      replace q0 := k9.cell (p := ⟨wr.heap.size, 0, none⟩) nb q0
      replace q1 := k9.cell (p := ⟨wr.heap.size, 1, none⟩) nb q1
      have O9 := Lib.hid (show Own 5 byteEl Noneof w1.heap.size w9 v9 (imgK seed l (k + 1)) by
        rw [← CE.out, ← T2.out]
        simpa only [List.append_assoc] using o9)
      obtain ⟨a9, n9, c9, rfl⟩ := o9.slice'
      refine hK.out _ _ ⟨q0, q1⟩ ?_
      clear K hK o9 k9 b9 nb O8 K8 NB8 q0 q1 CE T2 HU HV KA QA QB'
      (try simp only [Act.put, List.setIfInBounds_toArray, List.set_cons_zero, List.set_cons_succ])
      refine SeqW.nil ?_
      go_wp2
      go_roundw
      case rel => exact ⟨k + 1, by omega, by go_num, O9, K9⟩
      case measure => simp [intOf]; omega
  · obtain rfl : k = cells := by omega
    go_wp2
    go_ret
    exact ⟨_, rfl, by rw [← IA.out]; exact O.out.base K1.out.size, K1.out.tr K.out⟩
end Go.Proofs.Ytaopjdjbpamhhaa
/- Proved: contract of the table's Looks. Conditions: a table and a key in memory. -/
namespace Go.Proofs.Ytaopjdjbpamhhaa
open Go Go.RowKit
set_option linter.unusedVariables false
set_option linter.unusedSimpArgs false
def cellAt (seed : Int) (l : List (Bts × Bts)) (c : Nat) : Option (Bts × Bts) := (celE seed l).getD c none
theorem cellAt_free {seed : Int} {l : List (Bts × Bts)} {c : Nat} (hc : c < (posE seed l).length) (h : (posE seed l)[c] < 0) : cellAt seed l c = none := by
  unfold cellAt
  rw [List.getD_eq_getElem?_getD, celE_free hc h]
  rfl
theorem cellAt_full {seed : Int} {l : List (Bts × Bts)} {c i : Nat} (hc : c < (posE seed l).length) (h : (posE seed l)[c] = (i : Int)) (hi : i < (sortE seed l).length) : cellAt seed l c = some (sortE seed l)[i] := by
  unfold cellAt
  rw [List.getD_eq_getElem?_getD, celE_full hc h hi]
  rfl
end Go.Proofs.Ytaopjdjbpamhhaa
/- Proved: contract of the table's Cells. Conditions: a table in memory. -/
namespace Go.Proofs.Ytaopjdjbpamhhaa
open Go Go.RowKit
set_option linter.unusedVariables false
set_option linter.unusedSimpArgs false
/-- A cell: whether it is full, its key, its value. -/
abbrev CellK := Bool × Bts × Bts
def cellEl : El CellK where
  k := 3
  R := fun D w cs x => ∃ u v, cs = [.bool x.1, u, v] ∧ BW D w u x.2.1 ∧ BW D w v x.2.2
  mono := fun hw ⟨u, v, h1, h2, h3⟩ => ⟨u, v, h1, h2.mono hw, h3.mono hw⟩
  len := fun ⟨u, v, h1, _⟩ => by rw [h1]; rfl
  one := fun ⟨u, v, h1, h2, h3⟩ x hx => by
    rw [h1] at hx
    simp only [List.mem_cons, List.not_mem_nil, or_false] at hx
    rcases hx with rfl | rfl | rfl
    · rfl
    · exact h2.1.cell1
    · exact h3.1.cell1
theorem tCells : SlT Try.prog 39 78 3 56 (.agg #[.bool false, .slice none 0 0, .slice none 0 0]) := SlT.of (by kernel_rfl) (by kernel_rfl) rfl (by decide)
def cellT : Option (Bts × Bts) → CellK
  | none => (false, [], [])
  | some p => (true, p.1, p.2)
/-- A row of the call's own has all its cells, none of them frozen. -/
theorem Own.cellat {α : Type} {E : El α} {D : Nat → Prop} {e : TypeId} {B : Nat} {w : World} {g n c i j : Nat} {l : List α} (h : Own e E D B w (.slice (some ⟨g, 0, none⟩) n c) l) (hi : i < l.length) (hj : j < E.k) : (∃ u, w.cell? ⟨g, i * E.k + j, none⟩ = some u) ∧ w.frozen? ⟨g, i * E.k + j, none⟩ = false := by
  obtain ⟨hl, D0, h0, xs, ⟨h1, h2⟩, h3⟩ := h
  rcases h2 with ⟨hh, _⟩ | ⟨g', cap, cur, hv, hg, hh, hc, hm', hs, ht⟩
  · cases hh
  · simp only [Value.slice.injEq, Option.some.injEq, Addr.mk.injEq, and_true] at hv
    obtain ⟨rfl, rfl, rfl⟩ := hv
    have : i * E.k + j < cur.size := by
      rw [hs]
      have := Nat.mul_le_mul_right E.k (show i + 1 ≤ c by omega)
      rw [Nat.add_mul, Nat.one_mul] at this
      omega
    exact ⟨⟨cur[i * E.k + j], by simp [World.cell?, hh, this]⟩, by simp [World.frozen?, hh]⟩
/-- What the cells hold, up to the k-th; the others are free. -/
def cellsK (seed : Int) (l : List (Bts × Bts)) (cells k : Nat) : List CellK := ((celE seed l).take k).map cellT ++ List.replicate (cells - k) (false, [], [])
theorem cellsK_zero (seed : Int) (l : List (Bts × Bts)) (cells : Nat) : cellsK seed l cells 0 = List.replicate cells (false, [], []) := by simp [cellsK]
theorem cellsK_all {seed : Int} {l : List (Bts × Bts)} {cells : Nat} (h : cellsN l.length = cells) : cellsK seed l cells cells = (celE seed l).map cellT := by
  unfold cellsK
  rw [List.take_of_length_le (by rw [celE_len]; omega)]
  simp
theorem cellsK_len {seed : Int} {l : List (Bts × Bts)} {cells k : Nat} (h : cellsN l.length = cells) (hk : k ≤ cells) : (cellsK seed l cells k).length = cells := by
  unfold cellsK
  rw [List.length_append, List.length_map, List.length_take, celE_len, List.length_replicate]
  omega
theorem cellsK_set {seed : Int} {l : List (Bts × Bts)} {cells k : Nat} {x : Option (Bts × Bts)} (h : cellsN l.length = cells) (hk : k < cells) (hx : (celE seed l)[k]? = some x) : (cellsK seed l cells k).set k (cellT x) = cellsK seed l cells (k + 1) := by
  have ht : (((celE seed l).take k).map cellT).length = k := by rw [List.length_map, List.length_take, celE_len]; omega
  unfold cellsK
  rw [List.set_append_right _ _ (by omega), ht, Nat.sub_self, show cells - k = (cells - (k + 1)) + 1 by omega, List.replicate_succ, List.set_cons_zero, List.take_add_one, hx]
  simp
theorem cellsK_free {seed : Int} {l : List (Bts × Bts)} {cells k : Nat} (hk : k < cells) (hx : (celE seed l)[k]? = some none) : cellsK seed l cells k = cellsK seed l cells (k + 1) := by
  unfold cellsK
  rw [List.take_add_one, hx, show cells - k = (cells - (k + 1)) + 1 by omega, List.replicate_succ]
  simp [cellT]

end Go.Proofs.Ytaopjdjbpamhhaa
