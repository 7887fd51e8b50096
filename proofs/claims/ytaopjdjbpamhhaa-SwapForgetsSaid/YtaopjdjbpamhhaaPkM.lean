/- Proved: texts of the families over slots, order and swap, joined: laws of memory and regions, contracts of functions, plain facts. Conditions: as each theorem says. -/
import Derived.Test.YtaopjdjbpamhhaaPkL
import Derived.Test.YtaopjdjbpamhhaaPkC
import Derived.Deep.DeepCutAuto
/- Proved: contracts of the slots package's little and of the table's Image. Conditions: a table in memory. -/
namespace Go.Proofs.Ytaopjdjbpamhhaa
open Go Go.RowKit
set_option linter.unusedVariables false
set_option linter.unusedSimpArgs false

set_option maxHeartbeats 400000 in
theorem sllittle_calls {B : Nat} {v : Value} {l : Bts} {x : Int} {n : Nat} {w : World} (hown : Own 5 byteEl Noneof B w v l) (h0 : 0 ≤ x) (h1 : x ≤ 9223372036854775807) (hn : n ≤ 8) (hl : l.length ≤ 1000000000) (hB : B ≤ w.heap.size) :
    Calls Try.prog 90 #[v, .int .i64 x, .int .i64 n] w fun e w' => ∃ v', e = .returned v' ∧ Own 5 byteEl Noneof B w' v' (l ++ leI x n) ∧ Kept (fun k => v.ownBlock = some k) w w' ∧ ∀ b, v'.ownBlock = some b → v.ownBlock = some b ∨ w.heap.size ≤ b := by
  have O := Lib.hid hown
  clear hown
  go_enter Try.func90, Try.ntmps90
  go_wp2
  go_loopw [0, 1, 8] (fun s y i wr => ∃ k : Nat, k ≤ n ∧ i = .int .i64 k ∧ y = .int .i64 (x / 2 ^ (8 * k)) ∧ Hid (Own 5 byteEl Noneof B wr s (l ++ leI x k)) ∧ Hid (Kept (fun k => v.ownBlock = some k) w wr) ∧ Hid (∀ b, s.ownBlock = some b → v.ownBlock = some b ∨ w.heap.size ≤ b)) (fun _ _ i _ => n - (intOf i).toNat)
  case atStart => exact ⟨0, by omega, rfl, by simp, by show Own _ _ _ _ _ _ _; simpa [leI] using O.out, Kept.refl _ _, fun b h => .inl h⟩
  case round =>
    obtain ⟨k, hk, rfl, rfl, hown, hkept, hrow⟩ := hrel
    by_cases hlt : k < n
    · have hx : 0 ≤ x / 2 ^ (8 * k) := Int.ediv_nonneg h0 (Int.pow_nonneg (by decide))
      have hx2 : x / 2 ^ (8 * k) ≤ 9223372036854775807 := Int.le_trans (Int.ediv_le_self _ h0) h1
      have hl2 := leI_len k x
      have hs := hkept.out.size
      go_wp2_with (at_builtin; refine wl_app_one (E := byteEl) (D := Noneof) (D' := Noneof) rfl (.tmp 10) (.tmp 13) _ rfl tBytes _ _ rfl (hown.out.alloc _) _ [.int .u8 (x / 2 ^ (8 * k) % 256)] (UInt8.ofNat (x / 2 ^ (8 * k) % 256).toNat) rfl ?c1 ?c2 ?c3 ?c4 ?c5 ?c6 ?_; (case c1 => exact ⟨_, _, heap_alloc_new _ _⟩); (case c2 => show _ = _; rw [u8_of _ hx]); (case c3 => exact fun _ h => h.elim); (case c4 => simp; omega); (case c5 => omega); (case c6 => simp; omega))
      intro v' w1 hown1 hk1 hf1
      have O1 := Lib.hid (show Own 5 byteEl Noneof B w1 v' (l ++ leI x (k + 1)) by rw [leI_snoc]; exact hown1)
      have K1 := Lib.hid ((hkept.out.alloc _).trans hk1 fun b hb => hrow.out b hb)
      have R1 := Lib.hid (show ∀ b, v'.ownBlock = some b → v.ownBlock = some b ∨ w.heap.size ≤ b from fun b hb => (hf1 b hb).elim (hrow.out b) fun h => .inr (by have := hkept.out.size; omega))
      have he : x / 2 ^ (8 * k) / 256 = x / 2 ^ (8 * (k + 1)) := by rw [Int.ediv_ediv_of_nonneg (Int.pow_nonneg (by decide)), Nat.mul_add, Int.pow_add]; rfl
      have HE := Lib.hid he
      clear he hown1 hk1 hf1 hown hkept hrow hl2
      go_wp2
      go_roundw
      case rel => exact ⟨k + 1, by omega, by go_num, by rw [← HE.out], O1, K1, R1⟩
      case measure => simp [intOf]; omega
    · obtain rfl : k = n := by omega
      go_wp2
      go_ret
      exact ⟨_, rfl, hown.out, hkept.out, hrow.out⟩

theorem cellB_two {k v : Bts} (hk : k.length ≤ 64) : [1, UInt8.ofNat k.length] ++ leI v.length 2 ++ k ++ v = cellB (some (k, v)) := by
  have e : leI k.length 1 = [UInt8.ofNat k.length] := by
    have h : ((k.length : Int) % 256).toNat = k.length := by omega
    simp only [leI, h]
  simp only [cellB, told, e, List.cons_append, List.nil_append]
set_option maxRecDepth 100000 in
set_option maxHeartbeats 4000000 in
theorem slImage_calls {seed : Int} {w : World} {t : Nat} {l : List (Bts × Bts)} {F : Nat → Prop} (h : TabAt seed w t l F) :
    Calls Try.prog 26 #[bp t] w fun e w' => ∃ v', e = .returned v' ∧ Own 5 byteEl Noneof w.heap.size w' v' (imgT seed l) ∧ Kept Noneof w w' := by
  have H := Lib.hid h
  obtain ⟨hlen, hok⟩ : l.length ≤ 100000 ∧ ∀ p ∈ l, okP p := by obtain ⟨_, _, _, _, h⟩ := h; exact ⟨h.len, h.ok⟩
  have OK := Lib.hid hok
  clear h hok
  obtain ⟨n, hn⟩ : ∃ n, l.length = n := ⟨_, rfl⟩
  replace hlen : n ≤ 100000 := by omega
  obtain ⟨cells, hce⟩ : ∃ c, cellsN l.length = c := ⟨_, rfl⟩
  have QB := Lib.hid (show cells ≤ 1048576 by have := (cellsN_spec (n := l.length) (by omega)).2.2.2.2; omega)
  have PL := Lib.hid (show (posE seed l).length = cells by rw [posE_len]; exact hce)
  have IL := Lib.hid (fun k (hk : k ≤ cells) => imgK_len (seed := seed) (l := l) (by omega) OK.out (k := k) (by omega))
  have IA := Lib.hid (show imgK seed l cells = imgT seed l by rw [← hce]; exact imgK_all seed l)
  have I0 := Lib.hid (show leI n 4 = imgK seed l 0 by rw [imgK_zero, hn])
  have SL := Lib.hid (show (sortE seed l).length = n by rw [sortE_len]; exact hn)
  have HLn := Lib.hid (show l.length ≤ 100000 by omega)
  have LD := Lib.hid (sllaid_calls H.out)
  rw [hn] at LD
  have LD := Lib.hid (LD.out)
  have hcn : cellsN n = cells := by rw [← hn]; exact hce
  rw [hcn] at LD
  replace hn := Lib.hid hn
  clear hce hcn
  go_enter Try.func26, Try.ntmps26
  go_wp2_with fail
  refine (slnone_calls H.out).mono ?_
  rintro e w ⟨rfl, rfl⟩
  go_wp2_with fail
  refine LD.out.mono ?_
  rintro e w1 ⟨g, c, g2, rfl, sv, ho, k1⟩
  have SVH := Lib.hid ((sv.bd (entEl_k seed)))
  have PO := Lib.hid ho
  have K1 := Lib.hid k1
  clear LD sv ho k1 H
  go_wp2_with fail
  refine (sllittle_calls (B := w1.heap.size) (l := []) (x := n) (n := 4) (Own.nil _ _ _ _ _) (by omega) (by omega) (by omega) (by simp) (Nat.le_refl _)).mono ?_
  rintro e w2 ⟨v2, rfl, o2, k2, _⟩
  rw [List.nil_append, I0.out] at o2
  have O2 := Lib.hid o2
  have K2 := Lib.hid (k2.mono (T := Noneof) fun _ h => by cases h)
  clear o2 k2
  go_wp2_with fail
  go_loopw [5, 21] (fun v kv wr => ∃ k : Nat, k ≤ cells ∧ kv = .int .i64 k ∧ Hid (Own 5 byteEl Noneof w1.heap.size wr v (imgK seed l k)) ∧ Hid (Kept Noneof w1 wr)) (fun _ kv _ => cells - (intOf kv).toNat)
  case atStart => exact ⟨0, Nat.zero_le _, rfl, O2, K2⟩
  clear O2 K2
  obtain ⟨k, hk, rfl, O, K⟩ := hrel
  obtain ⟨oa, on, oc, rfl⟩ := O.out.slice'
  by_cases hlt : k < cells
  · have hlt' : (k : Int) < (cells : Int) := by omega
    have hcb := QB.out
    have hkp : k < (posE seed l).length := by rw [PL.out]; exact hlt
    obtain ⟨e0, _, _, _⟩ := (PO.out.kept K.out fun _ h => h.elim).islot hkp
    have GB := Lib.hid O.out.lt
    have LB := Lib.hid (IL.out k hk)
    rcases posE_val HLn.out hkp with hx | ⟨i, hi, hx⟩
    · have CE := Lib.hid (imgK_succ (celE_free hkp (by omega)))
      rw [hx] at e0
      clear hx hkp
      go_wp2_with (at_builtin; refine wl_app_one (E := byteEl) (D := Noneof) (D' := Noneof) rfl (.tmp 27) (.tmp 28) _ rfl tBytes _ _ rfl (O.out.alloc _) _ [.int .u8 0] 0 rfl ?c1 ?c2 ?c3 ?c4 ?c5 ?c6 ?_)
      case c1 => exact ⟨_, _, heap_alloc_new _ _⟩
      case c2 => exact (rfl : _ = _)
      case c3 => exact fun _ h => h.elim
      case c4 => have := LB.out; omega
      case c5 => omega
      case c6 => have := K.out.size; simp; omega
      intro v5 w5 ho5 k5 b5
      have O5 := Lib.hid (show Own 5 byteEl Noneof w1.heap.size w5 v5 (imgK seed l (k + 1)) by rw [← CE.out]; exact ho5)
      have K5 := Lib.hid ((K.out.alloc _).trans k5 fun b hb => .inr (GB.out b hb).1)
      clear ho5 k5 b5 O K e0 CE
      go_wp2
      go_roundw
      case rel => exact ⟨k + 1, by omega, by go_num, O5, K5⟩
      case measure => simp [intOf]; omega
    · have hiL : i < (sortE seed l).length := by rw [sortE_len]; exact hi
      have CE := Lib.hid (imgK_succ (celE_full hkp hx hiL))
      have hp := OK.out _ ((sortE_perm seed l).mem_iff.1 (List.getElem_mem hiL))
      obtain ⟨_, _, hsl, _, _, rd⟩ := SVH.out
      simp only [Value.slice.injEq] at hsl
      obtain ⟨rfl, -, rfl⟩ := hsl
      obtain ⟨b, o, u, v, he, db, a0, a1, a2, a3, hu, hv⟩ := Rd.ent rd hiL
      simp only [Option.some.injEq, Addr.mk.injEq, and_true] at he
      obtain ⟨rfl, rfl⟩ := he
      simp only [Nat.zero_add] at a0 a1 a2 a3
      replace a0 := K.out.cell (p := ⟨g, i * 4, none⟩) (fun h => h) a0
      replace a1 := K.out.cell (p := ⟨g, i * 4 + 1, none⟩) (fun h => h) a1
      replace a2 := K.out.cell (p := ⟨g, i * 4 + 2, none⟩) (fun h => h) a2
      replace a3 := K.out.cell (p := ⟨g, i * 4 + 3, none⟩) (fun h => h) a3
      rw [hx] at e0
      generalize (sortE seed l)[i] = p at *
      obtain ⟨p1, p2⟩ := p
      obtain ⟨_, hp1, hp2⟩ := hp
      simp only at hu hv a2 a3 hp1 hp2
      have HU := Lib.hid hu
      have HV := Lib.hid hv
      obtain ⟨ua, uc, rfl, _⟩ := hu
      obtain ⟨va, vc, rfl, _⟩ := hv
      have hin : (i : Int) < (n : Int) := by have := hn.out; omega
      have hb := byte_nat p1.length (by omega)
      have T2 := Lib.hid (cellB_two (v := p2) hp1)
      have kA := ((Kept.refl Noneof wr).alloc (.cells #[.slice ua p1.length uc, .slice va p2.length vc, .int .u64 (coin seed 1 p1), .int .u64 (coin seed 2 p1)] 138))
      have qA := heap_alloc_new wr (.cells #[.slice ua p1.length uc, .slice va p2.length vc, .int .u64 (coin seed 1 p1), .int .u64 (coin seed 2 p1)] 138)
      have sA : (wr.alloc (.cells #[.slice ua p1.length uc, .slice va p2.length vc, .int .u64 (coin seed 1 p1), .int .u64 (coin seed 2 p1)] 138)).heap.size = wr.heap.size + 1 := by simp
      have kB := (Kept.refl Noneof (wr.alloc (.cells #[.slice ua p1.length uc, .slice va p2.length vc, .int .u64 (coin seed 1 p1), .int .u64 (coin seed 2 p1)] 138))).alloc (.cells #[.int .u8 1, .int .u8 (p1.length : Int)] 5)
      have qB := heap_alloc_new (wr.alloc (.cells #[.slice ua p1.length uc, .slice va p2.length vc, .int .u64 (coin seed 1 p1), .int .u64 (coin seed 2 p1)] 138)) (.cells #[.int .u8 1, .int .u8 (p1.length : Int)] 5)
      rw [sA] at qB
      have KA := Lib.hid (kA.tr kB)
      have QA := Lib.hid (kB.obj (fun h => h) qA)
      have QB' := Lib.hid qB
      have HP := Lib.hid (And.intro hp1 hp2)
      clear hx hkp hiL rd db kA qA sA kB qB hp1 hp2
      go_wp2_with (at_builtin; refine wl_app (E := byteEl) (D := Noneof) (D' := Noneof) rfl (.tmp 34) (.tmp 39) _ rfl tBytes _ _ rfl (O.out.kept KA.out fun _ h => h.elim) _ 2 [1, UInt8.ofNat p1.length] rfl ?d1 ?d2 [.int .u8 1, .int .u8 (p1.length : Int)] ?d3 ?d4 ?d5 ?d6 ?d7 ?d8 ?_)
      case d3 => exact two_bytes rfl (by have := HP.out.1; simp; omega)
      case d5 => exact fun _ h => h.elim
      case d6 => have := LB.out; first | omega | (simp; omega)
      case d8 => have := K.out.size; have := KA.out.size; omega
      intro v5 w5 ho5 k5 b5 _
      have hq5 := k5.obj (p := wr.heap.size) (fun e => by have := (GB.out _ e).2; omega) QA.out
      have NB := Lib.hid (show ∀ b, v5.ownBlock = some b → w1.heap.size ≤ b ∧ b ≠ wr.heap.size from fun b e => ⟨(ho5.lt b e).1, fun h => by
        rcases b5 b e with h2 | h2
        · have := (GB.out b h2).2; omega
        · have := KA.out.size; first | omega | (simp at h2; omega)⟩)
      have K5 := Lib.hid ((K.out.tr KA.out).trans k5 fun b e => .inr (GB.out b e).1)
      have O5 := Lib.hid ho5
      obtain ⟨a5, n5, c5, rfl⟩ := ho5.slice'
      have q0 : w5.cell? ⟨wr.heap.size, 0, none⟩ = some (.slice ua p1.length uc) := by simp [World.cell?, hq5]
      have q1 : w5.cell? ⟨wr.heap.size, 1, none⟩ = some (.slice va p2.length vc) := by simp [World.cell?, hq5]
      have LB5 := Lib.hid (show (imgK seed l k ++ [1, UInt8.ofNat p1.length]).length ≤ 900000002 by have := LB.out; simp; omega)
      have hv2 := HP.out.2
      have hwl := block_lt hq5
      clear ho5 k5 b5 hq5 e0 hb
      go_wp2_with fail
      refine (sllittle_calls (x := p2.length) (n := 2) O5.out (by omega) (by omega) (by omega) (by have := LB5.out; omega) K5.out.size).mono ?_
      rintro e w6 ⟨v6, rfl, o6, k6, b6⟩
      have K6 := Lib.hid (K5.out.trans k6 fun b e => .inr (NB.out b e).1)
      have nb : ¬ (Value.slice a5 n5 c5).ownBlock = some wr.heap.size := fun e => (NB.out _ e).2 rfl
      replace q0 := k6.cell (p := ⟨wr.heap.size, 0, none⟩) nb q0
      replace q1 := k6.cell (p := ⟨wr.heap.size, 1, none⟩) nb q1
      have NB6 := Lib.hid (show ∀ b, v6.ownBlock = some b → w1.heap.size ≤ b ∧ b ≠ wr.heap.size from fun b e => ⟨(o6.lt b e).1, fun h => by
        rcases b6 b e with h2 | h2
        · exact (NB.out b h2).2 h
        · omega⟩)
      have O6 := Lib.hid o6
      obtain ⟨a6, n6, c6, rfl⟩ := o6.slice'
      have LB6 := Lib.hid (show (imgK seed l k ++ [1, UInt8.ofNat p1.length] ++ leI p2.length 2).length ≤ 900000004 by have := LB5.out; rw [List.length_append, leI_len]; omega)
      have hg2 : wr.heap.size < w6.heap.size := by have := k6.size; omega
      clear o6 k6 b6 nb O5 K5 NB O K
      go_wp2_with fail
      refine wp_region_chain 7 [3, 6] (fun w' => w'.cell? ⟨wr.heap.size, 0, none⟩ = some (.slice ua p1.length uc) ∧ w'.cell? ⟨wr.heap.size, 1, none⟩ = some (.slice va p2.length vc)) (by kernel_rfl) (by kernel_rfl) ?_ ?_
      · exact ⟨q0, q1⟩
      refine SeqW.out ?_
      simp only [List.take_succ_cons, List.take_zero, List.drop_succ_cons, List.drop_zero]
      have kd := (Kept.refl Noneof w6).drew
      replace O6 := Lib.hid (O6.out.kept kd fun _ h => h.elim)
      replace K6 := Lib.hid (K6.out.tr kd)
      replace q0 := kd.cell (p := ⟨wr.heap.size, 0, none⟩) (fun h => h) q0
      replace q1 := kd.cell (p := ⟨wr.heap.size, 1, none⟩) (fun h => h) q1
      have hg2 : wr.heap.size < w6.drew.heap.size := hg2
      generalize w6.drew = w7 at *
      clear kd
      iterate 3 (refine SeqW.val (v := ?_) (by rfl) (by rfl) (fun wx hSw => ?_) ?_; rotate_left; (focus ((try dsimp only at hSw); go_simp; (try with_reducible rfl))); (try simp only [Act.put, List.setIfInBounds_toArray, List.set_cons_zero, List.set_cons_succ]))
      refine SeqW.act (by rfl) rfl (by rfl) (by rfl) (fun K hK => ?_)
      refine wp_app_bytes (ops := #[]) rfl (.tmp 46) (.tmp 48) _ rfl tBytes _ _ rfl O6.out _ p1 rfl (HU.out.still' K6.out) (by have := LB6.out; have := HP.out.1; omega) K6.out.size ?_
      intro v8 w8 o8 k8 b8
      have K8 := Lib.hid (K6.out.trans k8 fun b e => .inr (NB6.out b e).1)
      have nb : ¬ (Value.slice a6 n6 c6).ownBlock = some wr.heap.size := fun e => (NB6.out _ e).2 rfl
      replace q0 := k8.cell (p := ⟨wr.heap.size, 0, none⟩) nb q0
      replace q1 := k8.cell (p := ⟨wr.heap.size, 1, none⟩) nb q1
      have NB8 := Lib.hid (show ∀ b, v8.ownBlock = some b → w1.heap.size ≤ b ∧ b ≠ wr.heap.size from fun b e => ⟨(o8.lt b e).1, fun h => by
        rcases b8 b e with h2 | h2
        · exact (NB6.out b h2).2 h
        · omega⟩)
      have O8 := Lib.hid o8
      obtain ⟨a8, n8, c8, rfl⟩ := o8.slice'
      have LB8 := Lib.hid (show (imgK seed l k ++ [1, UInt8.ofNat p1.length] ++ leI p2.length 2 ++ p1).length ≤ 900000100 by have := LB6.out; have := HP.out.1; rw [List.length_append]; omega)
      refine hK.out _ _ ⟨q0, q1⟩ ?_
      clear K hK o8 k8 b8 nb O6 K6 NB6 hg2
      (try simp only [Act.put, List.setIfInBounds_toArray, List.set_cons_zero, List.set_cons_succ])
      iterate 2 (refine SeqW.val (v := ?_) (by rfl) (by rfl) (fun wx hSw => ?_) ?_; rotate_left; (focus ((try dsimp only at hSw); go_simp; (try with_reducible rfl))); (try simp only [Act.put, List.setIfInBounds_toArray, List.set_cons_zero, List.set_cons_succ]))
      refine SeqW.act (by rfl) rfl (by rfl) (by rfl) (fun K hK => ?_)
      refine wp_app_bytes (ops := #[]) rfl (.tmp 49) (.tmp 51) _ rfl tBytes _ _ rfl O8.out _ p2 rfl (HV.out.still' K8.out) (by have := LB8.out; have := HP.out.2; omega) K8.out.size ?_
      intro v9 w9 o9 k9 b9
      have K9 := Lib.hid (K8.out.trans k9 fun b e => .inr (NB8.out b e).1)
      have nb : ¬ (Value.slice a8 n8 c8).ownBlock = some wr.heap.size := fun e => (NB8.out _ e).2 rfl
      replace q0 := k9.cell (p := ⟨wr.heap.size, 0, none⟩) nb q0
      replace q1 := k9.cell (p := ⟨wr.heap.size, 1, none⟩) nb q1
      have O9 := Lib.hid (show Own 5 byteEl Noneof w1.heap.size w9 v9 (imgK seed l (k + 1)) by
        rw [← CE.out, ← T2.out]
        simpa only [List.append_assoc] using o9)
      obtain ⟨a9, n9, c9, rfl⟩ := o9.slice'
      refine hK.out _ _ ⟨q0, q1⟩ ?_
      clear K hK o9 k9 b9 nb O8 K8 NB8 q0 q1 CE T2 HU HV KA QA QB'
      (try simp only [Act.put, List.setIfInBounds_toArray, List.set_cons_zero, List.set_cons_succ])
      refine SeqW.nil ?_
      go_wp2
      go_roundw
      case rel => exact ⟨k + 1, by omega, by go_num, O9, K9⟩
      case measure => simp [intOf]; omega
  · obtain rfl : k = cells := by omega
    go_wp2
    go_ret
    exact ⟨_, rfl, by rw [← IA.out]; exact O.out.base K1.out.size, K1.out.tr K.out⟩
end Go.Proofs.Ytaopjdjbpamhhaa
/- Proved: contract of the table's Cells. Conditions: a table in memory. -/
namespace Go.Proofs.Ytaopjdjbpamhhaa
open Go Go.RowKit
set_option linter.unusedVariables false
set_option linter.unusedSimpArgs false

/-- Bytes that read as a list and may be written over. -/
def BW (D : Nat → Prop) (w : World) (v : Value) (l : Bts) : Prop := BV D w v l ∧ ∀ b o n c, v = .slice (some ⟨b, o, none⟩) n c → ∀ i, i < l.length → w.frozen? ⟨b, o + i, none⟩ = false
theorem BW.mono {D D' : Nat → Prop} {w w' : World} {v : Value} {l : Bts} (h : BW D w v l) (hw : ∀ b, D b → b < w.heap.size → D' b ∧ w'.heap[b]? = w.heap[b]?) : BW D' w' v l := by
  refine ⟨h.1.mono byteEl_k hw, fun b o n c e i hi => ?_⟩
  obtain ⟨a, c', e', _, _, rd⟩ := h.1
  obtain ⟨b', o', e2, db, hc⟩ := rd.byte hi
  rw [e] at e'
  simp only [Value.slice.injEq] at e'
  rw [← e'.1] at e2
  simp only [Option.some.injEq, Addr.mk.injEq, and_true] at e2
  obtain ⟨rfl, rfl⟩ := e2
  have := h.2 b o n c e i hi
  unfold World.frozen? at this ⊢
  rw [(hw b db (cell_lt hc)).2]
  exact this
theorem BW.nil (D : Nat → Prop) (w : World) : BW D w (.slice none 0 0) [] := ⟨⟨none, 0, rfl, ⟨Nat.le_refl _, fun _ => rfl⟩, by simp, Rd.nil _ _ _ _⟩, fun _ _ _ _ e => by cases e⟩
theorem Own.bw {D : Nat → Prop} {B : Nat} {w : World} {v : Value} {l : Bts} (h : Own 5 byteEl Noneof B w v l) (hD : ∀ b, v.ownBlock = some b → D b) : BW D w v l := by
  refine ⟨h.rd (fun _ h => h.elim) hD, fun b o n c e i hi => ?_⟩
  obtain ⟨_, _, _, xs, ⟨_, h2⟩, _⟩ := h
  rcases h2 with ⟨hh, _⟩ | ⟨g', cap, cur, hv, _, hh, _⟩
  · rw [e] at hh; cases hh
  · rw [hv] at e
    simp only [Value.slice.injEq, Option.some.injEq, Addr.mk.injEq, and_true] at e
    obtain ⟨⟨rfl, rfl⟩, _⟩ := e
    simp [World.frozen?, hh]
/-- A cell: whether it is full, its key, its value. -/
abbrev CellK := Bool × Bts × Bts
def cellEl : El CellK where
  k := 3
  R := fun D w cs x => ∃ u v, cs = [.bool x.1, u, v] ∧ BW D w u x.2.1 ∧ BW D w v x.2.2
  mono := fun hw ⟨u, v, h1, h2, h3⟩ => ⟨u, v, h1, h2.mono hw, h3.mono hw⟩
  len := fun ⟨u, v, h1, _⟩ => by rw [h1]; rfl
  one := fun ⟨u, v, h1, h2, h3⟩ x hx => by
    rw [h1] at hx
    simp only [List.mem_cons, List.not_mem_nil, or_false] at hx
    rcases hx with rfl | rfl | rfl
    · rfl
    · exact h2.1.cell1
    · exact h3.1.cell1
theorem cellEl_k : 0 < cellEl.k := by decide
theorem tCells : SlT Try.prog 39 78 3 56 (.agg #[.bool false, .slice none 0 0, .slice none 0 0]) := SlT.of (by kernel_rfl) (by kernel_rfl) rfl (by decide)
def cellT : Option (Bts × Bts) → CellK
  | none => (false, [], [])
  | some p => (true, p.1, p.2)
/-- A row of the call's own has all its cells, none of them frozen. -/
theorem Own.cellat {α : Type} {E : El α} {D : Nat → Prop} {e : TypeId} {B : Nat} {w : World} {g n c i j : Nat} {l : List α} (h : Own e E D B w (.slice (some ⟨g, 0, none⟩) n c) l) (hi : i < l.length) (hj : j < E.k) : (∃ u, w.cell? ⟨g, i * E.k + j, none⟩ = some u) ∧ w.frozen? ⟨g, i * E.k + j, none⟩ = false := by
  obtain ⟨hl, D0, h0, xs, ⟨h1, h2⟩, h3⟩ := h
  rcases h2 with ⟨hh, _⟩ | ⟨g', cap, cur, hv, hg, hh, hc, hm', hs, ht⟩
  · cases hh
  · simp only [Value.slice.injEq, Option.some.injEq, Addr.mk.injEq, and_true] at hv
    obtain ⟨rfl, rfl, rfl⟩ := hv
    have : i * E.k + j < cur.size := by
      rw [hs]
      have := Nat.mul_le_mul_right E.k (show i + 1 ≤ c by omega)
      rw [Nat.add_mul, Nat.one_mul] at this
      omega
    exact ⟨⟨cur[i * E.k + j], by simp [World.cell?, hh, this]⟩, by simp [World.frozen?, hh]⟩
/-- What the cells hold, up to the k-th; the others are free. -/
def cellsK (seed : Int) (l : List (Bts × Bts)) (cells k : Nat) : List CellK := ((celE seed l).take k).map cellT ++ List.replicate (cells - k) (false, [], [])
theorem cellsK_zero (seed : Int) (l : List (Bts × Bts)) (cells : Nat) : cellsK seed l cells 0 = List.replicate cells (false, [], []) := by simp [cellsK]
theorem cellsK_all {seed : Int} {l : List (Bts × Bts)} {cells : Nat} (h : cellsN l.length = cells) : cellsK seed l cells cells = (celE seed l).map cellT := by
  unfold cellsK
  rw [List.take_of_length_le (by rw [celE_len]; omega)]
  simp
theorem cellsK_len {seed : Int} {l : List (Bts × Bts)} {cells k : Nat} (h : cellsN l.length = cells) (hk : k ≤ cells) : (cellsK seed l cells k).length = cells := by
  unfold cellsK
  rw [List.length_append, List.length_map, List.length_take, celE_len, List.length_replicate]
  omega
theorem cellsK_set {seed : Int} {l : List (Bts × Bts)} {cells k : Nat} {x : Option (Bts × Bts)} (h : cellsN l.length = cells) (hk : k < cells) (hx : (celE seed l)[k]? = some x) : (cellsK seed l cells k).set k (cellT x) = cellsK seed l cells (k + 1) := by
  have ht : (((celE seed l).take k).map cellT).length = k := by rw [List.length_map, List.length_take, celE_len]; omega
  unfold cellsK
  rw [List.set_append_right _ _ (by omega), ht, Nat.sub_self, show cells - k = (cells - (k + 1)) + 1 by omega, List.replicate_succ, List.set_cons_zero, List.take_add_one, hx]
  simp
theorem cellsK_free {seed : Int} {l : List (Bts × Bts)} {cells k : Nat} (hk : k < cells) (hx : (celE seed l)[k]? = some none) : cellsK seed l cells k = cellsK seed l cells (k + 1) := by
  unfold cellsK
  rw [List.take_add_one, hx, show cells - k = (cells - (k + 1)) + 1 by omega, List.replicate_succ]
  simp [cellT]

set_option maxRecDepth 100000 in
set_option maxHeartbeats 4000000 in
theorem slCells_calls {seed : Int} {w : World} {t : Nat} {l : List (Bts × Bts)} {F : Nat → Prop} (h : TabAt seed w t l F) :
    Calls Try.prog 30 #[bp t] w fun e w' => ∃ v', e = .returned v' ∧ Own 78 cellEl (fun b => w.heap.size ≤ b) w.heap.size w' v' ((celE seed l).map cellT) ∧ Kept Noneof w w' := by
  have H := Lib.hid h
  obtain ⟨hlen, hok⟩ : l.length ≤ 100000 ∧ ∀ p ∈ l, okP p := by obtain ⟨_, _, _, _, h⟩ := h; exact ⟨h.len, h.ok⟩
  clear h hok
  obtain ⟨n, hn⟩ : ∃ n, l.length = n := ⟨_, rfl⟩
  replace hlen : n ≤ 100000 := by omega
  obtain ⟨cells, hce⟩ : ∃ c, cellsN l.length = c := ⟨_, rfl⟩
  have QB := Lib.hid (show cells ≤ 1048576 by have := (cellsN_spec (n := l.length) (by omega)).2.2.2.2; omega)
  have PL := Lib.hid (show (posE seed l).length = cells by rw [posE_len]; exact hce)
  have HLn := Lib.hid (show l.length ≤ 100000 by omega)
  have LD := Lib.hid (sllaid_calls H.out)
  rw [hn] at LD
  have hcn : cellsN n = cells := by rw [← hn]; exact hce
  rw [hcn] at LD
  have HCE := Lib.hid hce
  replace hn := Lib.hid hn
  clear hce hcn
  go_enter Try.func30, Try.ntmps30
  go_wp2_with fail
  refine (slnone_calls H.out).mono ?_
  rintro e w ⟨rfl, rfl⟩
  go_wp2_with fail
  refine LD.out.mono ?_
  rintro e w1 ⟨g, c, g2, rfl, sv, ho, k1⟩
  have SVH := Lib.hid ((sv.bd (entEl_k seed)))
  have PO := Lib.hid ho
  have K1 := Lib.hid k1
  have hqb := QB.out
  clear LD sv ho k1 H
  go_wp2_with (at_make; refine wl_make (E := cellEl) rfl _ _ _ rfl tCells (fun b => w1.heap.size ≤ b) w1.heap.size cells .i64 .i64 _ _ rfl rfl rfl rfl (false, [], []) (fun w => ⟨_, _, rfl, BW.nil _ _, BW.nil _ _⟩) ?b1 ?b2 ?b3 ?_)
  case b1 => omega
  case b2 => omega
  case b3 => exact Nat.le_refl _
  intro w2 g5 hown hk hg
  rw [← cellsK_zero seed l cells] at hown
  have O2 := Lib.hid hown
  have K2 := Lib.hid hk
  have HG := Lib.hid hg
  clear hown hk hg hqb
  go_wp2_with fail
  go_loopw [20] (fun kv wr => ∃ k : Nat, k ≤ cells ∧ kv = .int .i64 k ∧ Hid (Own 78 cellEl (fun b => w1.heap.size ≤ b) w1.heap.size wr (.slice (some ⟨g5, 0, none⟩) cells cells) (cellsK seed l cells k)) ∧ Hid (Kept Noneof w1 wr)) (fun kv _ => cells - (intOf kv).toNat)
  case atStart => exact ⟨0, Nat.zero_le _, rfl, O2, K2⟩
  clear O2 K2
  obtain ⟨k, hk, rfl, O, KW⟩ := hrel
  by_cases hlt : k < cells
  · have hlt' : (k : Int) < (cells : Int) := by omega
    have hcb := QB.out
    have hkp : k < (posE seed l).length := by rw [PL.out]; exact hlt
    obtain ⟨e0, _, _, _⟩ := (PO.out.kept KW.out fun _ h => h.elim).islot hkp
    rcases posE_val HLn.out hkp with hx | ⟨i, hi, hx⟩
    · have CE := Lib.hid (cellsK_free hlt (celE_free hkp (by omega)))
      rw [hx] at e0
      rw [CE.out] at O
      clear hx hkp
      go_wp2_with fail
      go_roundw
      case rel => exact ⟨k + 1, by omega, by go_num, O, KW⟩
      case measure => simp [intOf]; omega
    · have hiL : i < (sortE seed l).length := by rw [sortE_len]; exact hi
      have CE := Lib.hid (cellsK_set HCE.out hlt (celE_full hkp hx hiL))
      have CL := Lib.hid (cellsK_len (seed := seed) HCE.out hk)
      obtain ⟨_, _, hsl, _, _, rd⟩ := SVH.out
      simp only [Value.slice.injEq] at hsl
      obtain ⟨rfl, -, rfl⟩ := hsl
      obtain ⟨b, o, u, v, he, db, a0, a1, _, _, hu, hv⟩ := Rd.ent rd hiL
      simp only [Option.some.injEq, Addr.mk.injEq, and_true] at he
      obtain ⟨rfl, rfl⟩ := he
      simp only [Nat.zero_add] at a0 a1
      replace a0 := KW.out.cell (p := ⟨g, i * 4, none⟩) (fun h => h) a0
      replace a1 := KW.out.cell (p := ⟨g, i * 4 + 1, none⟩) (fun h => h) a1
      rw [hx] at e0
      generalize (sortE seed l)[i] = p at *
      obtain ⟨p1, p2⟩ := p
      simp only at hu hv
      have HU := Lib.hid hu
      have HV := Lib.hid hv
      obtain ⟨ua, un, uc, rfl⟩ := hu.sl
      obtain ⟨va, vn, vc, rfl⟩ := hv.sl
      have hin : (i : Int) < (n : Int) := by have := hn.out; omega
      have GB := Lib.hid (show g < w1.heap.size ∧ w1.heap.size ≤ g5 from ⟨db.2, HG.out⟩)
      clear hx hkp hiL rd db hu hv hi
      go_wp2_with fail
      refine wp_region_chain 17 [7, 13, 16] (fun w' => w'.cell? ⟨g, i * 4, none⟩ = some (.slice ua un uc) ∧ w'.cell? ⟨g, i * 4 + 1, none⟩ = some (.slice va vn vc)) (by kernel_rfl) (by kernel_rfl) ?_ ?_
      · exact ⟨a0, a1⟩
      refine SeqW.out ?_
      simp only [List.take_succ_cons, List.take_zero, List.drop_succ_cons, List.drop_zero]
      have kd := (Kept.refl Noneof wr).drew
      replace O := Lib.hid (O.out.kept kd fun _ h => h.elim)
      replace KW := Lib.hid (KW.out.tr kd)
      replace a0 := kd.cell (p := ⟨g, i * 4, none⟩) (fun h => h) a0
      replace a1 := kd.cell (p := ⟨g, i * 4 + 1, none⟩) (fun h => h) a1
      generalize wr.drew = wd at *
      clear kd e0
      iterate 7 (refine SeqW.val (v := ?_) (by rfl) (by rfl) (fun wx hSw => ?_) ?_; rotate_left; (focus ((try dsimp only at hSw); go_simp; (try with_reducible rfl))); (try simp only [Act.put, List.setIfInBounds_toArray, List.set_cons_zero, List.set_cons_succ]))
      refine SeqW.act (by rfl) rfl (by rfl) (by rfl) (fun K hK => ?_)
      go_simp
      refine (byClone_calls (HU.out.still' KW.out)).mono ?_
      rintro e wa ⟨x, rfl, ox, kx⟩
      have hg5 := (O.out.lt g5 rfl).2
      replace a0 := kx.cell (p := ⟨g, i * 4, none⟩) (fun h => h) a0
      replace a1 := kx.cell (p := ⟨g, i * 4 + 1, none⟩) (fun h => h) a1
      replace O := Lib.hid (O.out.kept kx fun _ h => h.elim)
      replace KW := Lib.hid (KW.out.tr kx)
      have OX := Lib.hid ox
      have SX := Lib.hid (show g5 < wd.heap.size ∧ wd.heap.size ≤ wa.heap.size from ⟨hg5, kx.size⟩)
      obtain ⟨xa, xn, xc, rfl⟩ := ox.slice'
      refine hK.out _ _ ⟨a0, a1⟩ ?_
      clear K hK ox kx hg5
      (try simp only [Act.put, List.setIfInBounds_toArray, List.set_cons_zero, List.set_cons_succ])
      iterate 5 (refine SeqW.val (v := ?_) (by rfl) (by rfl) (fun wx hSw => ?_) ?_; rotate_left; (focus ((try dsimp only at hSw); go_simp; (try with_reducible rfl))); (try simp only [Act.put, List.setIfInBounds_toArray, List.set_cons_zero, List.set_cons_succ]))
      refine SeqW.act (by rfl) rfl (by rfl) (by rfl) (fun K hK => ?_)
      go_simp
      refine (byClone_calls (HV.out.still' KW.out)).mono ?_
      rintro e wb ⟨y, rfl, oy, ky⟩
      replace a0 := ky.cell (p := ⟨g, i * 4, none⟩) (fun h => h) a0
      replace a1 := ky.cell (p := ⟨g, i * 4 + 1, none⟩) (fun h => h) a1
      replace O := Lib.hid (O.out.kept ky fun _ h => h.elim)
      replace KW := Lib.hid (KW.out.tr ky)
      replace OX := Lib.hid (OX.out.kept ky fun _ h => h.elim)
      have OY := Lib.hid oy
      obtain ⟨ya, yn, yc, rfl⟩ := oy.slice'
      refine hK.out _ _ ⟨a0, a1⟩ ?_
      clear K hK oy ky
      (try simp only [Act.put, List.setIfInBounds_toArray, List.set_cons_zero, List.set_cons_succ])
      iterate 2 (refine SeqW.val (v := ?_) (by rfl) (by rfl) (fun wx hSw => ?_) ?_; rotate_left; (focus ((try dsimp only at hSw); go_simp; (try with_reducible rfl))); (try simp only [Act.put, List.setIfInBounds_toArray, List.set_cons_zero, List.set_cons_succ]))
      have hkl : k < (cellsK seed l cells k).length := by rw [CL.out]; exact hlt
      obtain ⟨⟨u0, r0⟩, f0⟩ := O.out.cellat (j := 0) hkl (by show 0 < 3; decide)
      obtain ⟨⟨u1, r1⟩, f1⟩ := O.out.cellat (j := 1) hkl (by show 1 < 3; decide)
      obtain ⟨⟨u2, r2⟩, f2⟩ := O.out.cellat (j := 2) hkl (by show 2 < 3; decide)
      have k3 : cellEl.k = 3 := rfl
      rw [k3] at r0 f0 r1 f1 r2 f2
      simp only [Nat.add_zero] at r0 f0
      refine SeqW.act0 (by rfl) rfl (by rfl) (fun K hK => ?_)
      go_simp
      have KT := Lib.hid ((((Kept.refl (fun b => b = g5) wb).setCell (p := ⟨g5, k * 3, none⟩) (.inl rfl) (.bool true)).setCell (p := ⟨g5, k * 3 + 1, none⟩) (.inl rfl) (.slice xa xn xc)).setCell (p := ⟨g5, k * 3 + 2, none⟩) (.inl rfl) (.slice ya yn yc))
      have hne : ¬ g = g5 := by have := GB.out; omega
      have OS : Own 78 cellEl (fun b => w1.heap.size ≤ b) w1.heap.size (((wb.setCell ⟨g5, k * 3, none⟩ (.bool true)).setCell ⟨g5, k * 3 + 1, none⟩ (.slice xa xn xc)).setCell ⟨g5, k * 3 + 2, none⟩ (.slice ya yn yc)) (.slice (some ⟨g5, 0, none⟩) cells cells) ((cellsK seed l cells k).set k (cellT (some (p1, p2)))) := by
        refine O.out.setc (cs := [.bool true, .slice xa xn xc, .slice ya yn yc]) hkl rfl (D' := fun b => wd.heap.size ≤ b) ⟨_, _, rfl, ?_, ?_⟩ (fun b h _ => ⟨by have := SX.out; have := GB.out; omega, fun e => by have e : b = g5 := e; have h : wd.heap.size ≤ b := h; have := SX.out; omega⟩) KT.out fun cur hcur => ?_
        · refine (OX.out.bw (D := fun b => wd.heap.size ≤ b ∧ b ≠ g5) fun b h => ⟨(OX.out.lt b h).1, fun e => by have := (OX.out.lt b h).1; have := SX.out; omega⟩).mono fun b h hl => ⟨h.1, KT.out.block b hl h.2⟩
        · refine (OY.out.bw (D := fun b => wd.heap.size ≤ b ∧ b ≠ g5) fun b h => ⟨by have := (OY.out.lt b h).1; have := SX.out; omega, fun e => by have := (OY.out.lt b h).1; have := SX.out; omega⟩).mono fun b h hl => ⟨h.1, KT.out.block b hl h.2⟩
        · rw [setCell_obj (setCell_obj (setCell_obj hcur _) _) _, k3]
          rfl
      rw [CE.out] at OS
      have OS := Lib.hid OS
      have KZ := Lib.hid (KW.out.trans KT.out fun b e => .inr (by have := GB.out; omega))
      refine hK.out _ ⟨KT.out.cell (p := ⟨g, i * 4, none⟩) hne a0, KT.out.cell (p := ⟨g, i * 4 + 1, none⟩) hne a1⟩ ?_
      clear K hK
      generalize (((wb.setCell _ _).setCell _ _).setCell _ _) = wz at *
      (try simp only [Act.put, List.setIfInBounds_toArray, List.set_cons_zero, List.set_cons_succ])
      refine SeqW.nil ?_
      clear r0 r1 r2 f0 f1 f2 OX OY O KW KT a0 a1 CE CL
      go_wp2
      go_roundw
      case rel => exact ⟨k + 1, by omega, by go_num, OS, KZ⟩
      case measure => simp [intOf]; omega
  · obtain rfl : k = cells := by omega
    go_wp2
    go_ret
    refine ⟨_, rfl, ?_, K1.out.tr KW.out⟩
    rw [← cellsK_all HCE.out]
    exact (O.out.base K1.out.size).wide fun b h => Nat.le_trans K1.out.size h
end Go.Proofs.Ytaopjdjbpamhhaa
/- Proved: contract of the table's Looks. Conditions: a table and a key in memory. -/
namespace Go.Proofs.Ytaopjdjbpamhhaa
open Go Go.RowKit
set_option linter.unusedVariables false
set_option linter.unusedSimpArgs false

/-- The first number from k on that p takes. -/
def firstS (p : Nat → Bool) : Nat → Nat → Nat
  | 0, k => k
  | f + 1, k => if p k = true then k else firstS p f (k + 1)
theorem firstS_at {p : Nat → Bool} : ∀ (f k m : Nat), k ≤ m → m < k + f → (∀ j, k ≤ j → j < m → p j = false) → p m = true → firstS p f k = m
  | 0, k, m, _, _, _, _ => by omega
  | f + 1, k, m, h1, h2, h3, h4 => by
    rw [firstS]
    by_cases e : k = m
    · subst e; rw [if_pos h4]
    · rw [if_neg (by rw [h3 k (Nat.le_refl _) (by omega)]; simp)]
      exact firstS_at f (k + 1) m (by omega) (by omega) (fun j a b => h3 j (by omega) b) h4
/-- Whether a cell ends the search for a key. -/
def stopE (seed : Int) (key : Bts) : Option (Bts × Bts) → Bool
  | none => true
  | some p => decide (ordE seed (key, []) p ≤ 0)
def cellAt (seed : Int) (l : List (Bts × Bts)) (c : Nat) : Option (Bts × Bts) := (celE seed l).getD c none
def stopAt (seed : Int) (l : List (Bts × Bts)) (key : Bts) (j : Nat) : Bool := stopE seed key (cellAt seed l (stepC (cellsN l.length) (hmE seed (cellsN l.length) key) j))
/-- How many cells are looked at. -/
def looksE (seed : Int) (l : List (Bts × Bts)) (key : Bts) : Nat := firstS (stopAt seed l key) (cellsN l.length) 0 + 1
theorem looksE_perm {seed : Int} {l m : List (Bts × Bts)} {key : Bts} (hk : Keyd l) (h : l.Perm m) : looksE seed l key = looksE seed m key := by
  have e : stopAt seed l key = stopAt seed m key := by
    funext j
    unfold stopAt cellAt
    rw [celE_perm hk h, h.length_eq]
  unfold looksE
  rw [e, h.length_eq]
theorem cellAt_free {seed : Int} {l : List (Bts × Bts)} {c : Nat} (hc : c < (posE seed l).length) (h : (posE seed l)[c] < 0) : cellAt seed l c = none := by
  unfold cellAt
  rw [List.getD_eq_getElem?_getD, celE_free hc h]
  rfl
theorem cellAt_full {seed : Int} {l : List (Bts × Bts)} {c i : Nat} (hc : c < (posE seed l).length) (h : (posE seed l)[c] = (i : Int)) (hi : i < (sortE seed l).length) : cellAt seed l c = some (sortE seed l)[i] := by
  unfold cellAt
  rw [List.getD_eq_getElem?_getD, celE_full hc h hi]
  rfl
/-- A free cell ends every search. -/
theorem stop_some {seed : Int} {l : List (Bts × Bts)} {key : Bts} (hn : l.length ≤ 100000) : ∃ m, m < cellsN l.length ∧ stopAt seed l key m = true := by
  obtain ⟨_, c8, c4, _, _⟩ := cellsN_spec hn
  obtain ⟨c, hc, hf⟩ := (posE_laid (seed := seed) hn).free (by simp; omega)
  obtain ⟨m, hm, rfl⟩ := stepC_of (hmE_lt seed key (show 0 < cellsN l.length by omega)) hc
  refine ⟨m, hm, ?_⟩
  have hcp : stepC (cellsN l.length) (hmE seed (cellsN l.length) key) m < (posE seed l).length := by rw [posE_len]; exact hc
  unfold stopAt
  rw [cellAt_free hcp ?_]
  · rfl
  · rw [fullC_of hcp] at hf
    simpa using hf

set_option maxRecDepth 100000 in
set_option maxHeartbeats 4000000 in
theorem slLooks_calls {seed : Int} {w : World} {t : Nat} {l : List (Bts × Bts)} {F D1 : Nat → Prop} {kv : Value} {key : Bts} (h : TabAt seed w t l F) (h1 : BV D1 w kv key) :
    Calls Try.prog 39 #[bp t, kv] w fun e w' => e = .returned (.int .i64 (looksE seed l key)) ∧ Kept Noneof w w' := by
  have H := Lib.hid h
  have HK := Lib.hid h1
  obtain ⟨ka, kn, kc, rfl⟩ := h1.sl
  have hlen : l.length ≤ 100000 := by obtain ⟨_, _, _, _, h⟩ := h; exact h.len
  clear h h1
  obtain ⟨n, hn⟩ : ∃ n, l.length = n := ⟨_, rfl⟩
  replace hlen : n ≤ 100000 := by omega
  obtain ⟨cells, hce⟩ : ∃ c, cellsN l.length = c := ⟨_, rfl⟩
  obtain ⟨hh, hhe⟩ : ∃ x, hmE seed cells key = x := ⟨_, rfl⟩
  have hq := (cellsN_spec (n := l.length) (by omega))
  have QB := Lib.hid (show 8 ≤ cells ∧ cells ≤ 1048576 by omega)
  have PL := Lib.hid (show (posE seed l).length = cells by rw [posE_len]; exact hce)
  have HLn := Lib.hid (show l.length ≤ 100000 by omega)
  have HHL := Lib.hid (show hh < cells by rw [← hhe]; exact hmE_lt _ _ (by omega))
  have SA := Lib.hid (show ∀ j, stopAt seed l key j = stopE seed key (cellAt seed l (stepC cells hh j)) from fun j => by unfold stopAt; rw [hce, hhe])
  have SM := Lib.hid (stop_some (seed := seed) (key := key) HLn.out)
  have LE := Lib.hid (show ∀ m, m < cells → (∀ j, j < m → stopAt seed l key j = false) → stopAt seed l key m = true → looksE seed l key = m + 1 from fun m a b c => by unfold looksE; rw [hce, firstS_at cells 0 m (by omega) (by omega) (fun j _ h => b j h) c])
  rw [hce] at SM
  have HE := Lib.hid (show (coin seed 1 key % (cells : Int)) = (hh : Int) by rw [← hhe]; unfold hmE; have := Int.emod_nonneg (coin seed 1 key) (show (cells : Int) ≠ 0 by omega); omega)
  have LD := Lib.hid (sllaid_calls H.out)
  rw [hn] at LD
  have hcn : cellsN n = cells := by rw [← hn]; exact hce
  rw [hcn] at LD
  obtain ⟨res, hres⟩ : ∃ r, looksE seed l key = r := ⟨_, rfl⟩
  rw [hres]
  rw [hres] at LE
  replace hn := Lib.hid hn
  clear hce hcn hq hhe hres
  obtain ⟨_, _, cs, _⟩ := H.out.cells
  go_enter Try.func39, Try.ntmps39
  go_wp2_with fail
  refine (slnone_calls H.out).mono ?_
  rintro e w ⟨rfl, rfl⟩
  go_wp2_with fail
  refine LD.out.mono ?_
  rintro e w1 ⟨g, c, g2, rfl, sv, ho, k1⟩
  have SVH := Lib.hid ((sv.bd (entEl_k seed)))
  have PO := Lib.hid ho
  have K1 := Lib.hid k1
  have CS := Lib.hid (k1.cell (p := ⟨t, 1, none⟩) (fun h => h) cs)
  clear LD sv ho k1 H cs
  go_wp2_with fail
  refine (slentry_calls (v := []) CS.out (HK.out.still' K1.out) (BV.nil Noneof _)).mono ?_
  rintro e w2 ⟨kx, vx, rfl, okx, ovx, k2⟩
  unfold entV
  have HX := Lib.hid (okx.rd (D' := fun _ => True) (fun _ _ => trivial) (fun _ _ => trivial))
  have HY := Lib.hid (ovx.rd (D' := fun _ => True) (fun _ _ => trivial) (fun _ _ => trivial))
  obtain ⟨xa, xn, xc, rfl⟩ := okx.slice'
  obtain ⟨ya, yn, yc, rfl⟩ := ovx.slice'
  have K2 := Lib.hid k2
  clear okx ovx k2 CS
  obtain ⟨r1, r2⟩ := coin_range seed 1 key
  have kA := (Kept.refl Noneof w2).alloc (.cells #[.slice xa xn xc, .slice ya yn yc, .int .u64 (coin seed 1 key), .int .u64 (coin seed 2 key)] 138)
  have qA := heap_alloc_new w2 (.cells #[.slice xa xn xc, .slice ya yn yc, .int .u64 (coin seed 1 key), .int .u64 (coin seed 2 key)] 138)
  have hqb := QB.out
  have w1' : IntKind.u64.wrap (cells : Int) = (cells : Int) := IntWalk.u64_in _ ⟨by omega, by omega⟩
  have hz : ((cells : Int) == 0) = false := by simp; omega
  have m1 := Int.emod_lt_of_pos (coin seed 1 key) (show (0 : Int) < cells by omega)
  have m2 := Int.emod_nonneg (coin seed 1 key) (show (cells : Int) ≠ 0 by omega)
  have KA := Lib.hid kA
  have QA := Lib.hid qA
  clear kA qA
  go_upto_region 7 with (fail)
  rw [HE.out]
  clear w1' m1 m2 r1 r2 HE
  generalize w2.alloc (.cells #[.slice xa xn xc, .slice ya yn yc, .int .u64 (coin seed 1 key), .int .u64 (coin seed 2 key)] 138) = w3 at *
  have b0 : w3.cell? ⟨w2.heap.size, 0, none⟩ = some (.slice xa xn xc) := by simp [World.cell?, QA.out]
  have b1 : w3.cell? ⟨w2.heap.size, 1, none⟩ = some (.slice ya yn yc) := by simp [World.cell?, QA.out]
  have b2 : w3.cell? ⟨w2.heap.size, 2, none⟩ = some (.int .u64 (coin seed 1 key)) := by simp [World.cell?, QA.out]
  have b3 : w3.cell? ⟨w2.heap.size, 3, none⟩ = some (.int .u64 (coin seed 2 key)) := by simp [World.cell?, QA.out]
  have EB := Lib.hid (And.intro b0 (And.intro b1 (And.intro b2 b3)))
  clear b0 b1 b2 b3 QA hqb
  generalize w2.heap.size = be at *
  go_wp2_with fail
  go_loopw [10] (fun jv wr => ∃ j : Nat, j < cells ∧ jv = .int .i64 ((j : Int) + 1) ∧ Hid (∀ i, i < j → stopAt seed l key i = false) ∧ Hid (Kept Noneof w3 wr)) (fun jv _ => cells + 1 - (intOf jv).toNat)
  case atStart => exact ⟨0, by have := QB.out; omega, rfl, Lib.hid (fun _ h => by omega), Lib.hid (Kept.refl _ _)⟩
  obtain ⟨j, hj, rfl, NS, KW⟩ := hrel
  have hqb := QB.out
  have hhl := HHL.out
  obtain ⟨s, hs⟩ : ∃ s, stepC cells hh j = s := ⟨_, rfl⟩
  have hsl : s < cells := by rw [← hs]; exact stepC_lt (by omega)
  have hkp : s < (posE seed l).length := by rw [PL.out]; exact hsl
  obtain ⟨e0, _, _, _⟩ := (PO.out.kept ((K2.out.tr KA.out).tr KW.out) fun _ h => h.elim).islot hkp
  have hsm : (hh + j) % cells = s := hs
  replace hsm := Lib.hid hsm
  have SJ := Lib.hid (SA.out j)
  rw [hs] at SJ
  have LJ := Lib.hid (fun h => LE.out j hj NS.out h)
  have NX := Lib.hid (show stopAt seed l key j = false → j + 1 < cells from fun h => by
    obtain ⟨m, hm, ht⟩ := SM.out
    refine Nat.lt_of_le_of_lt ?_ hm
    refine Classical.byContradiction fun hc => ?_
    by_cases e : m = j
    · rw [e, h] at ht; cases ht
    · rw [NS.out m (by omega)] at ht; cases ht)
  have SX : ∃ x, (posE seed l)[s] = x ∧ (x = -1 ∧ cellAt seed l s = none ∨ ∃ i : Nat, ∃ hi : i < (sortE seed l).length, x = (i : Int) ∧ cellAt seed l s = some (sortE seed l)[i]) := by
    refine ⟨_, rfl, ?_⟩
    rcases posE_val HLn.out hkp with h | ⟨i, hi, h⟩
    · exact .inl ⟨h, cellAt_free hkp (by omega)⟩
    · have hiL : i < (sortE seed l).length := by rw [sortE_len]; exact hi
      exact .inr ⟨i, hiL, h, cellAt_full hkp h hiL⟩
  obtain ⟨x, hx, hcase⟩ := SX
  rw [hx, ← hsm.out] at e0
  clear hx hs hkp
  have m1 : ((hh : Int) + ((j : Int) + 1) - 1) % (cells : Int) < (cells : Int) := Int.emod_lt_of_pos _ (by omega)
  have m2 : 0 ≤ ((hh : Int) + ((j : Int) + 1) - 1) % (cells : Int) := Int.emod_nonneg _ (by omega)
  rcases hcase with ⟨rfl, hce⟩ | ⟨i, hi, rfl, hce⟩
  · rw [hce] at SJ
    have ST := Lib.hid (LJ.out (by rw [SJ.out]; rfl))
    clear hce
    go_wp2_with fail
    refine wp_region_chain 11 [8] (fun _ => True) (by kernel_rfl) (by kernel_rfl) ?_ ?_
    · trivial
    refine SeqW.out ?_
    simp only [List.take_succ_cons, List.take_zero, List.drop_succ_cons, List.drop_zero]
    have kd := Lib.hid ((Kept.refl Noneof wr).drew)
    generalize wr.drew = wd at *
    iterate 3 (refine SeqW.val (v := ?_) (by rfl) (by rfl) (fun wx hSw => ?_) ?_; rotate_left; (focus ((try dsimp only at hSw); go_simp; (try with_reducible rfl))); (try simp only [Act.put, List.setIfInBounds_toArray, List.set_cons_zero, List.set_cons_succ]))
    iterate 7 (refine SeqW.skip (by rfl) ?_; (try simp only [Act.put, List.setIfInBounds_toArray, List.set_cons_zero, List.set_cons_succ]))
    (refine SeqW.val (v := ?_) (by rfl) (by rfl) (fun wx hSw => ?_) ?_; rotate_left; (focus ((try dsimp only at hSw); go_simp; (try with_reducible rfl))); (try simp only [Act.put, List.setIfInBounds_toArray, List.set_cons_zero, List.set_cons_succ]))
    refine SeqW.nil ?_
    clear e0
    go_wp2
    go_ret
    exact ⟨by rw [ST.out]; rfl, (((K1.out.tr K2.out).tr KA.out).tr KW.out).tr kd.out⟩
  · have hin : (i : Int) < (n : Int) := by have := hn.out; rw [sortE_len] at hi; omega
    obtain ⟨_, _, hsl2, _, _, rd⟩ := SVH.out
    simp only [Value.slice.injEq] at hsl2
    obtain ⟨rfl, -, rfl⟩ := hsl2
    obtain ⟨b, o, u, v, he, _, a0, a1, a2, a3, hu, hv⟩ := Rd.ent rd hi
    simp only [Option.some.injEq, Addr.mk.injEq, and_true] at he
    obtain ⟨rfl, rfl⟩ := he
    simp only [Nat.zero_add] at a0 a1 a2 a3
    have K3 := (K2.out.tr KA.out).tr KW.out
    replace a0 := K3.cell (p := ⟨g, i * 4, none⟩) (fun h => h) a0
    replace a1 := K3.cell (p := ⟨g, i * 4 + 1, none⟩) (fun h => h) a1
    replace a2 := K3.cell (p := ⟨g, i * 4 + 2, none⟩) (fun h => h) a2
    replace a3 := K3.cell (p := ⟨g, i * 4 + 3, none⟩) (fun h => h) a3
    rw [hce] at SJ
    clear hce K3
    generalize (sortE seed l)[i] = p at *
    obtain ⟨p1, p2⟩ := p
    simp only at hu hv a2 a3
    have HU := Lib.hid hu
    have HV := Lib.hid hv
    obtain ⟨ua, un, uc, rfl⟩ := hu.sl
    obtain ⟨va, vn, vc, rfl⟩ := hv.sl
    have SJ2 := Lib.hid (show stopAt seed l key j = decide (ordE seed (key, []) (p1, p2) ≤ 0) from SJ.out)
    obtain ⟨b0, b1, b2, b3⟩ := EB.out
    replace b0 := KW.out.cell (p := ⟨be, 0, none⟩) (fun h => h) b0
    replace b1 := KW.out.cell (p := ⟨be, 1, none⟩) (fun h => h) b1
    replace b2 := KW.out.cell (p := ⟨be, 2, none⟩) (fun h => h) b2
    replace b3 := KW.out.cell (p := ⟨be, 3, none⟩) (fun h => h) b3
    clear hu hv rd SJ
    go_wp2_with fail
    refine wp_region_chain 11 [8] (fun w' => w'.cell? ⟨be, 0, none⟩ = some (.slice xa xn xc) ∧ w'.cell? ⟨be, 1, none⟩ = some (.slice ya yn yc) ∧ w'.cell? ⟨be, 2, none⟩ = some (.int .u64 (coin seed 1 key)) ∧ w'.cell? ⟨be, 3, none⟩ = some (.int .u64 (coin seed 2 key)) ∧ w'.cell? ⟨g, i * 4, none⟩ = some (.slice ua un uc) ∧ w'.cell? ⟨g, i * 4 + 1, none⟩ = some (.slice va vn vc) ∧ w'.cell? ⟨g, i * 4 + 2, none⟩ = some (.int .u64 (coin seed 1 p1)) ∧ w'.cell? ⟨g, i * 4 + 3, none⟩ = some (.int .u64 (coin seed 2 p1))) (by kernel_rfl) (by kernel_rfl) ?_ ?_
    · exact ⟨b0, b1, b2, b3, a0, a1, a2, a3⟩
    refine SeqW.out ?_
    simp only [List.take_succ_cons, List.take_zero, List.drop_succ_cons, List.drop_zero]
    have kd := ((Kept.refl Noneof wr).drew)
    replace b0 := kd.cell (p := ⟨be, 0, none⟩) (fun h => h) b0
    replace b1 := kd.cell (p := ⟨be, 1, none⟩) (fun h => h) b1
    replace b2 := kd.cell (p := ⟨be, 2, none⟩) (fun h => h) b2
    replace b3 := kd.cell (p := ⟨be, 3, none⟩) (fun h => h) b3
    replace a0 := kd.cell (p := ⟨g, i * 4, none⟩) (fun h => h) a0
    replace a1 := kd.cell (p := ⟨g, i * 4 + 1, none⟩) (fun h => h) a1
    replace a2 := kd.cell (p := ⟨g, i * 4 + 2, none⟩) (fun h => h) a2
    replace a3 := kd.cell (p := ⟨g, i * 4 + 3, none⟩) (fun h => h) a3
    have KD := Lib.hid (KW.out.tr kd)
    generalize wr.drew = wd at *
    clear kd e0
    iterate 8 (refine SeqW.val (v := ?_) (by rfl) (by rfl) (fun wx hSw => ?_) ?_; rotate_left; (focus ((try dsimp only at hSw); go_simp; (try with_reducible rfl))); (try simp only [Act.put, List.setIfInBounds_toArray, List.set_cons_zero, List.set_cons_succ]))
    refine SeqW.act (by rfl) rfl (by rfl) (by rfl) (fun K hK => ?_)
    go_simp
    have K4 := Lib.hid ((K2.out.tr KA.out).tr KD.out)
    refine (slorder_calls (seed := seed) (p := (key, [])) (q := (p1, p2)) (D := fun _ => True) ((HX.out.still' KA.out).still' KD.out) ((HY.out.still' KA.out).still' KD.out) ((HU.out.wide byteEl_k fun _ _ _ => trivial).still' K4.out) ((HV.out.wide byteEl_k fun _ _ _ => trivial).still' K4.out)).mono ?_
    rintro e we ⟨rfl, ge⟩
    have ke := ge.kept
    replace b0 := ke.cell (p := ⟨be, 0, none⟩) (fun h => h) b0
    replace b1 := ke.cell (p := ⟨be, 1, none⟩) (fun h => h) b1
    replace b2 := ke.cell (p := ⟨be, 2, none⟩) (fun h => h) b2
    replace b3 := ke.cell (p := ⟨be, 3, none⟩) (fun h => h) b3
    replace a0 := ke.cell (p := ⟨g, i * 4, none⟩) (fun h => h) a0
    replace a1 := ke.cell (p := ⟨g, i * 4 + 1, none⟩) (fun h => h) a1
    replace a2 := ke.cell (p := ⟨g, i * 4 + 2, none⟩) (fun h => h) a2
    replace a3 := ke.cell (p := ⟨g, i * 4 + 3, none⟩) (fun h => h) a3
    refine hK.out _ _ ⟨b0, b1, b2, b3, a0, a1, a2, a3⟩ ?_
    have KE := Lib.hid (KD.out.tr ke)
    clear K hK ge ke a0 a1 a2 a3 b0 b1 b2 b3 K4 KD
    (try simp only [Act.put, List.setIfInBounds_toArray, List.set_cons_zero, List.set_cons_succ])
    generalize ordE seed (key, []) (p1, p2) = z at *
    by_cases hz0 : z ≤ 0
    · have ST := Lib.hid (LJ.out (by rw [SJ2.out]; exact decide_eq_true hz0))
      iterate 2 (refine SeqW.val (v := ?_) (by rfl) (by rfl) (fun wx hSw => ?_) ?_; rotate_left; (focus ((try dsimp only at hSw); go_simp; (try with_reducible rfl))); (try simp only [Act.put, List.setIfInBounds_toArray, List.set_cons_zero, List.set_cons_succ]))
      refine SeqW.nil ?_
      go_wp2
      go_ret
      exact ⟨by rw [ST.out]; rfl, ((K1.out.tr K2.out).tr KA.out).tr KE.out⟩
    · have hsf := (SJ2.out.trans (decide_eq_false hz0))
      have NN := Lib.hid (NX.out hsf)
      have NS2 := Lib.hid (show ∀ i, i < j + 1 → stopAt seed l key i = false from fun i hi => by
        rcases Nat.lt_or_ge i j with h | h
        · exact NS.out i h
        · obtain rfl : i = j := by omega
          exact hsf)
      clear hsf
      iterate 2 (refine SeqW.val (v := ?_) (by rfl) (by rfl) (fun wx hSw => ?_) ?_; rotate_left; (focus ((try dsimp only at hSw); go_simp; (try with_reducible rfl))); (try simp only [Act.put, List.setIfInBounds_toArray, List.set_cons_zero, List.set_cons_succ]))
      refine SeqW.nil ?_
      go_wp2
      go_roundw
      case rel => exact ⟨j + 1, NN.out, by go_num, NS2, KE⟩
      case measure => simp [intOf]; omega
end Go.Proofs.Ytaopjdjbpamhhaa
/- Proved: the law function awake of chapter 01 returns true. No condition. -/
namespace Go.Proofs.Ytaopjdjbpamhhaa
open Go Go.RowKit
set_option linter.unusedVariables false
set_option linter.unusedSimpArgs false

theorem awk1 : coin 0 0 [] = 16294208416658607535 := by decide +kernel
theorem awk2 : ((celE 5 []).map cellT).length = 8 := by decide +kernel
theorem awk3 : (imgT 5 []).length = 12 := by decide +kernel
theorem awk5 : (imgT 5 [([97], [120, 121])]).length = 18 := by decide +kernel
theorem awk6 : looksE 5 [([97], [120, 121])] [97] = 1 := by decide +kernel
theorem bv_lit {w : World} {b : Nat} {cs : Array Value} {t : TypeId} {f : Nat × Nat} {l : Bts} (h : w.heap[b]? = some (.cells cs t f)) (hc : cs = (l.map fun x => Value.int .u8 ((x.toNat : Nat) : Int)).toArray) (hl : l.length ≤ 100000) : BV (fun x => x = b) w (.slice (some ⟨b, 0, none⟩) l.length l.length) l := by
  refine ⟨_, l.length, rfl, ⟨Nat.le_refl _, fun h => by cases h⟩, by omega, fun i hi => ⟨b, 0, [.int .u8 ((l[i].toNat : Nat) : Int)], rfl, rfl, fun j hj => ?_, rfl⟩⟩
  obtain rfl : j = 0 := by simpa using hj
  subst hc
  simp [World.cell?, h, byteEl, hi]

set_option maxRecDepth 100000 in
set_option maxHeartbeats 4000000 in
theorem l1awake_calls (w : World) : Calls Try.prog 23 #[] w fun e w' => e = .returned (.bool true) ∧ Kept Noneof w w' := by
  go_enter Try.func23, Try.ntmps23
  go_wp2_with fail
  refine (slNew_calls (seed := 5)).mono ?_
  rintro e w1 ⟨rfl, t1, k1, s1⟩
  have T1 := Lib.hid t1
  have K1 := Lib.hid k1
  have S1 := Lib.hid s1
  generalize hB : w.heap.size = B at *
  replace hB := Lib.hid hB
  clear t1 k1 s1
  go_wp2_with fail
  refine (slCoin_calls (BV.nil Noneof _)).mono ?_
  rintro e w2 ⟨rfl, d2⟩
  rw [awk1]
  have k2 := (Kept.refl Noneof w1).drewn d2
  have T2 := Lib.hid (T1.out.still k2)
  have K2 := Lib.hid (K1.out.tr k2)
  have M2 := Lib.hid k2
  clear d2 k2
  go_wp2_with fail
  refine (slLen_calls T2.out).mono ?_
  rintro e w2 ⟨rfl, rfl⟩
  go_wp2_with fail
  refine (slCells_calls T2.out).mono ?_
  rintro e w3 ⟨v3, rfl, o3, k3⟩
  obtain ⟨a3, c3, rfl⟩ := o3.slice
  rw [awk2]
  have T3 := Lib.hid (T2.out.still k3)
  have K3 := Lib.hid (K2.out.tr k3)
  have M3 := Lib.hid (M2.out.tr k3)
  clear o3 k3 T2 K2
  go_wp2_with fail
  refine (slImage_calls T3.out).mono ?_
  rintro e w4 ⟨v4, rfl, o4, k4⟩
  obtain ⟨a4, c4, rfl⟩ := o4.slice
  rw [awk3]
  have T4 := Lib.hid (T3.out.still k4)
  have K4 := Lib.hid (K3.out.tr k4)
  have M4 := Lib.hid (M3.out.tr k4)
  clear o4 k4 T3 K3
  go_wp2_with fail
  have kA := (Kept.refl Noneof w4).alloc (.cells #[.int .u8 97] 5)
  have qA := heap_alloc_new w4 (.cells #[.int .u8 97] 5)
  have sA : (w4.alloc (.cells #[.int .u8 97] 5)).heap.size = w4.heap.size + 1 := by simp
  have kB := (Kept.refl Noneof (w4.alloc (.cells #[.int .u8 97] 5))).alloc (.cells #[.int .u8 120, .int .u8 121] 5)
  have qB := heap_alloc_new (w4.alloc (.cells #[.int .u8 97] 5)) (.cells #[.int .u8 120, .int .u8 121] 5)
  rw [sA] at qB
  have qA := kB.obj (fun h => h) qA
  have s4 := K4.out.size
  have PT := Lib.hid (slPut_calls (T4.out.still (kA.tr kB)) (bv_lit (l := [97]) qA rfl (by decide)) (bv_lit (l := [120, 121]) qB rfl (by decide)) (fun b e h => by have h2 := h.2; have := M4.out.size; omega) (by decide) (.inr (by decide)))
  have K5 := Lib.hid (K4.out.tr (kA.tr kB))
  clear kA qA sA kB qB T4 K4 s4
  refine PT.out.mono ?_
  rintro e w5 ⟨rfl, F', t5, hF', k5⟩
  have e5 : tput [] [97] [120, 121] = [([97], [120, 121])] := by decide
  rw [e5] at t5
  have T5 := Lib.hid t5
  have K6 := Lib.hid (show Kept Noneof w w5 from K5.out.trans k5 fun b h => .inr (by have := h.1; have := hB.out; omega))
  clear t5 k5 hF' PT K5
  go_wp2_with fail
  refine (slLen_calls T5.out).mono ?_
  rintro e w5 ⟨rfl, rfl⟩
  go_wp2_with fail
  refine (slImage_calls T5.out).mono ?_
  rintro e w6 ⟨v6, rfl, o6, k6⟩
  obtain ⟨a6, c6, rfl⟩ := o6.slice
  rw [awk5]
  have T6 := Lib.hid (T5.out.still k6)
  have K7 := Lib.hid (K6.out.tr k6)
  clear o6 k6 T5 K6
  go_wp2_with fail
  have kA := (Kept.refl Noneof w6).alloc (.cells #[.int .u8 97] 5)
  have qA := heap_alloc_new w6 (.cells #[.int .u8 97] 5)
  refine (slLooks_calls (T6.out.still kA) (bv_lit (l := [97]) qA rfl (by decide))).mono ?_
  rintro e w7 ⟨rfl, k7⟩
  rw [awk6]
  have T7 := Lib.hid ((T6.out.still kA).still k7)
  have K8 := Lib.hid ((K7.out.tr kA).tr k7)
  clear kA qA k7 T6 K7
  go_wp2_with fail
  have kA := (Kept.refl Noneof w7).alloc (.cells #[.int .u8 97] 5)
  have qA := heap_alloc_new w7 (.cells #[.int .u8 97] 5)
  refine (slGet_calls (T7.out.still kA) (bv_lit (l := [97]) qA rfl (by decide))).mono ?_
  rintro e w8 ⟨hg, k8⟩
  have K9 := Lib.hid ((K8.out.tr kA).tr k8)
  rcases hg with ⟨x, v8, hx, rfl, o8⟩ | ⟨hx, _⟩
  · have hx : x = [120, 121] := by
      have : tget [([97], [120, 121])] [97] = some [120, 121] := by decide
      rw [this] at hx
      exact (Option.some.inj hx).symm
    subst hx
    obtain ⟨a8, c8, rfl, _, _, rd⟩ := o8.rd (D' := fun _ => True) (fun _ _ => trivial) (fun _ _ => trivial)
    obtain ⟨b, o, rfl, _, hc⟩ := Rd.byte rd (i := 1) (by decide)
    have hc : w8.cell? ⟨b, o + 1, none⟩ = some (.int .u8 121) := hc
    have hl : [(120 : UInt8), 121].length = 2 := rfl
    rw [hl]
    clear o8 rd kA qA k8 hl
    go_wp2
    go_ret
    exact ⟨rfl, K9.out⟩
  · have : tget [([97], [120, 121])] [97] = some [120, 121] := by decide
    rw [this] at hx
    cases hx
end Go.Proofs.Ytaopjdjbpamhhaa
