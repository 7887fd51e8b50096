/- Proved: texts of the families over slots, order and swap, joined, as far as the claim needs them. Conditions: as each theorem says. -/
import Derived.Test.YtaopjdjbpamhhaaSSVP
import Derived.Test.YtaopjdjbpamhhaaSSVQ
import Derived.Test.YtaopjdjbpamhhaaSSVO
/- Proved: contracts of the law functions void and spoil, and of the reference's Image of vaults. Conditions: deeds, bytes and pairs in memory. -/
namespace Go.Proofs.Ytaopjdjbpamhhaa
open Go Go.RowKit
set_option linter.unusedVariables false
set_option linter.unusedSimpArgs false
theorem r7Image_calls {seed : Int} {w : World} {D : Nat → Prop} {v : Value} {l : List (Bts × Bts)} (h : SV pairEl D w v l) (hk : Keyd l) (hn : l.length ≤ 100000) (ok : ∀ p ∈ l, okP p) :
    Calls Try.prog 85 #[.int .u64 seed, v] w fun e w' => ∃ v', e = .returned v' ∧ Own 5 byteEl Noneof w.heap.size w' v' (imgT seed l) ∧ Kept Noneof w w' := by
  have C := Lib.hid (r1Image_calls (seed := seed) h hk hn ok)
  obtain ⟨a, c, rfl, _⟩ := h
  clear hk hn ok
  go_enter Try.func85, Try.ntmps85
  go_wp2_with fail
  refine C.out.mono ?_
  rintro e w' ⟨v', rfl, o, k⟩
  have O := Lib.hid o
  have K := Lib.hid k
  obtain ⟨x1, x2, x3, rfl⟩ := o.slice'
  clear o k C
  go_wp2
  go_ret
  exact ⟨_, rfl, O.out, K.out⟩
/-- Cells that held bytes hold bytes; what is frozen is as it was. -/
def Turned (w w' : World) : Prop := (∀ (q : Addr) (x : UInt8), w.cell? q = some (.int .u8 ((x.toNat : Nat) : Int)) → ∃ y : UInt8, w'.cell? q = some (.int .u8 ((y.toNat : Nat) : Int))) ∧ ∀ q, w'.frozen? q = w.frozen? q
theorem Turned.refl (w : World) : Turned w w := ⟨fun _ x h => ⟨x, h⟩, fun _ => rfl⟩
theorem Turned.set {w w' : World} (h : Turned w w') (p : Addr) {x0 : UInt8} (hp : w'.cell? p = some (.int .u8 ((x0.toNat : Nat) : Int))) (y : UInt8) : Turned w (w'.setCell p (.int .u8 ((y.toNat : Nat) : Int))) := by
  refine ⟨fun q x hq => ?_, fun q => by rw [World.frozen?_setCell]; exact h.2 q⟩
  obtain ⟨z, hz⟩ := h.1 q x hq
  by_cases e : p = q
  · subst e
    exact ⟨y, World.cell?_setCell_same _ _ _ hz⟩
  · exact ⟨z, by rw [World.cell?_setCell_other _ _ _ _ e]; exact hz⟩
theorem Turned.bw {D : Nat → Prop} {w w' : World} {v : Value} {l : Bts} (h : Turned w w') (hb : BW D w v l) : ∃ l' : Bts, BW D w' v l' := by
  obtain ⟨⟨a, c, rfl, hc, hm, rd⟩, hf⟩ := hb
  have key : ∀ i (hi : i < l.length), ∃ y : UInt8, ∃ b o, a = some ⟨b, o, none⟩ ∧ D b ∧ w'.cell? ⟨b, o + i, none⟩ = some (.int .u8 ((y.toNat : Nat) : Int)) := fun i hi => by
    obtain ⟨b, o, rfl, db, h0⟩ := Rd.byte rd hi
    obtain ⟨y, hy⟩ := h.1 _ _ h0
    exact ⟨y, b, o, rfl, db, hy⟩
  refine ⟨List.ofFn fun i : Fin l.length => (key i.1 i.2).choose, ⟨a, c, by rw [List.length_ofFn], ⟨by rw [List.length_ofFn]; exact hc.1, hc.2⟩, by rw [List.length_ofFn]; exact hm, fun i hi => ?_⟩, fun b o n c' e i hi => ?_⟩
  · have hi' : i < l.length := by rw [List.length_ofFn] at hi; exact hi
    obtain ⟨b, o, rfl, db, h0⟩ := (key i hi').choose_spec
    refine ⟨b, o, [.int .u8 (((key i hi').choose.toNat : Nat) : Int)], rfl, db, fun j hj => ?_, ?_⟩
    · obtain rfl : j = 0 := by simpa using hj
      simpa [byteEl] using h0
    · show _ = _
      rw [List.getElem_ofFn]
  · rw [List.length_ofFn] at hi
    rw [h.2]
    exact hf b o n c' e i hi
/-- spoil writes into bytes that may be written over; their blocks alone change, and stay bytes. -/
theorem l7spoil_calls {D : Nat → Prop} {w : World} {v : Value} {l : Bts} (h : BW D w v l) :
    Calls Try.prog 82 #[v] w fun e w' => e = .returned (.tuple #[]) ∧ Kept D w w' ∧ Turned w w' := by
  obtain ⟨⟨a, c, rfl, _, hm, rd⟩, hf⟩ := h
  have RD := Lib.hid (show ∀ i, i < l.length → ∃ b o, a = some ⟨b, o, none⟩ ∧ D b ∧ ∃ z : UInt8, w.cell? ⟨b, o + i, none⟩ = some (.int .u8 ((z.toNat : Nat) : Int)) ∧ w.frozen? ⟨b, o + i, none⟩ = false from fun i hi => by
    obtain ⟨b, o, rfl, db, hc⟩ := Rd.byte rd hi
    exact ⟨b, o, rfl, db, _, hc, hf b o _ _ rfl i hi⟩)
  obtain ⟨n, hn⟩ : ∃ n, l.length = n := ⟨_, rfl⟩
  rw [hn] at RD hm ⊢
  clear rd hf hn
  go_enter Try.func82, Try.ntmps82
  go_wp2
  go_loopw [5] (fun iv wr => ∃ i : Nat, i ≤ n ∧ iv = .int .i64 i ∧ Hid (∀ i, i < n → ∃ b o, a = some ⟨b, o, none⟩ ∧ D b ∧ ∃ z : UInt8, wr.cell? ⟨b, o + i, none⟩ = some (.int .u8 ((z.toNat : Nat) : Int)) ∧ wr.frozen? ⟨b, o + i, none⟩ = false) ∧ Hid (Kept D w wr) ∧ Hid (Turned w wr)) (fun iv _ => n - (intOf iv).toNat)
  case atStart => exact ⟨0, Nat.zero_le _, rfl, RD, Lib.hid (Kept.refl _ _), Lib.hid (Turned.refl _)⟩
  clear RD
  obtain ⟨i, hi, rfl, RD, KW, TU⟩ := hrel
  by_cases hlt : i < n
  · have hlt' : (i : Int) < (n : Int) := by omega
    obtain ⟨b, o, rfl, db, z, e0, f0⟩ := RD.out i hlt
    have hx : bits .xor .u8 ((z.toNat : Nat) : Int) 90 = (((z ^^^ 90).toNat : Nat) : Int) := bits_xor_u8 z 90
    have TN := Lib.hid (TU.out.set ⟨b, o + i, none⟩ e0 (z ^^^ 90))
    generalize z ^^^ 90 = u at *
    have NX := Lib.hid (show ∀ i', i' < n → ∃ b' o', some (⟨b, o, none⟩ : Addr) = some ⟨b', o', none⟩ ∧ D b' ∧ ∃ z : UInt8, (wr.setCell ⟨b, o + i, none⟩ (.int .u8 ((u.toNat : Nat) : Int))).cell? ⟨b', o' + i', none⟩ = some (.int .u8 ((z.toNat : Nat) : Int)) ∧ (wr.setCell ⟨b, o + i, none⟩ (.int .u8 ((u.toNat : Nat) : Int))).frozen? ⟨b', o' + i', none⟩ = false from fun i' hi' => by
      obtain ⟨b', o', e, db', z', h1, h2⟩ := RD.out i' hi'
      simp only [Option.some.injEq, Addr.mk.injEq, and_true] at e
      obtain ⟨rfl, rfl⟩ := e
      refine ⟨b, o, rfl, db', ?_⟩
      by_cases hii : i = i'
      · subst hii
        exact ⟨u, World.cell?_setCell_same _ _ _ h1, by rw [World.frozen?_setCell]; exact h2⟩
      · exact ⟨z', by rw [World.cell?_setCell_other _ _ _ _ (fun e => hii (Nat.add_left_cancel (congrArg Addr.off e)))]; exact h1, by rw [World.frozen?_setCell]; exact h2⟩)
    have KN := Lib.hid (show Kept D w (wr.setCell ⟨b, o + i, none⟩ (.int .u8 ((u.toNat : Nat) : Int))) from KW.out.setCell (p := ⟨b, o + i, none⟩) (.inl db) _)
    clear RD db KW TU
    go_wp2
    go_roundw
    case rel => exact ⟨i + 1, by omega, by go_num, NX, KN, TN⟩
    case measure => simp [intOf]; omega
  · obtain rfl : n = i := by omega
    go_wp2
    go_end0
    exact ⟨rfl, KW.out, TU.out⟩
set_option maxRecDepth 100000 in
set_option maxHeartbeats 4000000 in
theorem l7void_calls {D1 D2 : Nat → Prop} {w : World} {kd : Int} {nm : ByteArray} {v1 v2 : Value} {data pad : Bts} (h1 : BV D1 w v1 data) (h2 : BV D2 w v2 pad) :
    Calls Try.prog 81 #[.agg #[.int .i64 kd, .string nm, v1, v2]] w fun e w' => e = .returned (.bool true) ∧ Kept Noneof w w' := by
  obtain ⟨a1, n1, c1, rfl⟩ := h1.sl
  obtain ⟨a2, n2, c2, rfl⟩ := h2.sl
  clear h1 h2
  go_enter Try.func81, Try.ntmps81
  go_upto_region 2 with (fail)
  have K1 := Lib.hid ((Kept.refl Noneof w).alloc (.cells #[.int .i64 kd, .string nm, .slice a1 n1 c1, .slice a2 n2 c2] 126))
  have G := Lib.hid (heap_alloc_new w (.cells #[.int .i64 kd, .string nm, .slice a1 n1 c1, .slice a2 n2 c2] 126))
  generalize w.alloc (.cells #[.int .i64 kd, .string nm, .slice a1 n1 c1, .slice a2 n2 c2] 126) = w1 at *
  generalize w.heap.size = bA at *
  have CL := Lib.hid (fun (w' : World) (h : w'.heap[bA]? = some (.cells #[.int .i64 kd, .string nm, .slice a1 n1 c1, .slice a2 n2 c2] 126)) => show w'.cell? ⟨bA, 1, none⟩ = some (.string nm) ∧ w'.cell? ⟨bA, 2, none⟩ = some (.slice a1 n1 c1) ∧ w'.cell? ⟨bA, 3, none⟩ = some (.slice a2 n2 c2) by simp [World.cell?, h])
  obtain ⟨q1, q2, q3⟩ := CL.out w1 G.out
  go_wp2_with fail
  refine (vPut_none (.inl rfl)).mono ?_
  rintro e w2 ⟨rfl, k⟩
  have K2 := Lib.hid (K1.out.tr k)
  replace G := Lib.hid (k.obj (fun h => h) G.out)
  clear k q1 q2 q3 K1
  go_upto_region 3 with (fail)
  have kA := (Kept.refl Noneof w2).alloc (.cells #[.string { data := #[] }, .slice none 0 0] 105)
  replace K2 := Lib.hid (K2.out.tr kA)
  replace G := Lib.hid (kA.obj (fun h => h) G.out)
  generalize w2.alloc (.cells #[.string { data := #[] }, .slice none 0 0] 105) = w3 at *
  clear kA
  obtain ⟨q1, q2, q3⟩ := CL.out w3 G.out
  go_wp2_with fail
  refine (vOpen_none (.inl rfl)).mono ?_
  rintro e w4 ⟨rfl, k⟩
  have K4 := Lib.hid (K2.out.tr k)
  replace G := Lib.hid (k.obj (fun h => h) G.out)
  clear k q1 q2 q3 K2
  obtain ⟨q1, q2, q3⟩ := CL.out w4 G.out
  go_wp2_with fail
  refine (vForget_none (.inl rfl)).mono ?_
  rintro e w4 ⟨rfl, rfl⟩
  go_upto_region 5 with (fail)
  have kA := (Kept.refl Noneof w4).alloc (.cells #[.pointer none] 191)
  have gA := heap_alloc_new w4 (.cells #[.pointer none] 191)
  have VN := Lib.hid (show VNone (w4.alloc (.cells #[.pointer none] 191)) (bp w4.heap.size) from .inr ⟨_, rfl, by unfold World.cell?; rw [gA]; rfl⟩)
  have K5 := Lib.hid (K4.out.tr kA)
  replace G := Lib.hid (kA.obj (fun h => h) G.out)
  clear kA gA q1 q2 q3 K4
  obtain ⟨q1, q2, q3⟩ := CL.out _ G.out
  go_wp2_with fail
  refine (vPut_none VN.out).mono ?_
  rintro e w5 ⟨rfl, k⟩
  replace K5 := Lib.hid (K5.out.tr k)
  replace G := Lib.hid (k.obj (fun h => h) G.out)
  clear k q1 q2 q3 VN
  go_upto_region 6 with (fail)
  have kA := (Kept.refl Noneof w5).alloc (.cells #[.string { data := #[] }, .slice none 0 0] 105)
  replace K5 := Lib.hid (K5.out.tr kA)
  replace G := Lib.hid (kA.obj (fun h => h) G.out)
  generalize w5.alloc (.cells #[.string { data := #[] }, .slice none 0 0] 105) = w6 at *
  clear kA
  have kA := (Kept.refl Noneof w6).alloc (.cells #[.pointer none] 191)
  have gA := heap_alloc_new w6 (.cells #[.pointer none] 191)
  have VN := Lib.hid (show VNone (w6.alloc (.cells #[.pointer none] 191)) (bp w6.heap.size) from .inr ⟨_, rfl, by unfold World.cell?; rw [gA]; rfl⟩)
  have K6 := Lib.hid (K5.out.tr kA)
  replace G := Lib.hid (kA.obj (fun h => h) G.out)
  clear kA gA K5
  obtain ⟨q1, q2, q3⟩ := CL.out _ G.out
  go_wp2_with fail
  refine (vOpen_none VN.out).mono ?_
  rintro e w7 ⟨rfl, k⟩
  replace K6 := Lib.hid (K6.out.tr k)
  clear k q1 q2 q3 VN G CL
  go_wp2_with fail
  refine (vImage_none (.inl rfl)).mono ?_
  rintro e w7 ⟨rfl, rfl⟩
  go_wp2
  go_ret
  exact ⟨rfl, K6.out⟩
end Go.Proofs.Ytaopjdjbpamhhaa
/- Proved: plain: a vault's pads as the program and as the reference keep them. No program. No condition. -/
namespace Go.Proofs.Ytaopjdjbpamhhaa
open Go Go.RowKit
set_option linter.unusedVariables false
set_option linter.unusedSimpArgs false
/-- The same pads: in the order in which they came, and in the order of their names. -/
structure SameT (T L : List (Bts × Bts)) : Prop where
  kt : Keyd T
  sl : Srt L
  eq : ∀ k, tget T k = getK L k
theorem SameT.nil : SameT [] [] := ⟨List.Pairwise.nil, List.Pairwise.nil, fun _ => rfl⟩
theorem srt_nodup {L : List (Bts × Bts)} (h : Srt L) : L.Nodup := List.Pairwise.imp (fun {a b} hn e => by rw [e, cmpB_self] at hn; omega) h
section
variable {T L : List (Bts × Bts)}
theorem SameT.mem (h : SameT T L) (p : Bts × Bts) : p ∈ T ↔ p ∈ L := by
  obtain ⟨k, v⟩ := p
  rw [← getK_iff h.sl, ← h.eq]
  exact ⟨tget_of_mem h.kt, tget_mem⟩
theorem SameT.perm (h : SameT T L) : T.Perm L := (List.perm_ext_iff_of_nodup (keyd_nodup h.kt) (srt_nodup h.sl)).2 h.mem
theorem SameT.keyd (h : SameT T L) : Keyd L := h.kt.perm h.perm.symm
theorem SameT.has (h : SameT T L) (k : Bts) : hasK L k = (tget T k).isSome := by rw [hasK_getK, h.eq]
theorem SameT.put (h : SameT T L) (k v : Bts) : SameT (tput T k v) (putK L k v) := by
  rw [putK_ins]
  refine ⟨tput_keyd h.kt k v, srt_ins h.sl, fun x => ?_⟩
  rw [getK_ins h.sl]
  by_cases e : k = x
  · rw [if_pos e, ← e]; exact tget_tput_eq
  · rw [if_neg e, tget_tput_ne e]; exact h.eq x
theorem SameT.drop (h : SameT T L) (k : Bts) : SameT (tdel T k) (dropK L k) := by
  rw [dropK_del]
  refine ⟨tdel_keyd h.kt k, srt_del h.sl, fun x => ?_⟩
  rw [getK_del h.sl]
  by_cases e : k = x
  · rw [if_pos e, ← e]
    cases hx : tget (tdel T k) k with
    | none => rfl
    | some v => exact (tdel_ne h.kt k (tget_mem hx) rfl).elim
  · rw [if_neg e, tget_tdel_ne e]; exact h.eq x
theorem SameT.putR (h : SameT T L) (n data pad : Bts) : rputR L n data pad = putR T n data pad := by
  unfold rputR Go.Proofs.Ytaopjdjbpamhhaa.putR
  rw [h.has]
theorem SameT.vput (h : SameT T L) (n data pad : Bts) : SameT (vputT T n data pad) (rputL L n data pad) := by
  unfold rputL
  rw [h.putR]
  unfold Go.Proofs.Ytaopjdjbpamhhaa.putR vputT
  by_cases hg : goodD n data pad = true
  · by_cases ht : (tget T n).isSome = true
    · rw [if_pos hg, if_pos ht, if_neg (show ¬ (4 : Int) = 0 by decide), if_neg (by rintro ⟨_, e⟩; rw [e] at ht; cases ht)]
      exact h
    · rw [if_pos hg, if_neg ht, if_pos rfl, if_pos ⟨hg, by simpa using ht⟩]
      exact h.put n (1 :: pad)
  · rw [if_neg hg, if_neg (show ¬ (1 : Int) = 0 by decide), if_neg (fun e => hg e.1)]
    exact h
theorem SameT.forgetR (h : SameT T L) (n : Bts) : (if hasK L n = true then (0 : Int) else 3) = dropE T n := by
  unfold dropE
  rw [h.has]
theorem SameT.forget (h : SameT T L) (n : Bts) : SameT (tdel T n) (if hasK L n = true then dropK L n else L) := by
  by_cases ht : hasK L n = true
  · rw [if_pos ht]; exact h.drop n
  · rw [if_neg ht, tdel_none (by rw [h.has] at ht; simpa using ht)]; exact h
end
end Go.Proofs.Ytaopjdjbpamhhaa
