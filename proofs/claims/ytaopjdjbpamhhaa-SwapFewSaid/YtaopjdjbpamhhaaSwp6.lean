/- Proved: contract of the talk of a mirror (Mirror's closure), where a span has a node. Conditions: what TalkIn says. -/
import Derived.Test.YtaopjdjbpamhhaaSwp5
namespace Go.Proofs.Ytaopjdjbpamhhaa
open Go Go.RowKit
set_option linter.unusedVariables false
set_option linter.unusedSimpArgs false

theorem Rd.node {D : Nat → Prop} {w : World} {a : Option Addr} {l : List ND} (h : Rd nodeEl D w a l) {i : Nat} (hi : i < l.length) : ∃ b o u v, a = some ⟨b, o, none⟩ ∧ D b ∧ w.cell? ⟨b, o + i * 6, none⟩ = some u ∧ w.cell? ⟨b, o + i * 6 + 1, none⟩ = some v ∧ w.cell? ⟨b, o + i * 6 + 2, none⟩ = some (.int .u64 l[i].dg) ∧ w.cell? ⟨b, o + i * 6 + 3, none⟩ = some (.int .i64 l[i].size) ∧ w.cell? ⟨b, o + i * 6 + 4, none⟩ = some (.int .i64 l[i].left) ∧ w.cell? ⟨b, o + i * 6 + 5, none⟩ = some (.int .i64 l[i].right) ∧ BV D w u l[i].k ∧ BV D w v l[i].v := by
  obtain ⟨b, o, cs, rfl, hD, hc, u, v, rfl, h1, h2⟩ := h i hi
  have k : nodeEl.k = 6 := rfl
  rw [k] at hc
  exact ⟨b, o, u, v, rfl, hD, hc 0 (by simp), hc 1 (by simp), hc 2 (by simp), hc 3 (by simp), hc 4 (by simp), hc 5 (by simp), h1, h2⟩

theorem TalkS.tr {c : TK} {vo vg vc vo' vg' vc' : Value} {n : Nat} (h : ∀ b, (vo'.ownBlock = some b → vo.ownBlock = some b ∨ n ≤ b) ∧ (vg'.ownBlock = some b → vg.ownBlock = some b ∨ n ≤ b) ∧ (vc'.ownBlock = some b → vc.ownBlock = some b ∨ n ≤ b)) (b : Nat) (hb : TalkS c vo' vg' vc' b) : TalkS c vo vg vc b ∨ n ≤ b := by
  rcases hb with e | e | e | e | e | e
  · exact .inl (.inl e)
  · exact .inl (.inr (.inl e))
  · exact .inl (.inr (.inr (.inl e)))
  · exact ((h b).1 e).imp (fun e => .inr (.inr (.inr (.inl e)))) id
  · exact ((h b).2.1 e).imp (fun e => .inr (.inr (.inr (.inr (.inl e))))) id
  · exact ((h b).2.2 e).imp (fun e => .inr (.inr (.inr (.inr (.inr e))))) id
theorem TalkIn.notS {seed : Int} {u : Tr} {c : TK} {R : Nat → Prop} {vo vg vc : Value} {w : World} {ol : List Msg} {gl : List Bts} {cl : List (Bts × Bts)} (h : TalkIn seed u c R vo vg vc w ol gl cl) (b : Nat) (hb : R b) : ¬ TalkS c vo vg vc b := fun e => by
  have := h.hR b hb
  rcases e with e | e | e | e | e | e
  · exact this.2.1.1 e
  · exact this.2.1.2.1 e
  · exact this.2.1.2.2 e
  · exact this.2.2.1 e
  · exact this.2.2.2.1 e
  · exact this.2.2.2.2 e
theorem TalkIn.newS {seed : Int} {u : Tr} {c : TK} {R : Nat → Prop} {vo vg vc : Value} {w : World} {ol : List Msg} {gl : List Bts} {cl : List (Bts × Bts)} (h : TalkIn seed u c R vo vg vc w ol gl cl) (b : Nat) (hb : w.heap.size ≤ b) : ¬ TalkS c vo vg vc b := fun e => by
  have l := h.lt
  have hB := h.hB
  rcases e with e | e | e | e | e | e
  · omega
  · omega
  · omega
  · have := (h.ho.lt b e).2; omega
  · have := (h.hg.lt b e).2; omega
  · have := (h.hc.lt b e).2; omega
theorem talk_le (seed : Int) (u : Tr) : ∀ (t : Tr) (low high : Bts) (bd : Bool), (talk seed u t low high bd).length ≤ 2 * t.size + 1
  | .nil, _, _, _ => by simp [talk]
  | .nd l k v r, low, high, bd => by
    have h1 := talk_le seed u l low k true
    have h2 := talk_le seed u r (k ++ [0]) high bd
    rw [talk]
    split
    · simp
    · simp only [List.length_cons, List.length_append, Tr.size]; omega
theorem gones_le (seed : Int) (u : Tr) (hu : u.size ≤ 1000000) : ∀ (t : Tr) (low high : Bts) (bd : Bool), (gones seed u t low high bd).length ≤ (t.size + 1) * 1000000
  | .nil, low, high, bd => by
    rw [gones]
    split
    · simp
    · unfold spanKeys
      rw [List.length_map]
      exact Nat.le_trans (List.length_filter_le _ _) (by rw [Tr.pairs_len]; simp [Tr.size]; exact hu)
  | .nd l k v r, low, high, bd => by
    have h1 := gones_le seed u hu l low k true
    have h2 := gones_le seed u hu r (k ++ [0]) high bd
    rw [gones]
    split
    · simp
    · simp only [List.length_append, Tr.size]; omega
theorem comes_le (seed : Int) (u : Tr) : ∀ (t : Tr) (low high : Bts) (bd : Bool), (comes seed u t low high bd).length ≤ t.size
  | .nil, _, _, _ => by simp [comes]
  | .nd l k v r, low, high, bd => by
    have h1 := comes_le seed u l low k true
    have h2 := comes_le seed u r (k ++ [0]) high bd
    rw [comes]
    split
    · simp
    · simp only [List.length_cons, List.length_append, Tr.size]; omega
theorem talk_bnd1 {o g cc ls rs : Nat} (b1 : o + 2 * (1 + ls + rs) + 1 ≤ 1000000) (b2 : g + (1 + ls + rs + 1) * 1000000 ≤ 1000000000000) (b3 : cc + (1 + ls + rs) ≤ 1000000) : o + 1 + 2 * ls + 1 ≤ 1000000 ∧ g + (ls + 1) * 1000000 ≤ 1000000000000 ∧ cc + 1 + ls ≤ 1000000 := by omega
theorem talk_bnd2 {o g cc ls rs a b d : Nat} (b1 : o + 2 * (1 + ls + rs) + 1 ≤ 1000000) (b2 : g + (1 + ls + rs + 1) * 1000000 ≤ 1000000000000) (b3 : cc + (1 + ls + rs) ≤ 1000000) (h1 : a ≤ 2 * ls + 1) (h2 : b ≤ (ls + 1) * 1000000) (h3 : d ≤ ls) : o + 1 + a + 2 * rs + 1 ≤ 1000000 ∧ g + b + (rs + 1) * 1000000 ≤ 1000000000000 ∧ cc + 1 + d + rs ≤ 1000000 := by omega
theorem len_one {α : Type} (l : List α) (x : α) : (l ++ [x]).length = l.length + 1 := by simp
theorem sv_pair1 {D : Nat → Prop} {w : World} {g : Nat} {a b : Value} {t : TypeId} {k v : Bts} (h : w.heap[g]? = some (.cells #[a, b] t)) (hD : D g) (h1 : BV D w a k) (h2 : BV D w b v) : SV pairEl D w (.slice (some ⟨g, 0, none⟩) 1 1) [(k, v)] := by
  refine ⟨_, _, rfl, ⟨by simp, fun h => by cases h⟩, by simp, fun i hi => ?_⟩
  obtain rfl : i = 0 := by simpa using hi
  refine ⟨g, 0, [a, b], rfl, hD, fun j hj => ?_, _, _, rfl, h1, h2⟩
  have hj : j < 2 := hj
  simp only [World.cell?, h, Nat.zero_mul, Nat.zero_add]
  rcases j with _ | _ | j
  · rfl
  · rfl
  · omega

set_option maxRecDepth 100000 in
set_option maxHeartbeats 8000000 in
theorem swMirror_1_nd {seed : Int} {u : Tr} {c : TK} (hg : Srt u.pairs) (hu : u.size ≤ 1000000) {l r : Tr} {k v : Bts} (hkv : 1 ≤ k.length ∧ k.length ≤ 64 ∧ v.length ≤ 1000) (hcL : c.L.length ≤ 1000000)
    (il : ∀ (R : Nat → Prop) (vo vg vc : Value) (w : World) (ol : List Msg) (gl : List Bts) (cl : List (Bts × Bts)) (lo hi : Value) (low high : Bts) (bd : Bool) (at' : Int), TalkIn seed u c R vo vg vc w ol gl cl → BV R w lo low → BV R w hi high → NodesAt seed c.L l at' → ol.length + 2 * l.size + 1 ≤ 1000000 → gl.length + (l.size + 1) * 1000000 ≤ 1000000000000 → cl.length + l.size ≤ 1000000 →
      Calls Try.prog 117 #[.agg #[lo, hi, .bool bd], .int .i64 at', bp c.q2, bp c.q3, bp c.q4, bp c.q5, bp c.q6, bp c.q7] w (TalkPost seed u c R vo vg vc w (ol ++ talk seed u l low high bd) (gl ++ gones seed u l low high bd) (cl ++ comes seed u l low high bd)))
    (ir : ∀ (R : Nat → Prop) (vo vg vc : Value) (w : World) (ol : List Msg) (gl : List Bts) (cl : List (Bts × Bts)) (lo hi : Value) (low high : Bts) (bd : Bool) (at' : Int), TalkIn seed u c R vo vg vc w ol gl cl → BV R w lo low → BV R w hi high → NodesAt seed c.L r at' → ol.length + 2 * r.size + 1 ≤ 1000000 → gl.length + (r.size + 1) * 1000000 ≤ 1000000000000 → cl.length + r.size ≤ 1000000 →
      Calls Try.prog 117 #[.agg #[lo, hi, .bool bd], .int .i64 at', bp c.q2, bp c.q3, bp c.q4, bp c.q5, bp c.q6, bp c.q7] w (TalkPost seed u c R vo vg vc w (ol ++ talk seed u r low high bd) (gl ++ gones seed u r low high bd) (cl ++ comes seed u r low high bd)))
    {R : Nat → Prop} {vo vg vc : Value} {w : World} {ol : List Msg} {gl : List Bts} {cl : List (Bts × Bts)} {lo hi : Value} {low high : Bts} {bd : Bool} {at' : Int}
    (h : TalkIn seed u c R vo vg vc w ol gl cl) (h1 : BV R w lo low) (h2 : BV R w hi high) (hn : NodesAt seed c.L (.nd l k v r) at') (b1 : ol.length + 2 * (Tr.nd l k v r).size + 1 ≤ 1000000) (b2 : gl.length + ((Tr.nd l k v r).size + 1) * 1000000 ≤ 1000000000000) (b3 : cl.length + (Tr.nd l k v r).size ≤ 1000000) :
    Calls Try.prog 117 #[.agg #[lo, hi, .bool bd], .int .i64 at', bp c.q2, bp c.q3, bp c.q4, bp c.q5, bp c.q6, bp c.q7] w
      (TalkPost seed u c R vo vg vc w (ol ++ talk seed u (.nd l k v r) low high bd) (gl ++ gones seed u (.nd l k v r) low high bd) (cl ++ comes seed u (.nd l k v r) low high bd)) := by
  obtain ⟨i, rfl, hLt, hL, hkl, hkr⟩ := hn.kids
  have H := Lib.hid h
  have H1 := Lib.hid h1
  have H2 := Lib.hid h2
  have HG := Lib.hid hg
  have HU := Lib.hid hu
  have BO := Lib.hid (show ol.length ≤ 1000000 by omega)
  have BO1 := Lib.hid b1
  have BG1 := Lib.hid b2
  have BC1 := Lib.hid b3
  have IL := Lib.hid il
  have IR := Lib.hid ir
  have NL := Lib.hid hkl
  have NR := Lib.hid hkr
  have KV := Lib.hid hkv
  have CL := Lib.hid hcL
  obtain ⟨a1, c1, rfl, _⟩ := h1
  obtain ⟨a2, c2, rfl, _⟩ := h2
  clear h hg hu b1 b2 b3 il ir hkl hkr hkv hn hcL
  go_enter Try.func117, Try.ntmps117
  go_wp2_with fail
  (
  have G0 := heap_alloc_new w (.cells #[.slice a1 low.length c1, .slice a2 high.length c2, .bool bd] 170)
  have K0 := (Kept.refl Noneof w).alloc (.cells #[.slice a1 low.length c1, .slice a2 high.length c2, .bool bd] 170)
  have s0 : (w.alloc (.cells #[.slice a1 low.length c1, .slice a2 high.length c2, .bool bd] 170)).heap.size = w.heap.size + 1 := by simp
  generalize w.alloc (.cells #[.slice a1 low.length c1, .slice a2 high.length c2, .bool bd] 170) = w1 at *
  have G0 := Lib.hid G0
  have K0 := Lib.hid K0
  have S0 := Lib.hid s0
  clear s0
  refine wp_region_kept 10 [(2, .act IsSlice fun u wx => Own 5 byteEl Noneof w1.heap.size wx u low), (5, .act IsSlice fun u wx => Own 5 byteEl Noneof w1.heap.size wx u high), (9, .act IsPtr fun u wx => ∃ b, u = bp b ∧ w1.heap.size ≤ b ∧ wx.heap[b]? = some (msgObj (.slice none 0 0) (.slice none 0 0) false 0 0 false (.slice none 0 0)))] Noneof (by kernel_rfl) (by kernel_rfl) (by kernel_rfl) ?_; simp only [List.take_succ_cons, List.take_zero, List.drop_succ_cons, List.drop_zero]
  have hS : ∀ w', Kept Noneof w1 w' → w'.cell? ⟨w.heap.size, 0, none⟩ = some (.slice a1 low.length c1) ∧ w'.cell? ⟨w.heap.size, 1, none⟩ = some (.slice a2 high.length c2) ∧ w'.cell? ⟨w.heap.size, 2, none⟩ = some (.bool bd) := fun w' k => by
    have := k.obj (p := w.heap.size) (fun h => h) G0.out
    simp [World.cell?, this]
  iterate 2 (refine SeqL.val (v := ?_) hS rfl (by rfl) (fun wx hSw => ?_) ?_; rotate_left; (focus ((try dsimp only at hSw); go_simp; (try with_reducible rfl))); (try simp only [Act.put, List.setIfInBounds_toArray, List.set_cons_zero, List.set_cons_succ]))
  refine SeqL.act rfl rfl (by rfl) (by rfl) isSlice (fun wx hx hh K hK => ?_) (fun u1 hu1 => ?_)
  · go_simp
    refine (byClone_calls (H1.out.kept byteEl_k (K0.out.tr hx) fun _ _ _ h => h)).mono ?_
    rintro e w2 ⟨v', rfl, o1, k1⟩
    exact hK.out v' w2 o1.slice' k1 (o1.base hx.size)
  obtain ⟨p1, n1, d1, rfl⟩ := hu1
  (try simp only [Act.put, List.setIfInBounds_toArray, List.set_cons_zero, List.set_cons_succ])
  iterate 2 (refine SeqL.val (v := ?_) hS rfl (by rfl) (fun wx hSw => ?_) ?_; rotate_left; (focus ((try dsimp only at hSw); go_simp; (try with_reducible rfl))); (try simp only [Act.put, List.setIfInBounds_toArray, List.set_cons_zero, List.set_cons_succ]))
  refine SeqL.act rfl rfl (by rfl) (by rfl) isSlice (fun wx hx hh K hK => ?_) (fun u1 hu1 => ?_)
  · go_simp
    refine (byClone_calls (H2.out.kept byteEl_k (K0.out.tr hx) fun _ _ _ h => h)).mono ?_
    rintro e w2 ⟨v', rfl, o1, k1⟩
    exact hK.out v' w2 o1.slice' k1 (o1.base hx.size)
  obtain ⟨p2, n2, d2, rfl⟩ := hu1
  (try simp only [Act.put, List.setIfInBounds_toArray, List.set_cons_zero, List.set_cons_succ])
  iterate 3 (refine SeqL.val (v := ?_) hS rfl (by rfl) (fun wx hSw => ?_) ?_; rotate_left; (focus ((try dsimp only at hSw); go_simp; (try with_reducible rfl))); (try simp only [Act.put, List.setIfInBounds_toArray, List.set_cons_zero, List.set_cons_succ]))
  refine SeqL.act rfl rfl (by rfl) (by rfl) isPtr (fun wx hx hh K hK => ?_) (fun u1 hu1 => ?_)
  · go_simp
    exact hK.out _ _ ⟨_, rfl⟩ ((Kept.refl _ _).alloc _) ⟨_, rfl, hx.size, heap_alloc_new wx _⟩
  obtain ⟨bm, rfl⟩ := hu1
  (try simp only [Act.put, List.setIfInBounds_toArray, List.set_cons_zero, List.set_cons_succ])
  refine SeqL.nil fun wz hz hh => ?_
  obtain ⟨wa, _, oa, ka⟩ := hh 2 (by decide) _ _ _ rfl rfl
  obtain ⟨wb, _, ob, kb⟩ := hh 5 (by decide) _ _ _ rfl rfl
  obtain ⟨wc, _, oc, kc⟩ := hh 9 (by decide) _ _ _ rfl rfl
  have OA := Lib.hid (show Own 5 byteEl Noneof w1.heap.size wz (.slice p1 n1 d1) low from Own.kept oa ka fun _ h => h.elim)
  have OB := Lib.hid (show Own 5 byteEl Noneof w1.heap.size wz (.slice p2 n2 d2) high from Own.kept ob kb fun _ h => h.elim)
  have hbm : w1.heap.size ≤ bm ∧ wz.heap[bm]? = some (msgObj (.slice none 0 0) (.slice none 0 0) false 0 0 false (.slice none 0 0)) := by
    obtain ⟨b', e1, e2, e3⟩ := oc
    have e1 : bp bm = bp b' := e1
    simp only [bp, Value.pointer.injEq, Option.some.injEq, Addr.mk.injEq, and_true] at e1
    subst e1
    exact ⟨e2, kc.obj (fun h => h) e3⟩
  obtain ⟨hbm, gm⟩ := hbm
  have HBM := Lib.hid hbm
  have GM := Lib.hid gm
  have KZ := Lib.hid (K0.out.tr hz)
  have KS := Lib.hid hz
  clear hh hS oa ob oc ka kb kc hz hbm
  have m0 : wz.cell? ⟨bm, 0, none⟩ = some (.slice none 0 0) := by simp [World.cell?, gm]
  have m1 : wz.cell? ⟨bm, 1, none⟩ = some (.slice none 0 0) := by simp [World.cell?, gm]
  have m2 : wz.cell? ⟨bm, 2, none⟩ = some (.bool false) := by simp [World.cell?, gm]
  have m3 : wz.cell? ⟨bm, 3, none⟩ = some (.int .i64 0) := by simp [World.cell?, gm]
  have m4 : wz.cell? ⟨bm, 4, none⟩ = some (.int .u64 0) := by simp [World.cell?, gm]
  have m5 : wz.cell? ⟨bm, 5, none⟩ = some (.bool false) := by simp [World.cell?, gm]
  have m6 : wz.cell? ⟨bm, 6, none⟩ = some (.slice none 0 0) := by simp [World.cell?, gm]
  have mf : ∀ j, wz.frozen? ⟨bm, j, none⟩ = false := fun j => by simp [World.frozen?, gm]
  clear gm
  have TZ := Lib.hid (H.out.kept0 KZ.out)
  have z3 : wz.cell? ⟨c.q3, 0, none⟩ = some (bp c.m2) := by simp [World.cell?, TZ.out.h3]
  have z2 : wz.cell? ⟨c.q2, 0, none⟩ = some c.vn := by simp [World.cell?, TZ.out.h2]
  have gz := KZ.out.block
  have hz0 : wz.heap[w.heap.size]? = some (.cells #[.slice a1 low.length c1, .slice a2 high.length c2, .bool bd] 170) := KS.out.obj (fun h => h) G0.out
  have y0 : wz.cell? ⟨w.heap.size, 0, none⟩ = some (.slice a1 low.length c1) := by simp [World.cell?, hz0]
  have y1 : wz.cell? ⟨w.heap.size, 1, none⟩ = some (.slice a2 high.length c2) := by simp [World.cell?, hz0]
  have y2 : wz.cell? ⟨w.heap.size, 2, none⟩ = some (.bool bd) := by simp [World.cell?, hz0]
  have HZ0 := Lib.hid hz0
  have hbm1 : bm ≠ w.heap.size := by have := HBM.out; have := S0.out; omega
  have hbm2 : bm ≠ c.q3 := by have := HBM.out; have := S0.out; have := H.out.lt; have := H.out.hB; omega
  have hbm3 : bm ≠ c.q2 := by have := HBM.out; have := S0.out; have := H.out.lt; have := H.out.hB; omega
  clear gz hz0)
  go_wp2_with fail
  (
  have MS := (((((((Kept.refl (fun b => b = bm) wz).setCell (p := ⟨bm, 0, none⟩) (.inl rfl) (.slice p1 n1 d1)).setCell (p := ⟨bm, 1, none⟩) (.inl rfl) (.slice p2 n2 d2)).setCell (p := ⟨bm, 2, none⟩) (.inl rfl) (.bool bd)).setCell (p := ⟨bm, 3, none⟩) (.inl rfl) (.int .i64 0)).setCell (p := ⟨bm, 4, none⟩) (.inl rfl) (.int .u64 0)).setCell (p := ⟨bm, 5, none⟩) (.inl rfl) (.bool false)).setCell (p := ⟨bm, 6, none⟩) (.inl rfl) (.slice none 0 0)
  have GM5 := setCell_obj (setCell_obj (setCell_obj (setCell_obj (setCell_obj (setCell_obj (setCell_obj GM.out (.slice p1 n1 d1) (j := 0)) (.slice p2 n2 d2) (j := 1)) (.bool bd) (j := 2)) (.int .i64 0) (j := 3)) (.int .u64 0) (j := 4)) (.bool false) (j := 5)) (.slice none 0 0) (j := 6)
  generalize ((((((wz.setCell ⟨bm, 0, none⟩ (.slice p1 n1 d1)).setCell ⟨bm, 1, none⟩ (.slice p2 n2 d2)).setCell ⟨bm, 2, none⟩ (.bool bd)).setCell ⟨bm, 3, none⟩ (.int .i64 0)).setCell ⟨bm, 4, none⟩ (.int .u64 0)).setCell ⟨bm, 5, none⟩ (.bool false)).setCell ⟨bm, 6, none⟩ (.slice none 0 0) = w5 at *
  have GM5 := Lib.hid (show w5.heap[bm]? = some (msgObj (.slice p1 n1 d1) (.slice p2 n2 d2) bd 0 0 false (.slice none 0 0)) from GM5)
  have lT := Lib.hid (show c.B ≤ bm ∧ ¬ R bm ∧ (vo : Value).ownBlock ≠ some bm ∧ (vg : Value).ownBlock ≠ some bm ∧ (vc : Value).ownBlock ≠ some bm from by
    have hh := H.out
    have e1 := HBM.out
    have e2 := S0.out
    have e3 := hh.hB
    exact ⟨by omega, fun e => by have := (hh.hR bm e).1; omega, fun e => by have := (hh.ho.lt bm e).2; omega, fun e => by have := (hh.hg.lt bm e).2; omega, fun e => by have := (hh.hc.lt bm e).2; omega⟩)
  have T5 := Lib.hid (TZ.out.kept MS fun b e => by subst e; exact lT.out)
  have nA := Lib.hid (show (Value.slice p1 n1 d1).ownBlock ≠ some bm from fun e => by
    obtain ⟨cur, hc⟩ := OA.out.obj e
    have := hc.symm.trans GM.out
    simp [msgObj] at this)
  have nB := Lib.hid (show (Value.slice p2 n2 d2).ownBlock ≠ some bm from fun e => by
    obtain ⟨cur, hc⟩ := OB.out.obj e
    have := hc.symm.trans GM.out
    simp [msgObj] at this)
  have OA5 := Lib.hid (OA.out.kept MS fun b hb _ => ⟨fun h => h.elim, fun e => by have hb : b = bm := hb; subst hb; exact nA.out e⟩)
  have OB5 := Lib.hid (OB.out.kept MS fun b hb _ => ⟨fun h => h.elim, fun e => by have hb : b = bm := hb; subst hb; exact nB.out e⟩)
  have K5 := Lib.hid (KZ.out.trans MS fun b e => .inr (by have := HBM.out; have := S0.out; omega))
  have Y5 := Lib.hid (MS.obj (p := w.heap.size) (fun e => hbm1 e.symm) HZ0.out)
  clear MS m0 m1 m2 m3 m4 m5 m6 mf z3 z2 y0 y1 y2 OA OB TZ GM KZ HZ0 KS)
  (
  obtain ⟨F3, hF3⟩ : ∃ F3 : Obj, F3 = msgObj (.slice p1 n1 d1) (.slice p2 n2 d2) bd ((Tr.nd l k v r).size : Nat) 0 false (.slice none 0 0) := ⟨_, rfl⟩
  have lbm := Lib.hid (show bm < w5.heap.size from block_lt GM5.out)
  obtain ⟨av, cv, hvn, hcap, hmx, hrd⟩ := T5.out.hn
  obtain ⟨bn, on, uk, uv, hav, hDb, g0, g1, g2, g3, g4, g5, hbk, hbv⟩ := Rd.node hrd hLt
  have hnd : c.L[i] = ndOf seed l k v r i := by rw [List.getElem?_eq_getElem hLt] at hL; exact Option.some.inj hL
  rw [hnd] at g2 g3 g4 g5 hbk hbv
  rw [hav] at hvn
  have HVN := Lib.hid hvn
  have BK := Lib.hid hbk
  have BV' := Lib.hid hbv
  have DB := Lib.hid hDb
  have hbnm : bn ≠ bm := fun e => lT.out.2.1 (e ▸ (T5.out.hD _ hDb).1)
  clear hrd hcap hmx hbk hbv hDb
  refine wp_region_grow 13 [(11, .act (fun _ => True) fun _ wx => wx.heap[bm]? = some F3)] (OnceTo bm F3) (OnceTo.refl _ _) OnceTo.trans (OnceTo.of lbm.out (Kept.drew1 _ _)) (by kernel_rfl) (by kernel_rfl) (by kernel_rfl) ?_
  simp only [List.take_succ_cons, List.take_zero, List.drop_succ_cons, List.drop_zero]
  have hS : ∀ w', OnceTo bm F3 w5 w' → w'.cell? ⟨c.q2, 0, none⟩ = some (.slice (some ⟨bn, on, none⟩) c.L.length cv) ∧ w'.cell? ⟨bn, on + i * 6 + 3, none⟩ = some (.int .i64 ((Tr.nd l k v r).size : Nat)) ∧ w'.cell? ⟨bn, on + i * 6 + 2, none⟩ = some (.int .u64 ((Tr.nd l k v r).dg seed)) := fun w' q => by
    have h2 := T5.out.h2
    rw [HVN.out] at h2
    have := q.1.obj (p := c.q2) (fun e => hbm3 e.symm) h2
    exact ⟨by simp [World.cell?, this], q.1.cell hbnm g3, q.1.cell hbnm g2⟩
  iterate 11 (refine SeqL.val (v := ?_) hS rfl (by rfl) (fun wx hSw => ?_) ?_; rotate_left; (focus ((try dsimp only at hSw); go_simp; (try with_reducible rfl))); (try simp only [Act.put, List.setIfInBounds_toArray, List.set_cons_zero, List.set_cons_succ]))
  refine SeqL.act0 rfl rfl (by rfl) (fun wx hx hh K hK => ?_) ?_
  · have G : ∃ x, wx.heap[bm]? = some (msgObj (.slice p1 n1 d1) (.slice p2 n2 d2) bd x 0 false (.slice none 0 0)) := by
      rcases hx.2 with e | e
      · exact ⟨_, e.trans GM5.out⟩
      · exact ⟨_, by rw [e, hF3]⟩
    obtain ⟨x, G⟩ := G
    have f3 : wx.cell? ⟨bm, 3, none⟩ = some (.int .i64 x) := by simp [World.cell?, G]
    have ff : wx.frozen? ⟨bm, 3, none⟩ = false := by simp [World.frozen?, G]
    go_simp
    have GF := setCell_obj G (.int .i64 (((Tr.nd l k v r).size : Nat) : Int)) (j := 3)
    have KF := (Kept.refl (fun x => x = bm) wx).setCell (p := ⟨bm, 3, none⟩) (.inl rfl) (.int .i64 (((Tr.nd l k v r).size : Nat) : Int))
    refine hK.out _ ⟨KF, .inr ?_⟩ ?_
    · rw [hF3]; exact GF
    · rw [hF3]; exact GF
  (refine SeqL.val (v := ?_) hS rfl (by rfl) (fun wx hSw => ?_) ?_; rotate_left; (focus ((try dsimp only at hSw); go_simp; (try with_reducible rfl))); (try simp only [Act.put, List.setIfInBounds_toArray, List.set_cons_zero, List.set_cons_succ]))
  refine SeqL.nil fun wz hz hh => ?_
  obtain ⟨wb, _, ob, kb⟩ := hh 11 (by decide) _ _ _ rfl rfl
  have GZ := Lib.hid (show wz.heap[bm]? = some (msgObj (.slice p1 n1 d1) (.slice p2 n2 d2) bd ((Tr.nd l k v r).size : Nat) 0 false (.slice none 0 0)) by
    rcases kb.2 with e | e
    · rw [e, ← hF3]; exact ob
    · rw [e, hF3])
  have KZ := Lib.hid hz.1
  clear hh hS ob kb hz
  have TZ := Lib.hid (T5.out.kept KZ.out fun b e => by have e : b = bm := e; subst e; exact lT.out)
  have YZ := Lib.hid (KZ.out.obj (p := w.heap.size) (fun e => hbm1 e.symm) Y5.out)
  have gz := GZ.out
  have yz := YZ.out
  have m4 : wz.cell? ⟨bm, 4, none⟩ = some (.int .u64 0) := by simp [World.cell?, gz]
  have mf : wz.frozen? ⟨bm, 4, none⟩ = false := by simp [World.frozen?, gz]
  have z3 : wz.cell? ⟨c.q3, 0, none⟩ = some (bp c.m2) := by simp [World.cell?, TZ.out.h3]
  have y0 : wz.cell? ⟨w.heap.size, 0, none⟩ = some (.slice a1 low.length c1) := by simp [World.cell?, yz]
  have y1 : wz.cell? ⟨w.heap.size, 1, none⟩ = some (.slice a2 high.length c2) := by simp [World.cell?, yz]
  have y2 : wz.cell? ⟨w.heap.size, 2, none⟩ = some (.bool bd) := by simp [World.cell?, yz]
  clear gz yz
  go_wp2_with fail
  have MZ := (Kept.refl (fun b => b = bm) wz).setCell (p := ⟨bm, 4, none⟩) (.inl rfl) (.int .u64 ((Tr.nd l k v r).dg seed))
  have GM9 := setCell_obj GZ.out (.int .u64 ((Tr.nd l k v r).dg seed)) (j := 4)
  generalize wz.setCell ⟨bm, 4, none⟩ (.int .u64 ((Tr.nd l k v r).dg seed)) = w9 at *
  have MM := KZ.out.tr MZ
  have T5 := Lib.hid (TZ.out.kept MZ fun b e => by have e : b = bm := e; subst e; exact lT.out)
  have GM5 := Lib.hid (show w9.heap[bm]? = some (msgObj (.slice p1 n1 d1) (.slice p2 n2 d2) bd ((Tr.nd l k v r).size : Nat) ((Tr.nd l k v r).dg seed) false (.slice none 0 0)) from GM9)
  have OA5 := Lib.hid (OA5.out.kept MM fun b hb _ => ⟨fun h => h.elim, fun e => by have hb : b = bm := hb; subst hb; exact nA.out e⟩)
  have OB5 := Lib.hid (OB5.out.kept MM fun b hb _ => ⟨fun h => h.elim, fun e => by have hb : b = bm := hb; subst hb; exact nB.out e⟩)
  have K5 := Lib.hid (K5.out.trans MM fun b e => .inr (by have := HBM.out; have := S0.out; omega))
  have Y5 := Lib.hid (MM.obj (p := w.heap.size) (fun e => hbm1 e.symm) Y5.out)
  have N5 := Lib.hid (show w9.cell? ⟨bn, on + i * 6, none⟩ = some uk ∧ w9.cell? ⟨bn, on + i * 6 + 1, none⟩ = some uv ∧ w9.cell? ⟨bn, on + i * 6 + 4, none⟩ = some (.int .i64 (ndOf seed l k v r i).left) ∧ w9.cell? ⟨bn, on + i * 6 + 5, none⟩ = some (.int .i64 (ndOf seed l k v r i).right) from ⟨MM.cell hbnm g0, MM.cell hbnm g1, MM.cell hbnm g4, MM.cell hbnm g5⟩)
  have BK := Lib.hid (SV.kept byteEl_k BK.out MM fun b h _ e => lT.out.2.1 ((show b = bm from e) ▸ (T5.out.hD _ h).1))
  have BV' := Lib.hid (SV.kept byteEl_k BV'.out MM fun b h _ e => lT.out.2.1 ((show b = bm from e) ▸ (T5.out.hD _ h).1))
  clear MZ MM GM9 TZ GZ KZ YZ m4 mf z3 y0 y1 y2 g0 g1 g2 g3 g4 g5)
  (
  refine (orSpanDigest_calls (seed := seed) (t := u) T5.out.hm (H1.out.kept byteEl_k K5.out fun _ _ _ h => h) (H2.out.kept byteEl_k K5.out fun _ _ _ h => h)).mono ?_
  rintro e w6 ⟨rfl, k6⟩
  have T6 := Lib.hid (T5.out.kept0 k6)
  have OA6 := Lib.hid (OA5.out.kept k6 fun _ h => h.elim)
  have OB6 := Lib.hid (OB5.out.kept k6 fun _ h => h.elim)
  have GM6 := Lib.hid (k6.obj (fun h => h) GM5.out)
  have K6 := Lib.hid (K5.out.trans k6 fun _ h => h.elim)
  have Y6 := Lib.hid (k6.obj (fun h => h) Y5.out)
  clear k6 T5 OA5 OB5 GM5 K5 Y5
  have gm6 := GM6.out
  have m0 : w6.cell? ⟨bm, 0, none⟩ = some (.slice p1 n1 d1) := by simp [World.cell?, gm6]
  have m1 : w6.cell? ⟨bm, 1, none⟩ = some (.slice p2 n2 d2) := by simp [World.cell?, gm6]
  have m2 : w6.cell? ⟨bm, 2, none⟩ = some (.bool bd) := by simp [World.cell?, gm6]
  have m3 : w6.cell? ⟨bm, 3, none⟩ = some (.int .i64 ((Tr.nd l k v r).size : Nat)) := by simp [World.cell?, gm6]
  have m4 : w6.cell? ⟨bm, 4, none⟩ = some (.int .u64 ((Tr.nd l k v r).dg seed)) := by simp [World.cell?, gm6]
  have m5 : w6.cell? ⟨bm, 5, none⟩ = some (.bool false) := by simp [World.cell?, gm6]
  have m6 : w6.cell? ⟨bm, 6, none⟩ = some (.slice none 0 0) := by simp [World.cell?, gm6]
  have mf : ∀ j, w6.frozen? ⟨bm, j, none⟩ = false := fun j => by simp [World.frozen?, gm6]
  have y6 := Y6.out
  have y0 : w6.cell? ⟨w.heap.size, 0, none⟩ = some (.slice a1 low.length c1) := by simp [World.cell?, y6]
  have y1 : w6.cell? ⟨w.heap.size, 1, none⟩ = some (.slice a2 high.length c2) := by simp [World.cell?, y6]
  have y2 : w6.cell? ⟨w.heap.size, 2, none⟩ = some (.bool bd) := by simp [World.cell?, y6]
  have z4 : w6.cell? ⟨c.q4, 0, none⟩ = some vo := by simp [World.cell?, T6.out.h4]
  have z5 : w6.cell? ⟨c.q5, 0, none⟩ = some vg := by simp [World.cell?, T6.out.h5]
  have z3 : w6.cell? ⟨c.q3, 0, none⟩ = some (bp c.m2) := by simp [World.cell?, T6.out.h3]
  have z2 : w6.cell? ⟨c.q2, 0, none⟩ = some c.vn := by simp [World.cell?, T6.out.h2]
  have hbm4 : bm ≠ c.q4 := by have := HBM.out; have := S0.out; have := H.out.lt; have := H.out.hB; omega
  have hbm5 : bm ≠ c.q5 := by have := HBM.out; have := S0.out; have := H.out.lt; have := H.out.hB; omega
  clear gm6 y6)
  have N6 := N5.out
  have e1 : ((((u.cut low true high bd).size : Nat) : Int) == (((Tr.nd l k v r).size : Nat) : Int)) = ((u.cut low true high bd).size == (Tr.nd l k v r).size) := by
    rw [Bool.eq_iff_iff, beq_iff_eq, beq_iff_eq]
    omega
  cases g1 : ((u.cut low true high bd).size == (Tr.nd l k v r).size) with
  | false =>
    rw [g1] at e1
    have hs : sameAt seed u (.nd l k v r) low high bd = false := by unfold sameAt; rw [g1]; rfl
    have HS := Lib.hid hs
    (
    go_wp2_with fail
    have M7 := (Kept.refl (fun b => b = bm) w6).setCell (p := ⟨bm, 5, none⟩) (.inl rfl) (.bool false)
    have T7 := T6.out.kept M7 fun b e => by have e : b = bm := e; subst e; exact lT.out
    have OA7 := OA6.out.kept M7 fun b hb _ => ⟨fun h => h.elim, fun e => by have hb : b = bm := hb; subst hb; exact nA.out e⟩
    have OB7 := OB6.out.kept M7 fun b hb _ => ⟨fun h => h.elim, fun e => by have hb : b = bm := hb; subst hb; exact nB.out e⟩
    have GM7 := setCell_obj GM6.out (.bool false) (j := 5)
    have K7 := K6.out.trans M7 fun b e => .inr (by have := HBM.out; have := S0.out; omega)
    have Y7 := M7.obj (p := w.heap.size) (fun e => hbm1 e.symm) Y6.out
    generalize w6.setCell ⟨bm, 5, none⟩ (.bool false) = w7 at *
    have T7 := Lib.hid T7
    have OA7 := Lib.hid OA7
    have OB7 := Lib.hid OB7
    have GM7 := Lib.hid (show w7.heap[bm]? = some (msgObj (.slice p1 n1 d1) (.slice p2 n2 d2) bd ((Tr.nd l k v r).size : Nat) ((Tr.nd l k v r).dg seed) false (.slice none 0 0)) from GM7)
    have K7 := Lib.hid K7
    have Y7 := Lib.hid Y7
    have D7 := Lib.hid (show SV nodeEl c.DN w7 c.vn c.L from T7.out.hn)
    clear M7 m0 m1 m2 m3 m4 m5 m6 mf y0 y1 y2 z2 z3 z4 z5 N6 N5 BK BV' HVN
    obtain ⟨av2, cv2, hvn2, hcap2, hmx2, hrd2⟩ := D7.out
    obtain ⟨bn2, on2, uk2, uv2, hav2, hDb2, g0, g1, g2, g3, g4, g5, hbk, hbv⟩ := Rd.node hrd2 hLt
    have hnd2 : c.L[i] = ndOf seed l k v r i := by rw [List.getElem?_eq_getElem hLt] at hL; exact Option.some.inj hL
    rw [hnd2] at g4 g5 hbk hbv
    rw [hav2] at hvn2
    obtain ⟨ak, ck, rfl, _⟩ := id hbk
    obtain ⟨av3, cv3, rfl, _⟩ := id hbv
    have HVN := Lib.hid hvn2
    have BK7 := Lib.hid (show BV c.DN w7 (.slice ak k.length ck) k from hbk)
    have BV7 := Lib.hid (show BV c.DN w7 (.slice av3 v.length cv3) v from hbv)
    have DB := Lib.hid hDb2
    have GL7 := Lib.hid g4
    have GR7 := Lib.hid g5
    have z2 : w7.cell? ⟨c.q2, 0, none⟩ = some (.slice (some ⟨bn2, on2, none⟩) c.L.length cv2) := by have h2 := T7.out.h2; rw [HVN.out] at h2; simp [World.cell?, h2]
    clear hrd2 hcap2 hmx2 hbk hbv hDb2 g2 g3 g4 g5 hvn2
    refine wp_region_chain 12 [] (fun w' => w'.cell? ⟨c.q2, 0, none⟩ = some (.slice (some ⟨bn2, on2, none⟩) c.L.length cv2) ∧ w'.cell? ⟨bn2, on2 + i * 6, none⟩ = some (.slice ak k.length ck) ∧ w'.cell? ⟨bn2, on2 + i * 6 + 1, none⟩ = some (.slice av3 v.length cv3)) (by kernel_rfl) (by kernel_rfl) ?_ ?_
    · exact ⟨z2, g0, g1⟩
    simp only [List.take_succ_cons, List.take_zero, List.drop_succ_cons, List.drop_zero]
    iterate 12 (refine SeqY.val (v := ?_) (by rfl) (by rfl) (fun wx hSw => ?_) ?_; rotate_left; (focus ((try dsimp only at hSw); go_simp; (try with_reducible rfl))); (try simp only [Act.put, List.setIfInBounds_toArray, List.set_cons_zero, List.set_cons_succ]))
    refine SeqY.nil ?_
    clear z2 g0 g1
    have kd : Kept Noneof w7 w7.drew := (Kept.refl Noneof w7).drew
    (
    have T8 := Lib.hid (T7.out.kept0 kd)
    have OA8 := Lib.hid (OA7.out.kept kd fun _ h => h.elim)
    have OB8 := Lib.hid (OB7.out.kept kd fun _ h => h.elim)
    have GM8 := Lib.hid (kd.obj (fun h => h) GM7.out)
    have K8 := Lib.hid (K7.out.trans kd fun _ h => h.elim)
    have Y8 := Lib.hid (kd.obj (fun h => h) Y7.out)
    have BK8 := Lib.hid (SV.kept byteEl_k BK7.out kd fun _ _ _ h => h)
    have BV8 := Lib.hid (SV.kept byteEl_k BV7.out kd fun _ _ _ h => h)
    have GL8 := Lib.hid (kd.cell (p := ⟨bn2, on2 + i * 6 + 4, none⟩) (fun h => h) GL7.out)
    have GR8 := Lib.hid (kd.cell (p := ⟨bn2, on2 + i * 6 + 5, none⟩) (fun h => h) GR7.out)
    clear T7 OA7 OB7 GM7 K7 Y7 BK7 BV7 GL7 GR7)
    generalize w7.drew = w8 at *
    clear kd D7
    go_wp2_with fail
    refine (byClone_calls BK8.out).mono ?_
    rintro e w9 ⟨kn, rfl, o9, k9⟩
    have lb8 := Lib.hid (block_lt GM8.out)
    have hs9 := Lib.hid k9.size
    have OK9 := Lib.hid o9
    obtain ⟨p3, n3, d3, rfl⟩ := o9.slice'
    (
    have T9 := Lib.hid (T8.out.kept0 k9)
    have OA9 := Lib.hid (OA8.out.kept k9 fun _ h => h.elim)
    have OB9 := Lib.hid (OB8.out.kept k9 fun _ h => h.elim)
    have GM9 := Lib.hid (k9.obj (fun h => h) GM8.out)
    have K9 := Lib.hid (K8.out.trans k9 fun _ h => h.elim)
    have Y9 := Lib.hid (k9.obj (fun h => h) Y8.out)
    have BK9 := Lib.hid (SV.kept byteEl_k BK8.out k9 fun _ _ _ h => h)
    have BV9 := Lib.hid (SV.kept byteEl_k BV8.out k9 fun _ _ _ h => h)
    have GL9 := Lib.hid (k9.cell (p := ⟨bn2, on2 + i * 6 + 4, none⟩) (fun h => h) GL8.out)
    have GR9 := Lib.hid (k9.cell (p := ⟨bn2, on2 + i * 6 + 5, none⟩) (fun h => h) GR8.out)
    clear T8 OA8 OB8 GM8 K8 Y8 BK8 BV8 GL8 GR8)
    clear o9 k9
    go_wp2_with fail
    refine (byClone_calls BV9.out).mono ?_
    rintro e w10 ⟨vn', rfl, o10, k10⟩
    have k9s := Lib.hid k10.size
    have OK10 := Lib.hid (OK9.out.kept k10 fun _ h => h.elim)
    have OV10 := Lib.hid o10
    obtain ⟨p4, n4, d4, rfl⟩ := o10.slice'
    (
    have T10 := Lib.hid (T9.out.kept0 k10)
    have OA10 := Lib.hid (OA9.out.kept k10 fun _ h => h.elim)
    have OB10 := Lib.hid (OB9.out.kept k10 fun _ h => h.elim)
    have GM10 := Lib.hid (k10.obj (fun h => h) GM9.out)
    have K10 := Lib.hid (K9.out.trans k10 fun _ h => h.elim)
    have Y10 := Lib.hid (k10.obj (fun h => h) Y9.out)
    have BK10 := Lib.hid (SV.kept byteEl_k BK9.out k10 fun _ _ _ h => h)
    have BV10 := Lib.hid (SV.kept byteEl_k BV9.out k10 fun _ _ _ h => h)
    have GL10 := Lib.hid (k10.cell (p := ⟨bn2, on2 + i * 6 + 4, none⟩) (fun h => h) GL9.out)
    have GR10 := Lib.hid (k10.cell (p := ⟨bn2, on2 + i * 6 + 5, none⟩) (fun h => h) GR9.out)
    clear T9 OA9 OB9 GM9 K9 Y9 BK9 BV9 GL9 GR9)
    clear o10 k10 OK9
    have lb10 := Lib.hid (block_lt GM10.out)
    have gm10 := GM10.out
    have m0 : ∀ o, (w10.alloc o).cell? ⟨bm, 0, none⟩ = some (.slice p1 n1 d1) := fun o => ((Kept.refl Noneof w10).alloc o).cell (p := ⟨bm, 0, none⟩) (fun h => h) (by simp [World.cell?, gm10])
    have m1 : ∀ o, (w10.alloc o).cell? ⟨bm, 1, none⟩ = some (.slice p2 n2 d2) := fun o => ((Kept.refl Noneof w10).alloc o).cell (p := ⟨bm, 1, none⟩) (fun h => h) (by simp [World.cell?, gm10])
    have m2 : ∀ o, (w10.alloc o).cell? ⟨bm, 2, none⟩ = some (.bool bd) := fun o => ((Kept.refl Noneof w10).alloc o).cell (p := ⟨bm, 2, none⟩) (fun h => h) (by simp [World.cell?, gm10])
    have m3 : ∀ o, (w10.alloc o).cell? ⟨bm, 3, none⟩ = some (.int .i64 ((Tr.nd l k v r).size : Nat)) := fun o => ((Kept.refl Noneof w10).alloc o).cell (p := ⟨bm, 3, none⟩) (fun h => h) (by simp [World.cell?, gm10])
    have m4 : ∀ o, (w10.alloc o).cell? ⟨bm, 4, none⟩ = some (.int .u64 ((Tr.nd l k v r).dg seed)) := fun o => ((Kept.refl Noneof w10).alloc o).cell (p := ⟨bm, 4, none⟩) (fun h => h) (by simp [World.cell?, gm10])
    have m5 : ∀ o, (w10.alloc o).cell? ⟨bm, 5, none⟩ = some (.bool false) := fun o => ((Kept.refl Noneof w10).alloc o).cell (p := ⟨bm, 5, none⟩) (fun h => h) (by simp [World.cell?, gm10])
    have m6 : ∀ o, (w10.alloc o).cell? ⟨bm, 6, none⟩ = some (.slice none 0 0) := fun o => ((Kept.refl Noneof w10).alloc o).cell (p := ⟨bm, 6, none⟩) (fun h => h) (by simp [World.cell?, gm10])
    have mf : ∀ o j, (w10.alloc o).frozen? ⟨bm, j, none⟩ = false := fun o j => by have := ((Kept.refl Noneof w10).alloc o).obj (fun h => h) gm10; simp [World.frozen?, this]
    have z4 : ∀ o, (w10.alloc o).cell? ⟨c.q4, 0, none⟩ = some vo := fun o => ((Kept.refl Noneof w10).alloc o).cell (p := ⟨c.q4, 0, none⟩) (fun h => h) (by simp [World.cell?, T10.out.h4])
    have kp := (Kept.refl Noneof w10).alloc (.cells #[.slice p3 n3 d3, .slice p4 n4 d4] 70)
    have M12 := (Kept.refl (fun b => b = bm) (w10.alloc (.cells #[.slice p3 n3 d3, .slice p4 n4 d4] 70))).setCell (p := ⟨bm, 6, none⟩) (.inl rfl) (.slice (some ⟨w10.heap.size, 0, none⟩) 1 1)
    have kA := (Kept.refl Noneof ((w10.alloc (.cells #[.slice p3 n3 d3, .slice p4 n4 d4] 70)).setCell ⟨bm, 6, none⟩ (.slice (some ⟨w10.heap.size, 0, none⟩) 1 1))).alloc (msgObj (.slice p1 n1 d1) (.slice p2 n2 d2) bd ((Tr.nd l k v r).size : Nat) ((Tr.nd l k v r).dg seed) false (.slice (some ⟨w10.heap.size, 0, none⟩) 1 1))
    have s12 : ((w10.alloc (.cells #[.slice p3 n3 d3, .slice p4 n4 d4] 70)).setCell ⟨bm, 6, none⟩ (.slice (some ⟨w10.heap.size, 0, none⟩) 1 1)).heap.size = w10.heap.size + 1 := by simp
    have far : ∀ b, w1.heap.size ≤ b → b < w10.heap.size + 1 → c.B ≤ b ∧ vo.ownBlock ≠ some b ∧ vg.ownBlock ≠ some b ∧ vc.ownBlock ≠ some b := fun b h1 h2 => by
      have t := H.out
      have e2 := S0.out
      have e3 := t.hB
      exact ⟨by omega, fun e => by have := (t.ho.lt b e).2; omega, fun e => by have := (t.hg.lt b e).2; omega, fun e => by have := (t.hc.lt b e).2; omega⟩
    have hs10 := lb10.out
    have hs8 := lb8.out
    have h18 : w1.heap.size ≤ w8.heap.size := by have := HBM.out; omega
    have h89 := hs9.out
    have h910 : w9.heap.size ≤ w10.heap.size := k9s.out
    have nC : (Value.slice p3 n3 d3).ownBlock ≠ some bm := fun e => by have := (OK10.out.lt _ e).1; omega
    have nE : (Value.slice p4 n4 d4).ownBlock ≠ some bm := fun e => by have := (OV10.out.lt _ e).1; omega
    have la := OA10.out.lt
    have lb := OB10.out.lt
    have lc := OK10.out.lt
    have ld := OV10.out.lt
    have T12 := (T10.out.kept0 kp).kept M12 fun b e => by have e : b = bm := e; subst e; exact lT.out
    have G13 := heap_alloc_new ((w10.alloc (.cells #[.slice p3 n3 d3, .slice p4 n4 d4] 70)).setCell ⟨bm, 6, none⟩ (.slice (some ⟨w10.heap.size, 0, none⟩) 1 1)) (msgObj (.slice p1 n1 d1) (.slice p2 n2 d2) bd ((Tr.nd l k v r).size : Nat) ((Tr.nd l k v r).dg seed) false (.slice (some ⟨w10.heap.size, 0, none⟩) 1 1))
    rw [s12] at G13
    have G13 := Lib.hid G13
    have GP := kA.obj (p := w10.heap.size) (fun h => h) (M12.obj (p := w10.heap.size) (by omega) (heap_alloc_new w10 (.cells #[.slice p3 n3 d3, .slice p4 n4 d4] 70)))
    have kAA : Kept (fun b => b = bm) w10 (((w10.alloc (.cells #[.slice p3 n3 d3, .slice p4 n4 d4] 70)).setCell ⟨bm, 6, none⟩ (.slice (some ⟨w10.heap.size, 0, none⟩) 1 1)).alloc (msgObj (.slice p1 n1 d1) (.slice p2 n2 d2) bd ((Tr.nd l k v r).size : Nat) ((Tr.nd l k v r).dg seed) false (.slice (some ⟨w10.heap.size, 0, none⟩) 1 1))) := ((kp.mono fun _ h => h.elim).tr M12).trans kA fun _ h => h.elim
    have T13 := Lib.hid ((T12.kept0 kA).wide (R' := (fun b => R b ∨ (Value.slice p1 n1 d1).ownBlock = some b ∨ (Value.slice p2 n2 d2).ownBlock = some b ∨ (Value.slice p3 n3 d3).ownBlock = some b ∨ (Value.slice p4 n4 d4).ownBlock = some b ∨ b = w10.heap.size)) (fun b h => .inl h) (by
      have sz : (((w10.alloc (.cells #[.slice p3 n3 d3, .slice p4 n4 d4] 70)).setCell ⟨bm, 6, none⟩ (.slice (some ⟨w10.heap.size, 0, none⟩) 1 1)).alloc (msgObj (.slice p1 n1 d1) (.slice p2 n2 d2) bd ((Tr.nd l k v r).size : Nat) ((Tr.nd l k v r).dg seed) false (.slice (some ⟨w10.heap.size, 0, none⟩) 1 1))).heap.size = w10.heap.size + 2 := by simp
      rintro b (h | h | h | h | h | h)
      · exact .inl h
      · exact .inr ⟨by have := la b h; omega, far b (la b h).1 (by have := la b h; omega)⟩
      · exact .inr ⟨by have := lb b h; omega, far b (lb b h).1 (by have := lb b h; omega)⟩
      · exact .inr ⟨by have := lc b h; omega, far b (by have := lc b h; omega) (by have := lc b h; omega)⟩
      · exact .inr ⟨by have := ld b h; omega, far b (by have := ld b h; omega) (by have := ld b h; omega)⟩
      · exact .inr ⟨by omega, far b (by omega) (by omega)⟩))
    have BLA := Lib.hid ((OA10.out.kept kAA fun b hb _ => ⟨fun h => h.elim, fun e => by have hb : b = bm := hb; subst hb; exact nA.out e⟩).rd (D' := (fun b => R b ∨ (Value.slice p1 n1 d1).ownBlock = some b ∨ (Value.slice p2 n2 d2).ownBlock = some b ∨ (Value.slice p3 n3 d3).ownBlock = some b ∨ (Value.slice p4 n4 d4).ownBlock = some b ∨ b = w10.heap.size)) (fun _ h => h.elim) fun b h => .inr (.inl h))
    have BLB := Lib.hid ((OB10.out.kept kAA fun b hb _ => ⟨fun h => h.elim, fun e => by have hb : b = bm := hb; subst hb; exact nB.out e⟩).rd (D' := (fun b => R b ∨ (Value.slice p1 n1 d1).ownBlock = some b ∨ (Value.slice p2 n2 d2).ownBlock = some b ∨ (Value.slice p3 n3 d3).ownBlock = some b ∨ (Value.slice p4 n4 d4).ownBlock = some b ∨ b = w10.heap.size)) (fun _ h => h.elim) fun b h => .inr (.inr (.inl h)))
    have BLC := (OK10.out.kept kAA fun b hb _ => ⟨fun h => h.elim, fun e => by have hb : b = bm := hb; subst hb; exact nC e⟩).rd (D' := (fun b => R b ∨ (Value.slice p1 n1 d1).ownBlock = some b ∨ (Value.slice p2 n2 d2).ownBlock = some b ∨ (Value.slice p3 n3 d3).ownBlock = some b ∨ (Value.slice p4 n4 d4).ownBlock = some b ∨ b = w10.heap.size)) (fun _ h => h.elim) fun b h => .inr (.inr (.inr (.inl h)))
    have BLD := (OV10.out.kept kAA fun b hb _ => ⟨fun h => h.elim, fun e => by have hb : b = bm := hb; subst hb; exact nE e⟩).rd (D' := (fun b => R b ∨ (Value.slice p1 n1 d1).ownBlock = some b ∨ (Value.slice p2 n2 d2).ownBlock = some b ∨ (Value.slice p3 n3 d3).ownBlock = some b ∨ (Value.slice p4 n4 d4).ownBlock = some b ∨ b = w10.heap.size)) (fun _ h => h.elim) fun b h => .inr (.inr (.inr (.inr (.inl h))))
    have SP := Lib.hid (sv_pair1 (D := (fun b => R b ∨ (Value.slice p1 n1 d1).ownBlock = some b ∨ (Value.slice p2 n2 d2).ownBlock = some b ∨ (Value.slice p3 n3 d3).ownBlock = some b ∨ (Value.slice p4 n4 d4).ownBlock = some b ∨ b = w10.heap.size)) GP (.inr (.inr (.inr (.inr (.inr rfl))))) BLC BLD)
    have K13 := Lib.hid (K10.out.trans kAA fun b e => .inr (by have := HBM.out; have := S0.out; omega))
    have Y13 := Lib.hid (kAA.obj (p := w.heap.size) (fun e => hbm1 e.symm) Y10.out)
    have nDN : ∀ b, c.DN b → b < w10.heap.size → ¬ b = bm := fun b h _ e => lT.out.2.1 (e ▸ (T10.out.hD b h).1)
    have BK13 := Lib.hid (SV.kept byteEl_k BK10.out kAA nDN)
    have BV13 := Lib.hid (SV.kept byteEl_k BV10.out kAA nDN)
    have nbn : bn2 ≠ bm := fun e => lT.out.2.1 (e ▸ (T10.out.hD _ DB.out).1)
    have GL13 := Lib.hid (kAA.cell (p := ⟨bn2, on2 + i * 6 + 4, none⟩) nbn GL10.out)
    have GR13 := Lib.hid (kAA.cell (p := ⟨bn2, on2 + i * 6 + 5, none⟩) nbn GR10.out)
    have hR13 := Lib.hid T13.out.hR
    have HB13 := Lib.hid T13.out.hB
    have hby : (ol.length + 1) * 104 ≤ 140737488355328 := by have := BO.out; omega
    clear gm10 kp M12 kA far nC nE la lb lc ld T12 GP kAA BLC BLD s12 hs10 hs8 h18 h89 h910 T10 OA10 OB10 GM10 K10 Y10 BK10 BV10 GL10 GR10
    go_wp2_with (at_builtin; refine wl_app_one (E := msgEl) rfl (.tmp 97) (.tmp 99) _ rfl tMsgs (D' := (fun b => R b ∨ (Value.slice p1 n1 d1).ownBlock = some b ∨ (Value.slice p2 n2 d2).ownBlock = some b ∨ (Value.slice p3 n3 d3).ownBlock = some b ∨ (Value.slice p4 n4 d4).ownBlock = some b ∨ b = w10.heap.size)) vo ol rfl T13.out.ho (w10.heap.size + 1) _ ⟨low, high, bd, (Tr.nd l k v r).size, (Tr.nd l k v r).dg seed, false, [(k, v)]⟩ rfl ⟨_, _, G13.out⟩ ⟨_, _, _, rfl, BLA.out, BLB.out, SP.out⟩ (fun b h _ => ⟨h, (hR13.out b h).2.2.1⟩) hby (by decide) HB13.out ?_)
    intro v14 w14 o14 k14 hb14
    have hb14 : ∀ b, v14.ownBlock = some b → vo.ownBlock = some b ∨ (((w10.alloc (.cells #[.slice p3 n3 d3, .slice p4 n4 d4] 70)).setCell ⟨bm, 6, none⟩ (.slice (some ⟨w10.heap.size, 0, none⟩) 1 1)).alloc (msgObj (.slice p1 n1 d1) (.slice p2 n2 d2) bd ((Tr.nd l k v r).size : Nat) ((Tr.nd l k v r).dg seed) false (.slice (some ⟨w10.heap.size, 0, none⟩) 1 1))).heap.size ≤ b := fun b e => by have := hb14 b e; simpa using this
    have T14 := T13.out.say k14 o14 hb14
    obtain ⟨a14, n14, c14, rfl⟩ := o14.slice'
    have lt := T13.out.lt
    have ne := T13.out.ne
    have lov := T13.out.ho.lt
    have hRo := hR13.out
    have no14 : ∀ b, b < c.B → vo.ownBlock ≠ some b := fun b hb e => by have := (lov b e).1; omega
    have q4' := k14.obj (no14 _ lt.2.2.1) T13.out.h4
    have q6' := k14.obj (no14 _ lt.2.2.2.2.1) T13.out.h6
    have z4' : w14.cell? ⟨c.q4, 0, none⟩ = some vo := by simp [World.cell?, q4']
    have f4' : w14.frozen? ⟨c.q4, 0, none⟩ = false := by simp [World.frozen?, q4']
    have z6' : w14.cell? ⟨c.q6, 0, none⟩ = some vc := by simp [World.cell?, q6']
    have k15 := (k14.mono (T := fun b => b = c.q4 ∨ vo.ownBlock = some b) fun b h => .inr h).setCell (p := ⟨c.q4, 0, none⟩) (.inl (.inl rfl)) (.slice a14 n14 c14)
    have nDR : ∀ b, c.DN b → ¬ (b = c.q4 ∨ vo.ownBlock = some b) := fun b h e => by
      have := hRo b (.inl (H.out.hD b h).1)
      exact e.elim this.2.1.1 this.2.2.1
    have BK15 := SV.kept byteEl_k BK13.out k15 fun b h _ => nDR b h
    have BV15 := SV.kept byteEl_k BV13.out k15 fun b h _ => nDR b h
    have GL15 := k15.cell (p := ⟨bn2, on2 + i * 6 + 4, none⟩) (nDR _ DB.out) GL13.out
    have GR15 := k15.cell (p := ⟨bn2, on2 + i * 6 + 5, none⟩) (nDR _ DB.out) GR13.out
    have nw0 : ¬ (w.heap.size = c.q4 ∨ vo.ownBlock = some w.heap.size) := fun e => by
      have h1 := H.out.lt
      have h2 := H.out.hB
      rcases e with e | e
      · omega
      · have := (H.out.ho.lt _ e).2; omega
    have Y15 := k15.obj (p := w.heap.size) nw0 Y13.out
    have K15 := (K13.out.mono (T := TalkS c vo vg vc) fun _ h => h.elim).trans k15 fun b h => .inl (h.elim (fun h => .inl h) fun h => .inr (.inr (.inr (.inl h))))
    have s15 : (w14.setCell ⟨c.q4, 0, none⟩ (.slice a14 n14 c14)).heap.size = w14.heap.size := by simp
    have k16 := (Kept.refl Noneof (w14.setCell ⟨c.q4, 0, none⟩ (.slice a14 n14 c14))).alloc (.cells #[(.slice ak k.length ck), (.slice av3 v.length cv3)] 70)
    have G16 := heap_alloc_new (w14.setCell ⟨c.q4, 0, none⟩ (.slice a14 n14 c14)) (.cells #[(.slice ak k.length ck), (.slice av3 v.length cv3)] 70)
    rw [s15] at G16
    have G16 := Lib.hid G16
    have T16 := Lib.hid (T14.kept0 k16)
    have BK16 := Lib.hid (SV.kept byteEl_k BK15 k16 fun _ _ _ h => h)
    have BV16 := Lib.hid (SV.kept byteEl_k BV15 k16 fun _ _ _ h => h)
    have GL16 := Lib.hid (k16.cell (p := ⟨bn2, on2 + i * 6 + 4, none⟩) (fun h => h) GL15)
    have GR16 := Lib.hid (k16.cell (p := ⟨bn2, on2 + i * 6 + 5, none⟩) (fun h => h) GR15)
    have Y16 := Lib.hid (k16.obj (p := w.heap.size) (fun h => h) Y15)
    have K16 := Lib.hid (K15.trans k16 fun _ h => h.elim)
    have HO14 := Lib.hid (show ∀ b, (Value.slice a14 n14 c14).ownBlock = some b → vo.ownBlock = some b ∨ w.heap.size ≤ b from fun b e => (hb14 b e).imp id fun h => by have := K13.out.size; omega)
    have hR16 := Lib.hid T16.out.hR
    have HB16 := Lib.hid T16.out.hB
    have hby2 : (cl.length + 1) * 48 ≤ 140737488355328 := by have := BC1.out; simp only [Tr.size] at this; omega
    have hq46 : c.q4 ≠ c.q6 := ne.2.2.2.1
    have hq64 : c.q6 ≠ c.q4 := fun e => hq46 e.symm
    clear o14 k14 hb14 T14 lt ne lov hRo no14 q4' q6' k15 nDR BK15 BV15 GL15 GR15 nw0 Y15 K15 s15 k16 T13 BLA BLB SP K13 Y13 BK13 BV13 GL13 GR13 hR13 HB13 hby G13
    go_wp2_with (at_builtin; refine wl_app_one (E := pairEl) rfl (.tmp 101) (.tmp 105) _ rfl tPairs (D' := c.DN) vc cl rfl T16.out.hc w14.heap.size _ (k, v) rfl ⟨_, _, G16.out⟩ ⟨_, _, rfl, BK16.out, BV16.out⟩ (fun b h _ => ⟨.inl (H.out.hD b h).1, (hR16.out b (.inl (H.out.hD b h).1)).2.2.2.2⟩) hby2 (by decide) HB16.out ?_)
    intro v17 w17 o17 k17 hb17
    have hb17 : ∀ b, v17.ownBlock = some b → vc.ownBlock = some b ∨ ((w14.setCell ⟨c.q4, 0, none⟩ (.slice a14 n14 c14)).alloc (.cells #[(.slice ak k.length ck), (.slice av3 v.length cv3)] 70)).heap.size ≤ b := fun b e => by have := hb17 b e; simpa using this
    have T17 := T16.out.come k17 o17 hb17
    obtain ⟨a17, n17, c17, rfl⟩ := o17.slice'
    have lt := T16.out.lt
    have lcv := T16.out.hc.lt
    have nc17 : ∀ b, b < c.B → vc.ownBlock ≠ some b := fun b hb e => by have := (lcv b e).1; omega
    have q6' := k17.obj (nc17 _ lt.2.2.2.2.1) T16.out.h6
    have z6' : w17.cell? ⟨c.q6, 0, none⟩ = some vc := by simp [World.cell?, q6']
    have f6' : w17.frozen? ⟨c.q6, 0, none⟩ = false := by simp [World.frozen?, q6']
    have k18 := (k17.mono (T := fun b => b = c.q6 ∨ vc.ownBlock = some b) fun b h => .inr h).setCell (p := ⟨c.q6, 0, none⟩) (.inl (.inl rfl)) (.slice a17 n17 c17)
    have nDR : ∀ b, c.DN b → ¬ (b = c.q6 ∨ vc.ownBlock = some b) := fun b h e => by
      have := hR16.out b (.inl (H.out.hD b h).1)
      exact e.elim this.2.1.2.2 this.2.2.2.2
    have nw0 : ¬ (w.heap.size = c.q6 ∨ vc.ownBlock = some w.heap.size) := fun e => by
      have h1 := H.out.lt
      have h2 := H.out.hB
      rcases e with e | e
      · omega
      · have := (H.out.hc.lt _ e).2; omega
    have nw1 : vc.ownBlock ≠ some w.heap.size := fun e => nw0 (.inr e)
    have y17 := k17.obj (p := w.heap.size) nw1 Y16.out
    have y0 : w17.cell? ⟨w.heap.size, 0, none⟩ = some (.slice a1 low.length c1) := by simp [World.cell?, y17]
    have y1 : w17.cell? ⟨w.heap.size, 1, none⟩ = some (.slice a2 high.length c2) := by simp [World.cell?, y17]
    have y2 : w17.cell? ⟨w.heap.size, 2, none⟩ = some (.bool bd) := by simp [World.cell?, y17]
    have hq6w : c.q6 ≠ w.heap.size := fun e => nw0 (.inl e.symm)
    have BK18 := SV.kept byteEl_k BK16.out k18 fun b h _ => nDR b h
    have GL18 := k18.cell (p := ⟨bn2, on2 + i * 6 + 4, none⟩) (nDR _ DB.out) GL16.out
    have GR18 := k18.cell (p := ⟨bn2, on2 + i * 6 + 5, none⟩) (nDR _ DB.out) GR16.out
    have Y18 := k18.obj (p := w.heap.size) nw0 Y16.out
    have K18 := K16.out.trans k18 fun b h => .inl (h.elim (fun h => .inr (.inr (.inl h))) fun h => .inr (.inr (.inr (.inr (.inr h)))))
    have HC17 := Lib.hid (show ∀ b, (Value.slice a17 n17 c17).ownBlock = some b → vc.ownBlock = some b ∨ w.heap.size ≤ b from fun b e => (hb17 b e).imp id fun h => by have := K16.out.size; omega)
    clear o17 k17 hb17 lt lcv nc17 q6' k18 nDR nw1 y17 T16 BK16 BV16 GL16 GR16 Y16 K16 hR16 HB16 hby2 G16 m0 m1 m2 m3 m4 m5 m6 mf z4 nw0
    have T17 := Lib.hid T17
    have BK18 := Lib.hid BK18
    have GL18 := Lib.hid GL18
    have GR18 := Lib.hid GR18
    have Y18 := Lib.hid Y18
    have K18 := Lib.hid K18
    go_wp2_with fail
    generalize w17.setCell ⟨c.q6, 0, none⟩ (.slice a17 n17 c17) = w18 at *
    have nS : ∀ b, R b → b < w.heap.size → ¬ TalkS c vo vg vc b := fun b hb _ e => by
      have := H.out.hR b hb
      rcases e with e | e | e | e | e | e
      · exact this.2.1.1 e
      · exact this.2.1.2.1 e
      · exact this.2.1.2.2 e
      · exact this.2.2.1 e
      · exact this.2.2.2.1 e
      · exact this.2.2.2.2 e
    have BL18 := Lib.hid (H1.out.kept byteEl_k K18.out nS)
    have BH18 := Lib.hid (H2.out.kept byteEl_k K18.out nS)
    clear nS z6' f6' y0 y1 y2 hq6w
    refine (swspan_parts_calls BL18.out BH18.out BK18.out (by have := KV.out; omega)).mono ?_
    rintro e w19 ⟨nv, rfl, bn19, k19⟩
    have BN19 := Lib.hid bn19
    obtain ⟨a19, n19, c19, rfl⟩ : ∃ a n c, nv = .slice a n c := by obtain ⟨a, c, h, _⟩ := bn19; exact ⟨_, _, _, h⟩
    have K19 := Lib.hid k19
    clear bn19 k19
    go_wp2_with fail
    have g1 := heap_alloc_new w19 (.cells #[.slice a1 low.length c1, .slice ak k.length ck, .bool true] 170)
    have k1 := (Kept.refl Noneof w19).alloc (.cells #[.slice a1 low.length c1, .slice ak k.length ck, .bool true] 170)
    have s1 : (w19.alloc (.cells #[.slice a1 low.length c1, .slice ak k.length ck, .bool true] 170)).heap.size = w19.heap.size + 1 := by simp
    generalize w19.alloc (.cells #[.slice a1 low.length c1, .slice ak k.length ck, .bool true] 170) = wx at *
    have g2 := heap_alloc_new wx (.cells #[.slice a19 n19 c19, .slice a2 high.length c2, .bool bd] 170)
    have k2 := (Kept.refl Noneof wx).alloc (.cells #[.slice a19 n19 c19, .slice a2 high.length c2, .bool bd] 170)
    have s2 : (wx.alloc (.cells #[.slice a19 n19 c19, .slice a2 high.length c2, .bool bd] 170)).heap.size = w19.heap.size + 2 := by simp [s1]
    generalize wx.alloc (.cells #[.slice a19 n19 c19, .slice a2 high.length c2, .bool bd] 170) = w20 at *
    rw [s1] at g2
    have k1820 := (K19.out.trans k1 fun _ h => h.elim).trans k2 fun _ h => h.elim
    have G15 := Lib.hid (k2.obj (fun h => h) g1)
    have G16 := Lib.hid g2
    have z19 : w18.heap.size ≤ w19.heap.size := K19.out.size
    have T20 := Lib.hid ((T17.out.kept0 k1820).wide (R' := fun b => (R b ∨ (Value.slice p1 n1 d1).ownBlock = some b ∨ (Value.slice p2 n2 d2).ownBlock = some b ∨ (Value.slice p3 n3 d3).ownBlock = some b ∨ (Value.slice p4 n4 d4).ownBlock = some b ∨ b = w10.heap.size) ∨ w18.heap.size ≤ b ∧ b < w19.heap.size) (fun b h => .inl h) (fun b h => h.imp id fun h => ⟨by omega, by have := T17.out.hB; omega, fun e => by have := (T17.out.ho.lt b e).2; omega, fun e => by have := (T17.out.hg.lt b e).2; omega, fun e => by have := (T17.out.hc.lt b e).2; omega⟩))
    have BL20 := Lib.hid ((BL18.out.kept byteEl_k k1820 fun _ _ _ h => h).wide (D' := fun b => (R b ∨ (Value.slice p1 n1 d1).ownBlock = some b ∨ (Value.slice p2 n2 d2).ownBlock = some b ∨ (Value.slice p3 n3 d3).ownBlock = some b ∨ (Value.slice p4 n4 d4).ownBlock = some b ∨ b = w10.heap.size) ∨ w18.heap.size ≤ b ∧ b < w19.heap.size) byteEl_k fun b h _ => .inl (.inl h))
    have BH20 := Lib.hid ((BH18.out.kept byteEl_k k1820 fun _ _ _ h => h).wide (D' := fun b => (R b ∨ (Value.slice p1 n1 d1).ownBlock = some b ∨ (Value.slice p2 n2 d2).ownBlock = some b ∨ (Value.slice p3 n3 d3).ownBlock = some b ∨ (Value.slice p4 n4 d4).ownBlock = some b ∨ b = w10.heap.size) ∨ w18.heap.size ≤ b ∧ b < w19.heap.size) byteEl_k fun b h _ => .inl (.inl h))
    have BK20 := Lib.hid ((SV.kept byteEl_k BK18.out k1820 fun _ _ _ h => h).wide (D' := fun b => (R b ∨ (Value.slice p1 n1 d1).ownBlock = some b ∨ (Value.slice p2 n2 d2).ownBlock = some b ∨ (Value.slice p3 n3 d3).ownBlock = some b ∨ (Value.slice p4 n4 d4).ownBlock = some b ∨ b = w10.heap.size) ∨ w18.heap.size ≤ b ∧ b < w19.heap.size) byteEl_k fun b h _ => .inl (.inl (H.out.hD b h).1))
    have BN20 := Lib.hid (((BN19.out.bd byteEl_k).kept byteEl_k (k1.trans k2 fun _ h => h.elim) fun _ _ _ h => h).wide (D' := fun b => (R b ∨ (Value.slice p1 n1 d1).ownBlock = some b ∨ (Value.slice p2 n2 d2).ownBlock = some b ∨ (Value.slice p3 n3 d3).ownBlock = some b ∨ (Value.slice p4 n4 d4).ownBlock = some b ∨ b = w10.heap.size) ∨ w18.heap.size ≤ b ∧ b < w19.heap.size) byteEl_k fun b h _ => .inr h)
    have GL20 := Lib.hid (k1820.cell (p := ⟨bn2, on2 + i * 6 + 4, none⟩) (fun h => h) GL18.out)
    have GR20 := Lib.hid (k1820.cell (p := ⟨bn2, on2 + i * 6 + 5, none⟩) (fun h => h) GR18.out)
    have K20 := Lib.hid (K18.out.trans k1820 fun _ h => h.elim)
    have n1516 : ∀ b, w19.heap.size ≤ b → ¬ TalkS c (.slice a14 n14 c14) vg (.slice a17 n17 c17) b := fun b h => T17.out.newS b (by omega)
    have HS2 := Lib.hid s2
    have HZ19 := Lib.hid z19
    have g15 := G15.out
    have t20 := T20.out.h2
    rw [HVN.out] at t20
    have x7 : w20.cell? ⟨c.q7, 0, none⟩ = some (.func (.func 117) #[] #[bp c.q2, bp c.q3, bp c.q4, bp c.q5, bp c.q6, bp c.q7]) := by simp [World.cell?, T20.out.h7]
    have x2 : w20.cell? ⟨c.q2, 0, none⟩ = some (.slice (some ⟨bn2, on2, none⟩) c.L.length cv2) := by simp [World.cell?, t20]
    have x0 : w20.cell? ⟨w19.heap.size, 0, none⟩ = some (.slice a1 low.length c1) := by simp [World.cell?, g15]
    have x1 : w20.cell? ⟨w19.heap.size, 1, none⟩ = some (.slice ak k.length ck) := by simp [World.cell?, g15]
    have x3 : w20.cell? ⟨w19.heap.size, 2, none⟩ = some (.bool true) := by simp [World.cell?, g15]
    have x4 := GL20.out
    clear g1 k1 s1 g2 k2 s2 k1820 z19 T17 BL18 BH18 BK18 BN19 GL18 GR18 K18 K19 g15 t20
    refine wp_region_chain 8 [7] (fun w' => w'.cell? ⟨c.q7, 0, none⟩ = some (.func (.func 117) #[] #[bp c.q2, bp c.q3, bp c.q4, bp c.q5, bp c.q6, bp c.q7]) ∧ w'.cell? ⟨c.q2, 0, none⟩ = some (.slice (some ⟨bn2, on2, none⟩) c.L.length cv2) ∧ w'.cell? ⟨w19.heap.size, 0, none⟩ = some (.slice a1 low.length c1) ∧ w'.cell? ⟨w19.heap.size, 1, none⟩ = some (.slice ak k.length ck) ∧ w'.cell? ⟨w19.heap.size, 2, none⟩ = some (.bool true) ∧ w'.cell? ⟨bn2, on2 + i * 6 + 4, none⟩ = some (.int .i64 (ndOf seed l k v r i).left)) (by kernel_rfl) (by kernel_rfl) ?_ ?_
    · exact ⟨x7, x2, x0, x1, x3, x4⟩
    simp only [List.take_succ_cons, List.take_zero, List.drop_succ_cons, List.drop_zero]
    iterate 7 (refine SeqY.val (v := ?_) (by rfl) (by rfl) (fun wx hSw => ?_) ?_; rotate_left; (focus ((try dsimp only at hSw); go_simp; (try with_reducible rfl))); (try simp only [Act.put, List.setIfInBounds_toArray, List.set_cons_zero, List.set_cons_succ]))
    refine SeqY.act (by rfl) rfl (by rfl) (by rfl) (fun K hK => ?_)
    go_simp
    have b1 := BO1.out
    have b2 := BG1.out
    have b3 := BC1.out
    have bb := Lib.hid (talk_bnd1 b1 b2 b3)
    refine (IL.out _ _ vg _ w20.drew (ol ++ [⟨low, high, bd, (Tr.nd l k v r).size, (Tr.nd l k v r).dg seed, false, [(k, v)]⟩]) gl (cl ++ [(k, v)]) _ _ low k true _ (T20.out.kept0 ((Kept.refl Noneof w20).drew)) (BL20.out.at rfl) (BK20.out.at rfl) NL.out (by rw [len_one]; exact bb.out.1) bb.out.2.1 (by rw [len_one]; exact bb.out.2.2)).mono ?_
    rintro e w21 ⟨⟨v21, rfl⟩, R21, vo21, vg21, vc21, T21, hR21, k21, hb21⟩
    have k21 : Kept (TalkS c (.slice a14 n14 c14) vg (.slice a17 n17 c17)) w20 w21 := ⟨k21.os, k21.tape, k21.output, k21.size, k21.block⟩
    have hb21 : ∀ b, (vo21.ownBlock = some b → (Value.slice a14 n14 c14).ownBlock = some b ∨ w20.heap.size ≤ b) ∧ (vg21.ownBlock = some b → vg.ownBlock = some b ∨ w20.heap.size ≤ b) ∧ (vc21.ownBlock = some b → (Value.slice a17 n17 c17).ownBlock = some b ∨ w20.heap.size ≤ b) := hb21
    have t20 := T20.out
    have n15 : ¬ TalkS c (.slice a14 n14 c14) vg (.slice a17 n17 c17) w19.heap.size := n1516 _ (Nat.le_refl _)
    have n16 : ¬ TalkS c (.slice a14 n14 c14) vg (.slice a17 n17 c17) (w19.heap.size + 1) := n1516 _ (Nat.le_succ _)
    have nbn2 : ¬ TalkS c (.slice a14 n14 c14) vg (.slice a17 n17 c17) bn2 := t20.notS bn2 (.inl (.inl (H.out.hD _ DB.out).1))
    have t21 := T21.h2
    rw [HVN.out] at t21
    have x7' : w21.cell? ⟨c.q7, 0, none⟩ = some (.func (.func 117) #[] #[bp c.q2, bp c.q3, bp c.q4, bp c.q5, bp c.q6, bp c.q7]) := by simp [World.cell?, T21.h7]
    have x2' : w21.cell? ⟨c.q2, 0, none⟩ = some (.slice (some ⟨bn2, on2, none⟩) c.L.length cv2) := by simp [World.cell?, t21]
    have g16 := k21.obj n16 G16.out
    have x0' : w21.cell? ⟨w19.heap.size + 1, 0, none⟩ = some (.slice a19 n19 c19) := by simp [World.cell?, g16]
    have x1' : w21.cell? ⟨w19.heap.size + 1, 1, none⟩ = some (.slice a2 high.length c2) := by simp [World.cell?, g16]
    have x3' : w21.cell? ⟨w19.heap.size + 1, 2, none⟩ = some (.bool bd) := by simp [World.cell?, g16]
    have x4' := k21.cell (p := ⟨bn2, on2 + i * 6 + 5, none⟩) nbn2 GR20.out
    refine hK.out _ _ ⟨x7', x2', k21.cell (p := ⟨w19.heap.size, 0, none⟩) n15 x0, k21.cell (p := ⟨w19.heap.size, 1, none⟩) n15 x1, k21.cell (p := ⟨w19.heap.size, 2, none⟩) n15 x3, k21.cell (p := ⟨bn2, on2 + i * 6 + 4, none⟩) nbn2 x4⟩ ?_
    have BN21 := Lib.hid ((BN20.out.kept byteEl_k k21 fun b h _ => t20.notS b h).wide byteEl_k fun b h _ => hR21 b h)
    have BH21 := Lib.hid ((BH20.out.kept byteEl_k k21 fun b h _ => t20.notS b h).wide byteEl_k fun b h _ => hR21 b h)
    have NN16 := Lib.hid (show ¬ TalkS c vo21 vg21 vc21 (w19.heap.size + 1) from fun e => (TalkS.tr (n := w20.heap.size) hb21 _ e).elim n16 fun h => by have := HS2.out; omega)
    have HR21 := Lib.hid (show ∀ b, R b → R21 b from fun b h => hR21 b (.inl (.inl h)))
    have K20b := Lib.hid (K20.out.trans k21 fun b hb => TalkS.tr (vo := vo) (vg := vg) (vc := vc) (fun b => ⟨HO14.out b, .inl, HC17.out b⟩) b hb)
    have hw20 := K20.out.size
    have HB21 := Lib.hid (show ∀ b, (vo21.ownBlock = some b → vo.ownBlock = some b ∨ w.heap.size ≤ b) ∧ (vg21.ownBlock = some b → vg.ownBlock = some b ∨ w.heap.size ≤ b) ∧ (vc21.ownBlock = some b → vc.ownBlock = some b ∨ w.heap.size ≤ b) from fun b => ⟨fun e => ((hb21 b).1 e).elim (HO14.out b) fun h => .inr (by omega), fun e => ((hb21 b).2.1 e).imp id fun h => by omega, fun e => ((hb21 b).2.2 e).elim (HC17.out b) fun h => .inr (by omega)⟩)
    have T21 := Lib.hid T21
    have BB2 := Lib.hid (talk_bnd2 b1 b2 b3 (talk_le seed u l low k true) (gones_le seed u HU.out l low k true) (comes_le seed u l low k true))
    clear K hK k21 hb21 t20 n15 n16 nbn2 t21 x7 x2 x0 x1 x3 x4 g16 hR21 hw20 bb T20 BL20 BH20 BK20 BN20 GL20 GR20 K20 G15 G16 b1 b2 b3
    (try simp only [Act.put, List.setIfInBounds_toArray, List.set_cons_zero, List.set_cons_succ])
    refine SeqY.nil ?_
    go_wp2_with fail
    refine wp_region_chain 8 [7] (fun w' => w'.cell? ⟨c.q7, 0, none⟩ = some (.func (.func 117) #[] #[bp c.q2, bp c.q3, bp c.q4, bp c.q5, bp c.q6, bp c.q7]) ∧ w'.cell? ⟨c.q2, 0, none⟩ = some (.slice (some ⟨bn2, on2, none⟩) c.L.length cv2) ∧ w'.cell? ⟨w19.heap.size + 1, 0, none⟩ = some (.slice a19 n19 c19) ∧ w'.cell? ⟨w19.heap.size + 1, 1, none⟩ = some (.slice a2 high.length c2) ∧ w'.cell? ⟨w19.heap.size + 1, 2, none⟩ = some (.bool bd) ∧ w'.cell? ⟨bn2, on2 + i * 6 + 5, none⟩ = some (.int .i64 (ndOf seed l k v r i).right)) (by kernel_rfl) (by kernel_rfl) ?_ ?_
    · exact ⟨x7', x2', x0', x1', x3', x4'⟩
    simp only [List.take_succ_cons, List.take_zero, List.drop_succ_cons, List.drop_zero]
    iterate 7 (refine SeqY.val (v := ?_) (by rfl) (by rfl) (fun wx hSw => ?_) ?_; rotate_left; (focus ((try dsimp only at hSw); go_simp; (try with_reducible rfl))); (try simp only [Act.put, List.setIfInBounds_toArray, List.set_cons_zero, List.set_cons_succ]))
    refine SeqY.act (by rfl) rfl (by rfl) (by rfl) (fun K hK => ?_)
    go_simp
    refine (IR.out _ _ _ _ w21.drew _ _ _ _ _ (k ++ [0]) high bd _ (T21.out.kept0 ((Kept.refl Noneof w21).drew)) (BN21.out.at rfl) (BH21.out.at rfl) NR.out (by rw [List.length_append, len_one]; exact BB2.out.1) (by rw [List.length_append]; exact BB2.out.2.1) (by rw [List.length_append, len_one]; exact BB2.out.2.2)).mono ?_
    rintro e w22 ⟨⟨v22, rfl⟩, R22, vo22, vg22, vc22, T22, hR22, k22, hb22⟩
    have k22 : Kept (TalkS c vo21 vg21 vc21) w21 w22 := ⟨k22.os, k22.tape, k22.output, k22.size, k22.block⟩
    have hb22 : ∀ b, (vo22.ownBlock = some b → vo21.ownBlock = some b ∨ w21.heap.size ≤ b) ∧ (vg22.ownBlock = some b → vg21.ownBlock = some b ∨ w21.heap.size ≤ b) ∧ (vc22.ownBlock = some b → vc21.ownBlock = some b ∨ w21.heap.size ≤ b) := hb22
    have t22 := T22.h2
    rw [HVN.out] at t22
    have nn : ∀ b, (b = w19.heap.size + 1 ∨ b = bn2) → ¬ TalkS c vo21 vg21 vc21 b := fun b hb => by
      rcases hb with rfl | rfl
      · exact NN16.out
      · exact T21.out.notS _ (HR21.out _ (H.out.hD _ DB.out).1)
    refine hK.out _ _ ⟨by simp [World.cell?, T22.h7], by simp [World.cell?, t22], k22.cell (p := ⟨w19.heap.size + 1, 0, none⟩) (nn _ (.inl rfl)) x0', k22.cell (p := ⟨w19.heap.size + 1, 1, none⟩) (nn _ (.inl rfl)) x1', k22.cell (p := ⟨w19.heap.size + 1, 2, none⟩) (nn _ (.inl rfl)) x3', k22.cell (p := ⟨bn2, on2 + i * 6 + 5, none⟩) (nn _ (.inr rfl)) x4'⟩ ?_
    clear K hK
    (try simp only [Act.put, List.setIfInBounds_toArray, List.set_cons_zero, List.set_cons_succ])
    refine SeqY.nil ?_
    go_wp2
    refine bodyPost_ret (results_none rfl _ _ _) rfl ?_
    have hs := HS.out
    have q1 : ol ++ talk seed u (.nd l k v r) low high bd = ol ++ [⟨low, high, bd, (Tr.nd l k v r).size, (Tr.nd l k v r).dg seed, false, [(k, v)]⟩] ++ talk seed u l low k true ++ talk seed u r (k ++ [0]) high bd := by rw [talk, if_neg (by rw [hs]; simp)]; simp
    have q2 : gl ++ gones seed u (.nd l k v r) low high bd = gl ++ gones seed u l low k true ++ gones seed u r (k ++ [0]) high bd := by rw [gones, if_neg (by rw [hs]; simp)]; simp
    have q3 : cl ++ comes seed u (.nd l k v r) low high bd = cl ++ [(k, v)] ++ comes seed u l low k true ++ comes seed u r (k ++ [0]) high bd := by rw [comes, if_neg (by rw [hs]; simp)]; simp
    rw [q1, q2, q3]
    have hw21 := K20b.out.size
    exact ⟨⟨_, rfl⟩, R22, vo22, vg22, vc22, T22, fun b h => hR22 b (HR21.out b h), K20b.out.trans k22 fun b hb => TalkS.tr HB21.out b hb, fun b => ⟨fun e => ((hb22 b).1 e).elim ((HB21.out b).1) fun h => .inr (by omega), fun e => ((hb22 b).2.1 e).elim ((HB21.out b).2.1) fun h => .inr (by omega), fun e => ((hb22 b).2.2 e).elim ((HB21.out b).2.2) fun h => .inr (by omega)⟩⟩)
  | true =>
    rw [g1] at e1
    cases g2 : ((u.cut low true high bd).dg seed == (Tr.nd l k v r).dg seed) with
    | false =>
      have hs : sameAt seed u (.nd l k v r) low high bd = false := by unfold sameAt; rw [g1, g2]; rfl
      have HS := Lib.hid hs
      (
    go_wp2_with fail
    have M7 := (Kept.refl (fun b => b = bm) w6).setCell (p := ⟨bm, 5, none⟩) (.inl rfl) (.bool false)
    have T7 := T6.out.kept M7 fun b e => by have e : b = bm := e; subst e; exact lT.out
    have OA7 := OA6.out.kept M7 fun b hb _ => ⟨fun h => h.elim, fun e => by have hb : b = bm := hb; subst hb; exact nA.out e⟩
    have OB7 := OB6.out.kept M7 fun b hb _ => ⟨fun h => h.elim, fun e => by have hb : b = bm := hb; subst hb; exact nB.out e⟩
    have GM7 := setCell_obj GM6.out (.bool false) (j := 5)
    have K7 := K6.out.trans M7 fun b e => .inr (by have := HBM.out; have := S0.out; omega)
    have Y7 := M7.obj (p := w.heap.size) (fun e => hbm1 e.symm) Y6.out
    generalize w6.setCell ⟨bm, 5, none⟩ (.bool false) = w7 at *
    have T7 := Lib.hid T7
    have OA7 := Lib.hid OA7
    have OB7 := Lib.hid OB7
    have GM7 := Lib.hid (show w7.heap[bm]? = some (msgObj (.slice p1 n1 d1) (.slice p2 n2 d2) bd ((Tr.nd l k v r).size : Nat) ((Tr.nd l k v r).dg seed) false (.slice none 0 0)) from GM7)
    have K7 := Lib.hid K7
    have Y7 := Lib.hid Y7
    have D7 := Lib.hid (show SV nodeEl c.DN w7 c.vn c.L from T7.out.hn)
    clear M7 m0 m1 m2 m3 m4 m5 m6 mf y0 y1 y2 z2 z3 z4 z5 N6 N5 BK BV' HVN
    obtain ⟨av2, cv2, hvn2, hcap2, hmx2, hrd2⟩ := D7.out
    obtain ⟨bn2, on2, uk2, uv2, hav2, hDb2, g0, g1, g2, g3, g4, g5, hbk, hbv⟩ := Rd.node hrd2 hLt
    have hnd2 : c.L[i] = ndOf seed l k v r i := by rw [List.getElem?_eq_getElem hLt] at hL; exact Option.some.inj hL
    rw [hnd2] at g4 g5 hbk hbv
    rw [hav2] at hvn2
    obtain ⟨ak, ck, rfl, _⟩ := id hbk
    obtain ⟨av3, cv3, rfl, _⟩ := id hbv
    have HVN := Lib.hid hvn2
    have BK7 := Lib.hid (show BV c.DN w7 (.slice ak k.length ck) k from hbk)
    have BV7 := Lib.hid (show BV c.DN w7 (.slice av3 v.length cv3) v from hbv)
    have DB := Lib.hid hDb2
    have GL7 := Lib.hid g4
    have GR7 := Lib.hid g5
    have z2 : w7.cell? ⟨c.q2, 0, none⟩ = some (.slice (some ⟨bn2, on2, none⟩) c.L.length cv2) := by have h2 := T7.out.h2; rw [HVN.out] at h2; simp [World.cell?, h2]
    clear hrd2 hcap2 hmx2 hbk hbv hDb2 g2 g3 g4 g5 hvn2
    refine wp_region_chain 12 [] (fun w' => w'.cell? ⟨c.q2, 0, none⟩ = some (.slice (some ⟨bn2, on2, none⟩) c.L.length cv2) ∧ w'.cell? ⟨bn2, on2 + i * 6, none⟩ = some (.slice ak k.length ck) ∧ w'.cell? ⟨bn2, on2 + i * 6 + 1, none⟩ = some (.slice av3 v.length cv3)) (by kernel_rfl) (by kernel_rfl) ?_ ?_
    · exact ⟨z2, g0, g1⟩
    simp only [List.take_succ_cons, List.take_zero, List.drop_succ_cons, List.drop_zero]
    iterate 12 (refine SeqY.val (v := ?_) (by rfl) (by rfl) (fun wx hSw => ?_) ?_; rotate_left; (focus ((try dsimp only at hSw); go_simp; (try with_reducible rfl))); (try simp only [Act.put, List.setIfInBounds_toArray, List.set_cons_zero, List.set_cons_succ]))
    refine SeqY.nil ?_
    clear z2 g0 g1
    have kd : Kept Noneof w7 w7.drew := (Kept.refl Noneof w7).drew
    (
    have T8 := Lib.hid (T7.out.kept0 kd)
    have OA8 := Lib.hid (OA7.out.kept kd fun _ h => h.elim)
    have OB8 := Lib.hid (OB7.out.kept kd fun _ h => h.elim)
    have GM8 := Lib.hid (kd.obj (fun h => h) GM7.out)
    have K8 := Lib.hid (K7.out.trans kd fun _ h => h.elim)
    have Y8 := Lib.hid (kd.obj (fun h => h) Y7.out)
    have BK8 := Lib.hid (SV.kept byteEl_k BK7.out kd fun _ _ _ h => h)
    have BV8 := Lib.hid (SV.kept byteEl_k BV7.out kd fun _ _ _ h => h)
    have GL8 := Lib.hid (kd.cell (p := ⟨bn2, on2 + i * 6 + 4, none⟩) (fun h => h) GL7.out)
    have GR8 := Lib.hid (kd.cell (p := ⟨bn2, on2 + i * 6 + 5, none⟩) (fun h => h) GR7.out)
    clear T7 OA7 OB7 GM7 K7 Y7 BK7 BV7 GL7 GR7)
    generalize w7.drew = w8 at *
    clear kd D7
    go_wp2_with fail
    refine (byClone_calls BK8.out).mono ?_
    rintro e w9 ⟨kn, rfl, o9, k9⟩
    have lb8 := Lib.hid (block_lt GM8.out)
    have hs9 := Lib.hid k9.size
    have OK9 := Lib.hid o9
    obtain ⟨p3, n3, d3, rfl⟩ := o9.slice'
    (
    have T9 := Lib.hid (T8.out.kept0 k9)
    have OA9 := Lib.hid (OA8.out.kept k9 fun _ h => h.elim)
    have OB9 := Lib.hid (OB8.out.kept k9 fun _ h => h.elim)
    have GM9 := Lib.hid (k9.obj (fun h => h) GM8.out)
    have K9 := Lib.hid (K8.out.trans k9 fun _ h => h.elim)
    have Y9 := Lib.hid (k9.obj (fun h => h) Y8.out)
    have BK9 := Lib.hid (SV.kept byteEl_k BK8.out k9 fun _ _ _ h => h)
    have BV9 := Lib.hid (SV.kept byteEl_k BV8.out k9 fun _ _ _ h => h)
    have GL9 := Lib.hid (k9.cell (p := ⟨bn2, on2 + i * 6 + 4, none⟩) (fun h => h) GL8.out)
    have GR9 := Lib.hid (k9.cell (p := ⟨bn2, on2 + i * 6 + 5, none⟩) (fun h => h) GR8.out)
    clear T8 OA8 OB8 GM8 K8 Y8 BK8 BV8 GL8 GR8)
    clear o9 k9
    go_wp2_with fail
    refine (byClone_calls BV9.out).mono ?_
    rintro e w10 ⟨vn', rfl, o10, k10⟩
    have k9s := Lib.hid k10.size
    have OK10 := Lib.hid (OK9.out.kept k10 fun _ h => h.elim)
    have OV10 := Lib.hid o10
    obtain ⟨p4, n4, d4, rfl⟩ := o10.slice'
    (
    have T10 := Lib.hid (T9.out.kept0 k10)
    have OA10 := Lib.hid (OA9.out.kept k10 fun _ h => h.elim)
    have OB10 := Lib.hid (OB9.out.kept k10 fun _ h => h.elim)
    have GM10 := Lib.hid (k10.obj (fun h => h) GM9.out)
    have K10 := Lib.hid (K9.out.trans k10 fun _ h => h.elim)
    have Y10 := Lib.hid (k10.obj (fun h => h) Y9.out)
    have BK10 := Lib.hid (SV.kept byteEl_k BK9.out k10 fun _ _ _ h => h)
    have BV10 := Lib.hid (SV.kept byteEl_k BV9.out k10 fun _ _ _ h => h)
    have GL10 := Lib.hid (k10.cell (p := ⟨bn2, on2 + i * 6 + 4, none⟩) (fun h => h) GL9.out)
    have GR10 := Lib.hid (k10.cell (p := ⟨bn2, on2 + i * 6 + 5, none⟩) (fun h => h) GR9.out)
    clear T9 OA9 OB9 GM9 K9 Y9 BK9 BV9 GL9 GR9)
    clear o10 k10 OK9
    have lb10 := Lib.hid (block_lt GM10.out)
    have gm10 := GM10.out
    have m0 : ∀ o, (w10.alloc o).cell? ⟨bm, 0, none⟩ = some (.slice p1 n1 d1) := fun o => ((Kept.refl Noneof w10).alloc o).cell (p := ⟨bm, 0, none⟩) (fun h => h) (by simp [World.cell?, gm10])
    have m1 : ∀ o, (w10.alloc o).cell? ⟨bm, 1, none⟩ = some (.slice p2 n2 d2) := fun o => ((Kept.refl Noneof w10).alloc o).cell (p := ⟨bm, 1, none⟩) (fun h => h) (by simp [World.cell?, gm10])
    have m2 : ∀ o, (w10.alloc o).cell? ⟨bm, 2, none⟩ = some (.bool bd) := fun o => ((Kept.refl Noneof w10).alloc o).cell (p := ⟨bm, 2, none⟩) (fun h => h) (by simp [World.cell?, gm10])
    have m3 : ∀ o, (w10.alloc o).cell? ⟨bm, 3, none⟩ = some (.int .i64 ((Tr.nd l k v r).size : Nat)) := fun o => ((Kept.refl Noneof w10).alloc o).cell (p := ⟨bm, 3, none⟩) (fun h => h) (by simp [World.cell?, gm10])
    have m4 : ∀ o, (w10.alloc o).cell? ⟨bm, 4, none⟩ = some (.int .u64 ((Tr.nd l k v r).dg seed)) := fun o => ((Kept.refl Noneof w10).alloc o).cell (p := ⟨bm, 4, none⟩) (fun h => h) (by simp [World.cell?, gm10])
    have m5 : ∀ o, (w10.alloc o).cell? ⟨bm, 5, none⟩ = some (.bool false) := fun o => ((Kept.refl Noneof w10).alloc o).cell (p := ⟨bm, 5, none⟩) (fun h => h) (by simp [World.cell?, gm10])
    have m6 : ∀ o, (w10.alloc o).cell? ⟨bm, 6, none⟩ = some (.slice none 0 0) := fun o => ((Kept.refl Noneof w10).alloc o).cell (p := ⟨bm, 6, none⟩) (fun h => h) (by simp [World.cell?, gm10])
    have mf : ∀ o j, (w10.alloc o).frozen? ⟨bm, j, none⟩ = false := fun o j => by have := ((Kept.refl Noneof w10).alloc o).obj (fun h => h) gm10; simp [World.frozen?, this]
    have z4 : ∀ o, (w10.alloc o).cell? ⟨c.q4, 0, none⟩ = some vo := fun o => ((Kept.refl Noneof w10).alloc o).cell (p := ⟨c.q4, 0, none⟩) (fun h => h) (by simp [World.cell?, T10.out.h4])
    have kp := (Kept.refl Noneof w10).alloc (.cells #[.slice p3 n3 d3, .slice p4 n4 d4] 70)
    have M12 := (Kept.refl (fun b => b = bm) (w10.alloc (.cells #[.slice p3 n3 d3, .slice p4 n4 d4] 70))).setCell (p := ⟨bm, 6, none⟩) (.inl rfl) (.slice (some ⟨w10.heap.size, 0, none⟩) 1 1)
    have kA := (Kept.refl Noneof ((w10.alloc (.cells #[.slice p3 n3 d3, .slice p4 n4 d4] 70)).setCell ⟨bm, 6, none⟩ (.slice (some ⟨w10.heap.size, 0, none⟩) 1 1))).alloc (msgObj (.slice p1 n1 d1) (.slice p2 n2 d2) bd ((Tr.nd l k v r).size : Nat) ((Tr.nd l k v r).dg seed) false (.slice (some ⟨w10.heap.size, 0, none⟩) 1 1))
    have s12 : ((w10.alloc (.cells #[.slice p3 n3 d3, .slice p4 n4 d4] 70)).setCell ⟨bm, 6, none⟩ (.slice (some ⟨w10.heap.size, 0, none⟩) 1 1)).heap.size = w10.heap.size + 1 := by simp
    have far : ∀ b, w1.heap.size ≤ b → b < w10.heap.size + 1 → c.B ≤ b ∧ vo.ownBlock ≠ some b ∧ vg.ownBlock ≠ some b ∧ vc.ownBlock ≠ some b := fun b h1 h2 => by
      have t := H.out
      have e2 := S0.out
      have e3 := t.hB
      exact ⟨by omega, fun e => by have := (t.ho.lt b e).2; omega, fun e => by have := (t.hg.lt b e).2; omega, fun e => by have := (t.hc.lt b e).2; omega⟩
    have hs10 := lb10.out
    have hs8 := lb8.out
    have h18 : w1.heap.size ≤ w8.heap.size := by have := HBM.out; omega
    have h89 := hs9.out
    have h910 : w9.heap.size ≤ w10.heap.size := k9s.out
    have nC : (Value.slice p3 n3 d3).ownBlock ≠ some bm := fun e => by have := (OK10.out.lt _ e).1; omega
    have nE : (Value.slice p4 n4 d4).ownBlock ≠ some bm := fun e => by have := (OV10.out.lt _ e).1; omega
    have la := OA10.out.lt
    have lb := OB10.out.lt
    have lc := OK10.out.lt
    have ld := OV10.out.lt
    have T12 := (T10.out.kept0 kp).kept M12 fun b e => by have e : b = bm := e; subst e; exact lT.out
    have G13 := heap_alloc_new ((w10.alloc (.cells #[.slice p3 n3 d3, .slice p4 n4 d4] 70)).setCell ⟨bm, 6, none⟩ (.slice (some ⟨w10.heap.size, 0, none⟩) 1 1)) (msgObj (.slice p1 n1 d1) (.slice p2 n2 d2) bd ((Tr.nd l k v r).size : Nat) ((Tr.nd l k v r).dg seed) false (.slice (some ⟨w10.heap.size, 0, none⟩) 1 1))
    rw [s12] at G13
    have G13 := Lib.hid G13
    have GP := kA.obj (p := w10.heap.size) (fun h => h) (M12.obj (p := w10.heap.size) (by omega) (heap_alloc_new w10 (.cells #[.slice p3 n3 d3, .slice p4 n4 d4] 70)))
    have kAA : Kept (fun b => b = bm) w10 (((w10.alloc (.cells #[.slice p3 n3 d3, .slice p4 n4 d4] 70)).setCell ⟨bm, 6, none⟩ (.slice (some ⟨w10.heap.size, 0, none⟩) 1 1)).alloc (msgObj (.slice p1 n1 d1) (.slice p2 n2 d2) bd ((Tr.nd l k v r).size : Nat) ((Tr.nd l k v r).dg seed) false (.slice (some ⟨w10.heap.size, 0, none⟩) 1 1))) := ((kp.mono fun _ h => h.elim).tr M12).trans kA fun _ h => h.elim
    have T13 := Lib.hid ((T12.kept0 kA).wide (R' := (fun b => R b ∨ (Value.slice p1 n1 d1).ownBlock = some b ∨ (Value.slice p2 n2 d2).ownBlock = some b ∨ (Value.slice p3 n3 d3).ownBlock = some b ∨ (Value.slice p4 n4 d4).ownBlock = some b ∨ b = w10.heap.size)) (fun b h => .inl h) (by
      have sz : (((w10.alloc (.cells #[.slice p3 n3 d3, .slice p4 n4 d4] 70)).setCell ⟨bm, 6, none⟩ (.slice (some ⟨w10.heap.size, 0, none⟩) 1 1)).alloc (msgObj (.slice p1 n1 d1) (.slice p2 n2 d2) bd ((Tr.nd l k v r).size : Nat) ((Tr.nd l k v r).dg seed) false (.slice (some ⟨w10.heap.size, 0, none⟩) 1 1))).heap.size = w10.heap.size + 2 := by simp
      rintro b (h | h | h | h | h | h)
      · exact .inl h
      · exact .inr ⟨by have := la b h; omega, far b (la b h).1 (by have := la b h; omega)⟩
      · exact .inr ⟨by have := lb b h; omega, far b (lb b h).1 (by have := lb b h; omega)⟩
      · exact .inr ⟨by have := lc b h; omega, far b (by have := lc b h; omega) (by have := lc b h; omega)⟩
      · exact .inr ⟨by have := ld b h; omega, far b (by have := ld b h; omega) (by have := ld b h; omega)⟩
      · exact .inr ⟨by omega, far b (by omega) (by omega)⟩))
    have BLA := Lib.hid ((OA10.out.kept kAA fun b hb _ => ⟨fun h => h.elim, fun e => by have hb : b = bm := hb; subst hb; exact nA.out e⟩).rd (D' := (fun b => R b ∨ (Value.slice p1 n1 d1).ownBlock = some b ∨ (Value.slice p2 n2 d2).ownBlock = some b ∨ (Value.slice p3 n3 d3).ownBlock = some b ∨ (Value.slice p4 n4 d4).ownBlock = some b ∨ b = w10.heap.size)) (fun _ h => h.elim) fun b h => .inr (.inl h))
    have BLB := Lib.hid ((OB10.out.kept kAA fun b hb _ => ⟨fun h => h.elim, fun e => by have hb : b = bm := hb; subst hb; exact nB.out e⟩).rd (D' := (fun b => R b ∨ (Value.slice p1 n1 d1).ownBlock = some b ∨ (Value.slice p2 n2 d2).ownBlock = some b ∨ (Value.slice p3 n3 d3).ownBlock = some b ∨ (Value.slice p4 n4 d4).ownBlock = some b ∨ b = w10.heap.size)) (fun _ h => h.elim) fun b h => .inr (.inr (.inl h)))
    have BLC := (OK10.out.kept kAA fun b hb _ => ⟨fun h => h.elim, fun e => by have hb : b = bm := hb; subst hb; exact nC e⟩).rd (D' := (fun b => R b ∨ (Value.slice p1 n1 d1).ownBlock = some b ∨ (Value.slice p2 n2 d2).ownBlock = some b ∨ (Value.slice p3 n3 d3).ownBlock = some b ∨ (Value.slice p4 n4 d4).ownBlock = some b ∨ b = w10.heap.size)) (fun _ h => h.elim) fun b h => .inr (.inr (.inr (.inl h)))
    have BLD := (OV10.out.kept kAA fun b hb _ => ⟨fun h => h.elim, fun e => by have hb : b = bm := hb; subst hb; exact nE e⟩).rd (D' := (fun b => R b ∨ (Value.slice p1 n1 d1).ownBlock = some b ∨ (Value.slice p2 n2 d2).ownBlock = some b ∨ (Value.slice p3 n3 d3).ownBlock = some b ∨ (Value.slice p4 n4 d4).ownBlock = some b ∨ b = w10.heap.size)) (fun _ h => h.elim) fun b h => .inr (.inr (.inr (.inr (.inl h))))
    have SP := Lib.hid (sv_pair1 (D := (fun b => R b ∨ (Value.slice p1 n1 d1).ownBlock = some b ∨ (Value.slice p2 n2 d2).ownBlock = some b ∨ (Value.slice p3 n3 d3).ownBlock = some b ∨ (Value.slice p4 n4 d4).ownBlock = some b ∨ b = w10.heap.size)) GP (.inr (.inr (.inr (.inr (.inr rfl))))) BLC BLD)
    have K13 := Lib.hid (K10.out.trans kAA fun b e => .inr (by have := HBM.out; have := S0.out; omega))
    have Y13 := Lib.hid (kAA.obj (p := w.heap.size) (fun e => hbm1 e.symm) Y10.out)
    have nDN : ∀ b, c.DN b → b < w10.heap.size → ¬ b = bm := fun b h _ e => lT.out.2.1 (e ▸ (T10.out.hD b h).1)
    have BK13 := Lib.hid (SV.kept byteEl_k BK10.out kAA nDN)
    have BV13 := Lib.hid (SV.kept byteEl_k BV10.out kAA nDN)
    have nbn : bn2 ≠ bm := fun e => lT.out.2.1 (e ▸ (T10.out.hD _ DB.out).1)
    have GL13 := Lib.hid (kAA.cell (p := ⟨bn2, on2 + i * 6 + 4, none⟩) nbn GL10.out)
    have GR13 := Lib.hid (kAA.cell (p := ⟨bn2, on2 + i * 6 + 5, none⟩) nbn GR10.out)
    have hR13 := Lib.hid T13.out.hR
    have HB13 := Lib.hid T13.out.hB
    have hby : (ol.length + 1) * 104 ≤ 140737488355328 := by have := BO.out; omega
    clear gm10 kp M12 kA far nC nE la lb lc ld T12 GP kAA BLC BLD s12 hs10 hs8 h18 h89 h910 T10 OA10 OB10 GM10 K10 Y10 BK10 BV10 GL10 GR10
    go_wp2_with (at_builtin; refine wl_app_one (E := msgEl) rfl (.tmp 97) (.tmp 99) _ rfl tMsgs (D' := (fun b => R b ∨ (Value.slice p1 n1 d1).ownBlock = some b ∨ (Value.slice p2 n2 d2).ownBlock = some b ∨ (Value.slice p3 n3 d3).ownBlock = some b ∨ (Value.slice p4 n4 d4).ownBlock = some b ∨ b = w10.heap.size)) vo ol rfl T13.out.ho (w10.heap.size + 1) _ ⟨low, high, bd, (Tr.nd l k v r).size, (Tr.nd l k v r).dg seed, false, [(k, v)]⟩ rfl ⟨_, _, G13.out⟩ ⟨_, _, _, rfl, BLA.out, BLB.out, SP.out⟩ (fun b h _ => ⟨h, (hR13.out b h).2.2.1⟩) hby (by decide) HB13.out ?_)
    intro v14 w14 o14 k14 hb14
    have hb14 : ∀ b, v14.ownBlock = some b → vo.ownBlock = some b ∨ (((w10.alloc (.cells #[.slice p3 n3 d3, .slice p4 n4 d4] 70)).setCell ⟨bm, 6, none⟩ (.slice (some ⟨w10.heap.size, 0, none⟩) 1 1)).alloc (msgObj (.slice p1 n1 d1) (.slice p2 n2 d2) bd ((Tr.nd l k v r).size : Nat) ((Tr.nd l k v r).dg seed) false (.slice (some ⟨w10.heap.size, 0, none⟩) 1 1))).heap.size ≤ b := fun b e => by have := hb14 b e; simpa using this
    have T14 := T13.out.say k14 o14 hb14
    obtain ⟨a14, n14, c14, rfl⟩ := o14.slice'
    have lt := T13.out.lt
    have ne := T13.out.ne
    have lov := T13.out.ho.lt
    have hRo := hR13.out
    have no14 : ∀ b, b < c.B → vo.ownBlock ≠ some b := fun b hb e => by have := (lov b e).1; omega
    have q4' := k14.obj (no14 _ lt.2.2.1) T13.out.h4
    have q6' := k14.obj (no14 _ lt.2.2.2.2.1) T13.out.h6
    have z4' : w14.cell? ⟨c.q4, 0, none⟩ = some vo := by simp [World.cell?, q4']
    have f4' : w14.frozen? ⟨c.q4, 0, none⟩ = false := by simp [World.frozen?, q4']
    have z6' : w14.cell? ⟨c.q6, 0, none⟩ = some vc := by simp [World.cell?, q6']
    have k15 := (k14.mono (T := fun b => b = c.q4 ∨ vo.ownBlock = some b) fun b h => .inr h).setCell (p := ⟨c.q4, 0, none⟩) (.inl (.inl rfl)) (.slice a14 n14 c14)
    have nDR : ∀ b, c.DN b → ¬ (b = c.q4 ∨ vo.ownBlock = some b) := fun b h e => by
      have := hRo b (.inl (H.out.hD b h).1)
      exact e.elim this.2.1.1 this.2.2.1
    have BK15 := SV.kept byteEl_k BK13.out k15 fun b h _ => nDR b h
    have BV15 := SV.kept byteEl_k BV13.out k15 fun b h _ => nDR b h
    have GL15 := k15.cell (p := ⟨bn2, on2 + i * 6 + 4, none⟩) (nDR _ DB.out) GL13.out
    have GR15 := k15.cell (p := ⟨bn2, on2 + i * 6 + 5, none⟩) (nDR _ DB.out) GR13.out
    have nw0 : ¬ (w.heap.size = c.q4 ∨ vo.ownBlock = some w.heap.size) := fun e => by
      have h1 := H.out.lt
      have h2 := H.out.hB
      rcases e with e | e
      · omega
      · have := (H.out.ho.lt _ e).2; omega
    have Y15 := k15.obj (p := w.heap.size) nw0 Y13.out
    have K15 := (K13.out.mono (T := TalkS c vo vg vc) fun _ h => h.elim).trans k15 fun b h => .inl (h.elim (fun h => .inl h) fun h => .inr (.inr (.inr (.inl h))))
    have s15 : (w14.setCell ⟨c.q4, 0, none⟩ (.slice a14 n14 c14)).heap.size = w14.heap.size := by simp
    have k16 := (Kept.refl Noneof (w14.setCell ⟨c.q4, 0, none⟩ (.slice a14 n14 c14))).alloc (.cells #[(.slice ak k.length ck), (.slice av3 v.length cv3)] 70)
    have G16 := heap_alloc_new (w14.setCell ⟨c.q4, 0, none⟩ (.slice a14 n14 c14)) (.cells #[(.slice ak k.length ck), (.slice av3 v.length cv3)] 70)
    rw [s15] at G16
    have G16 := Lib.hid G16
    have T16 := Lib.hid (T14.kept0 k16)
    have BK16 := Lib.hid (SV.kept byteEl_k BK15 k16 fun _ _ _ h => h)
    have BV16 := Lib.hid (SV.kept byteEl_k BV15 k16 fun _ _ _ h => h)
    have GL16 := Lib.hid (k16.cell (p := ⟨bn2, on2 + i * 6 + 4, none⟩) (fun h => h) GL15)
    have GR16 := Lib.hid (k16.cell (p := ⟨bn2, on2 + i * 6 + 5, none⟩) (fun h => h) GR15)
    have Y16 := Lib.hid (k16.obj (p := w.heap.size) (fun h => h) Y15)
    have K16 := Lib.hid (K15.trans k16 fun _ h => h.elim)
    have HO14 := Lib.hid (show ∀ b, (Value.slice a14 n14 c14).ownBlock = some b → vo.ownBlock = some b ∨ w.heap.size ≤ b from fun b e => (hb14 b e).imp id fun h => by have := K13.out.size; omega)
    have hR16 := Lib.hid T16.out.hR
    have HB16 := Lib.hid T16.out.hB
    have hby2 : (cl.length + 1) * 48 ≤ 140737488355328 := by have := BC1.out; simp only [Tr.size] at this; omega
    have hq46 : c.q4 ≠ c.q6 := ne.2.2.2.1
    have hq64 : c.q6 ≠ c.q4 := fun e => hq46 e.symm
    clear o14 k14 hb14 T14 lt ne lov hRo no14 q4' q6' k15 nDR BK15 BV15 GL15 GR15 nw0 Y15 K15 s15 k16 T13 BLA BLB SP K13 Y13 BK13 BV13 GL13 GR13 hR13 HB13 hby G13
    go_wp2_with (at_builtin; refine wl_app_one (E := pairEl) rfl (.tmp 101) (.tmp 105) _ rfl tPairs (D' := c.DN) vc cl rfl T16.out.hc w14.heap.size _ (k, v) rfl ⟨_, _, G16.out⟩ ⟨_, _, rfl, BK16.out, BV16.out⟩ (fun b h _ => ⟨.inl (H.out.hD b h).1, (hR16.out b (.inl (H.out.hD b h).1)).2.2.2.2⟩) hby2 (by decide) HB16.out ?_)
    intro v17 w17 o17 k17 hb17
    have hb17 : ∀ b, v17.ownBlock = some b → vc.ownBlock = some b ∨ ((w14.setCell ⟨c.q4, 0, none⟩ (.slice a14 n14 c14)).alloc (.cells #[(.slice ak k.length ck), (.slice av3 v.length cv3)] 70)).heap.size ≤ b := fun b e => by have := hb17 b e; simpa using this
    have T17 := T16.out.come k17 o17 hb17
    obtain ⟨a17, n17, c17, rfl⟩ := o17.slice'
    have lt := T16.out.lt
    have lcv := T16.out.hc.lt
    have nc17 : ∀ b, b < c.B → vc.ownBlock ≠ some b := fun b hb e => by have := (lcv b e).1; omega
    have q6' := k17.obj (nc17 _ lt.2.2.2.2.1) T16.out.h6
    have z6' : w17.cell? ⟨c.q6, 0, none⟩ = some vc := by simp [World.cell?, q6']
    have f6' : w17.frozen? ⟨c.q6, 0, none⟩ = false := by simp [World.frozen?, q6']
    have k18 := (k17.mono (T := fun b => b = c.q6 ∨ vc.ownBlock = some b) fun b h => .inr h).setCell (p := ⟨c.q6, 0, none⟩) (.inl (.inl rfl)) (.slice a17 n17 c17)
    have nDR : ∀ b, c.DN b → ¬ (b = c.q6 ∨ vc.ownBlock = some b) := fun b h e => by
      have := hR16.out b (.inl (H.out.hD b h).1)
      exact e.elim this.2.1.2.2 this.2.2.2.2
    have nw0 : ¬ (w.heap.size = c.q6 ∨ vc.ownBlock = some w.heap.size) := fun e => by
      have h1 := H.out.lt
      have h2 := H.out.hB
      rcases e with e | e
      · omega
      · have := (H.out.hc.lt _ e).2; omega
    have nw1 : vc.ownBlock ≠ some w.heap.size := fun e => nw0 (.inr e)
    have y17 := k17.obj (p := w.heap.size) nw1 Y16.out
    have y0 : w17.cell? ⟨w.heap.size, 0, none⟩ = some (.slice a1 low.length c1) := by simp [World.cell?, y17]
    have y1 : w17.cell? ⟨w.heap.size, 1, none⟩ = some (.slice a2 high.length c2) := by simp [World.cell?, y17]
    have y2 : w17.cell? ⟨w.heap.size, 2, none⟩ = some (.bool bd) := by simp [World.cell?, y17]
    have hq6w : c.q6 ≠ w.heap.size := fun e => nw0 (.inl e.symm)
    have BK18 := SV.kept byteEl_k BK16.out k18 fun b h _ => nDR b h
    have GL18 := k18.cell (p := ⟨bn2, on2 + i * 6 + 4, none⟩) (nDR _ DB.out) GL16.out
    have GR18 := k18.cell (p := ⟨bn2, on2 + i * 6 + 5, none⟩) (nDR _ DB.out) GR16.out
    have Y18 := k18.obj (p := w.heap.size) nw0 Y16.out
    have K18 := K16.out.trans k18 fun b h => .inl (h.elim (fun h => .inr (.inr (.inl h))) fun h => .inr (.inr (.inr (.inr (.inr h)))))
    have HC17 := Lib.hid (show ∀ b, (Value.slice a17 n17 c17).ownBlock = some b → vc.ownBlock = some b ∨ w.heap.size ≤ b from fun b e => (hb17 b e).imp id fun h => by have := K16.out.size; omega)
    clear o17 k17 hb17 lt lcv nc17 q6' k18 nDR nw1 y17 T16 BK16 BV16 GL16 GR16 Y16 K16 hR16 HB16 hby2 G16 m0 m1 m2 m3 m4 m5 m6 mf z4 nw0
    have T17 := Lib.hid T17
    have BK18 := Lib.hid BK18
    have GL18 := Lib.hid GL18
    have GR18 := Lib.hid GR18
    have Y18 := Lib.hid Y18
    have K18 := Lib.hid K18
    go_wp2_with fail
    generalize w17.setCell ⟨c.q6, 0, none⟩ (.slice a17 n17 c17) = w18 at *
    have nS : ∀ b, R b → b < w.heap.size → ¬ TalkS c vo vg vc b := fun b hb _ e => by
      have := H.out.hR b hb
      rcases e with e | e | e | e | e | e
      · exact this.2.1.1 e
      · exact this.2.1.2.1 e
      · exact this.2.1.2.2 e
      · exact this.2.2.1 e
      · exact this.2.2.2.1 e
      · exact this.2.2.2.2 e
    have BL18 := Lib.hid (H1.out.kept byteEl_k K18.out nS)
    have BH18 := Lib.hid (H2.out.kept byteEl_k K18.out nS)
    clear nS z6' f6' y0 y1 y2 hq6w
    refine (swspan_parts_calls BL18.out BH18.out BK18.out (by have := KV.out; omega)).mono ?_
    rintro e w19 ⟨nv, rfl, bn19, k19⟩
    have BN19 := Lib.hid bn19
    obtain ⟨a19, n19, c19, rfl⟩ : ∃ a n c, nv = .slice a n c := by obtain ⟨a, c, h, _⟩ := bn19; exact ⟨_, _, _, h⟩
    have K19 := Lib.hid k19
    clear bn19 k19
    go_wp2_with fail
    have g1 := heap_alloc_new w19 (.cells #[.slice a1 low.length c1, .slice ak k.length ck, .bool true] 170)
    have k1 := (Kept.refl Noneof w19).alloc (.cells #[.slice a1 low.length c1, .slice ak k.length ck, .bool true] 170)
    have s1 : (w19.alloc (.cells #[.slice a1 low.length c1, .slice ak k.length ck, .bool true] 170)).heap.size = w19.heap.size + 1 := by simp
    generalize w19.alloc (.cells #[.slice a1 low.length c1, .slice ak k.length ck, .bool true] 170) = wx at *
    have g2 := heap_alloc_new wx (.cells #[.slice a19 n19 c19, .slice a2 high.length c2, .bool bd] 170)
    have k2 := (Kept.refl Noneof wx).alloc (.cells #[.slice a19 n19 c19, .slice a2 high.length c2, .bool bd] 170)
    have s2 : (wx.alloc (.cells #[.slice a19 n19 c19, .slice a2 high.length c2, .bool bd] 170)).heap.size = w19.heap.size + 2 := by simp [s1]
    generalize wx.alloc (.cells #[.slice a19 n19 c19, .slice a2 high.length c2, .bool bd] 170) = w20 at *
    rw [s1] at g2
    have k1820 := (K19.out.trans k1 fun _ h => h.elim).trans k2 fun _ h => h.elim
    have G15 := Lib.hid (k2.obj (fun h => h) g1)
    have G16 := Lib.hid g2
    have z19 : w18.heap.size ≤ w19.heap.size := K19.out.size
    have T20 := Lib.hid ((T17.out.kept0 k1820).wide (R' := fun b => (R b ∨ (Value.slice p1 n1 d1).ownBlock = some b ∨ (Value.slice p2 n2 d2).ownBlock = some b ∨ (Value.slice p3 n3 d3).ownBlock = some b ∨ (Value.slice p4 n4 d4).ownBlock = some b ∨ b = w10.heap.size) ∨ w18.heap.size ≤ b ∧ b < w19.heap.size) (fun b h => .inl h) (fun b h => h.imp id fun h => ⟨by omega, by have := T17.out.hB; omega, fun e => by have := (T17.out.ho.lt b e).2; omega, fun e => by have := (T17.out.hg.lt b e).2; omega, fun e => by have := (T17.out.hc.lt b e).2; omega⟩))
    have BL20 := Lib.hid ((BL18.out.kept byteEl_k k1820 fun _ _ _ h => h).wide (D' := fun b => (R b ∨ (Value.slice p1 n1 d1).ownBlock = some b ∨ (Value.slice p2 n2 d2).ownBlock = some b ∨ (Value.slice p3 n3 d3).ownBlock = some b ∨ (Value.slice p4 n4 d4).ownBlock = some b ∨ b = w10.heap.size) ∨ w18.heap.size ≤ b ∧ b < w19.heap.size) byteEl_k fun b h _ => .inl (.inl h))
    have BH20 := Lib.hid ((BH18.out.kept byteEl_k k1820 fun _ _ _ h => h).wide (D' := fun b => (R b ∨ (Value.slice p1 n1 d1).ownBlock = some b ∨ (Value.slice p2 n2 d2).ownBlock = some b ∨ (Value.slice p3 n3 d3).ownBlock = some b ∨ (Value.slice p4 n4 d4).ownBlock = some b ∨ b = w10.heap.size) ∨ w18.heap.size ≤ b ∧ b < w19.heap.size) byteEl_k fun b h _ => .inl (.inl h))
    have BK20 := Lib.hid ((SV.kept byteEl_k BK18.out k1820 fun _ _ _ h => h).wide (D' := fun b => (R b ∨ (Value.slice p1 n1 d1).ownBlock = some b ∨ (Value.slice p2 n2 d2).ownBlock = some b ∨ (Value.slice p3 n3 d3).ownBlock = some b ∨ (Value.slice p4 n4 d4).ownBlock = some b ∨ b = w10.heap.size) ∨ w18.heap.size ≤ b ∧ b < w19.heap.size) byteEl_k fun b h _ => .inl (.inl (H.out.hD b h).1))
    have BN20 := Lib.hid (((BN19.out.bd byteEl_k).kept byteEl_k (k1.trans k2 fun _ h => h.elim) fun _ _ _ h => h).wide (D' := fun b => (R b ∨ (Value.slice p1 n1 d1).ownBlock = some b ∨ (Value.slice p2 n2 d2).ownBlock = some b ∨ (Value.slice p3 n3 d3).ownBlock = some b ∨ (Value.slice p4 n4 d4).ownBlock = some b ∨ b = w10.heap.size) ∨ w18.heap.size ≤ b ∧ b < w19.heap.size) byteEl_k fun b h _ => .inr h)
    have GL20 := Lib.hid (k1820.cell (p := ⟨bn2, on2 + i * 6 + 4, none⟩) (fun h => h) GL18.out)
    have GR20 := Lib.hid (k1820.cell (p := ⟨bn2, on2 + i * 6 + 5, none⟩) (fun h => h) GR18.out)
    have K20 := Lib.hid (K18.out.trans k1820 fun _ h => h.elim)
    have n1516 : ∀ b, w19.heap.size ≤ b → ¬ TalkS c (.slice a14 n14 c14) vg (.slice a17 n17 c17) b := fun b h => T17.out.newS b (by omega)
    have HS2 := Lib.hid s2
    have HZ19 := Lib.hid z19
    have g15 := G15.out
    have t20 := T20.out.h2
    rw [HVN.out] at t20
    have x7 : w20.cell? ⟨c.q7, 0, none⟩ = some (.func (.func 117) #[] #[bp c.q2, bp c.q3, bp c.q4, bp c.q5, bp c.q6, bp c.q7]) := by simp [World.cell?, T20.out.h7]
    have x2 : w20.cell? ⟨c.q2, 0, none⟩ = some (.slice (some ⟨bn2, on2, none⟩) c.L.length cv2) := by simp [World.cell?, t20]
    have x0 : w20.cell? ⟨w19.heap.size, 0, none⟩ = some (.slice a1 low.length c1) := by simp [World.cell?, g15]
    have x1 : w20.cell? ⟨w19.heap.size, 1, none⟩ = some (.slice ak k.length ck) := by simp [World.cell?, g15]
    have x3 : w20.cell? ⟨w19.heap.size, 2, none⟩ = some (.bool true) := by simp [World.cell?, g15]
    have x4 := GL20.out
    clear g1 k1 s1 g2 k2 s2 k1820 z19 T17 BL18 BH18 BK18 BN19 GL18 GR18 K18 K19 g15 t20
    refine wp_region_chain 8 [7] (fun w' => w'.cell? ⟨c.q7, 0, none⟩ = some (.func (.func 117) #[] #[bp c.q2, bp c.q3, bp c.q4, bp c.q5, bp c.q6, bp c.q7]) ∧ w'.cell? ⟨c.q2, 0, none⟩ = some (.slice (some ⟨bn2, on2, none⟩) c.L.length cv2) ∧ w'.cell? ⟨w19.heap.size, 0, none⟩ = some (.slice a1 low.length c1) ∧ w'.cell? ⟨w19.heap.size, 1, none⟩ = some (.slice ak k.length ck) ∧ w'.cell? ⟨w19.heap.size, 2, none⟩ = some (.bool true) ∧ w'.cell? ⟨bn2, on2 + i * 6 + 4, none⟩ = some (.int .i64 (ndOf seed l k v r i).left)) (by kernel_rfl) (by kernel_rfl) ?_ ?_
    · exact ⟨x7, x2, x0, x1, x3, x4⟩
    simp only [List.take_succ_cons, List.take_zero, List.drop_succ_cons, List.drop_zero]
    iterate 7 (refine SeqY.val (v := ?_) (by rfl) (by rfl) (fun wx hSw => ?_) ?_; rotate_left; (focus ((try dsimp only at hSw); go_simp; (try with_reducible rfl))); (try simp only [Act.put, List.setIfInBounds_toArray, List.set_cons_zero, List.set_cons_succ]))
    refine SeqY.act (by rfl) rfl (by rfl) (by rfl) (fun K hK => ?_)
    go_simp
    have b1 := BO1.out
    have b2 := BG1.out
    have b3 := BC1.out
    have bb := Lib.hid (talk_bnd1 b1 b2 b3)
    refine (IL.out _ _ vg _ w20.drew (ol ++ [⟨low, high, bd, (Tr.nd l k v r).size, (Tr.nd l k v r).dg seed, false, [(k, v)]⟩]) gl (cl ++ [(k, v)]) _ _ low k true _ (T20.out.kept0 ((Kept.refl Noneof w20).drew)) (BL20.out.at rfl) (BK20.out.at rfl) NL.out (by rw [len_one]; exact bb.out.1) bb.out.2.1 (by rw [len_one]; exact bb.out.2.2)).mono ?_
    rintro e w21 ⟨⟨v21, rfl⟩, R21, vo21, vg21, vc21, T21, hR21, k21, hb21⟩
    have k21 : Kept (TalkS c (.slice a14 n14 c14) vg (.slice a17 n17 c17)) w20 w21 := ⟨k21.os, k21.tape, k21.output, k21.size, k21.block⟩
    have hb21 : ∀ b, (vo21.ownBlock = some b → (Value.slice a14 n14 c14).ownBlock = some b ∨ w20.heap.size ≤ b) ∧ (vg21.ownBlock = some b → vg.ownBlock = some b ∨ w20.heap.size ≤ b) ∧ (vc21.ownBlock = some b → (Value.slice a17 n17 c17).ownBlock = some b ∨ w20.heap.size ≤ b) := hb21
    have t20 := T20.out
    have n15 : ¬ TalkS c (.slice a14 n14 c14) vg (.slice a17 n17 c17) w19.heap.size := n1516 _ (Nat.le_refl _)
    have n16 : ¬ TalkS c (.slice a14 n14 c14) vg (.slice a17 n17 c17) (w19.heap.size + 1) := n1516 _ (Nat.le_succ _)
    have nbn2 : ¬ TalkS c (.slice a14 n14 c14) vg (.slice a17 n17 c17) bn2 := t20.notS bn2 (.inl (.inl (H.out.hD _ DB.out).1))
    have t21 := T21.h2
    rw [HVN.out] at t21
    have x7' : w21.cell? ⟨c.q7, 0, none⟩ = some (.func (.func 117) #[] #[bp c.q2, bp c.q3, bp c.q4, bp c.q5, bp c.q6, bp c.q7]) := by simp [World.cell?, T21.h7]
    have x2' : w21.cell? ⟨c.q2, 0, none⟩ = some (.slice (some ⟨bn2, on2, none⟩) c.L.length cv2) := by simp [World.cell?, t21]
    have g16 := k21.obj n16 G16.out
    have x0' : w21.cell? ⟨w19.heap.size + 1, 0, none⟩ = some (.slice a19 n19 c19) := by simp [World.cell?, g16]
    have x1' : w21.cell? ⟨w19.heap.size + 1, 1, none⟩ = some (.slice a2 high.length c2) := by simp [World.cell?, g16]
    have x3' : w21.cell? ⟨w19.heap.size + 1, 2, none⟩ = some (.bool bd) := by simp [World.cell?, g16]
    have x4' := k21.cell (p := ⟨bn2, on2 + i * 6 + 5, none⟩) nbn2 GR20.out
    refine hK.out _ _ ⟨x7', x2', k21.cell (p := ⟨w19.heap.size, 0, none⟩) n15 x0, k21.cell (p := ⟨w19.heap.size, 1, none⟩) n15 x1, k21.cell (p := ⟨w19.heap.size, 2, none⟩) n15 x3, k21.cell (p := ⟨bn2, on2 + i * 6 + 4, none⟩) nbn2 x4⟩ ?_
    have BN21 := Lib.hid ((BN20.out.kept byteEl_k k21 fun b h _ => t20.notS b h).wide byteEl_k fun b h _ => hR21 b h)
    have BH21 := Lib.hid ((BH20.out.kept byteEl_k k21 fun b h _ => t20.notS b h).wide byteEl_k fun b h _ => hR21 b h)
    have NN16 := Lib.hid (show ¬ TalkS c vo21 vg21 vc21 (w19.heap.size + 1) from fun e => (TalkS.tr (n := w20.heap.size) hb21 _ e).elim n16 fun h => by have := HS2.out; omega)
    have HR21 := Lib.hid (show ∀ b, R b → R21 b from fun b h => hR21 b (.inl (.inl h)))
    have K20b := Lib.hid (K20.out.trans k21 fun b hb => TalkS.tr (vo := vo) (vg := vg) (vc := vc) (fun b => ⟨HO14.out b, .inl, HC17.out b⟩) b hb)
    have hw20 := K20.out.size
    have HB21 := Lib.hid (show ∀ b, (vo21.ownBlock = some b → vo.ownBlock = some b ∨ w.heap.size ≤ b) ∧ (vg21.ownBlock = some b → vg.ownBlock = some b ∨ w.heap.size ≤ b) ∧ (vc21.ownBlock = some b → vc.ownBlock = some b ∨ w.heap.size ≤ b) from fun b => ⟨fun e => ((hb21 b).1 e).elim (HO14.out b) fun h => .inr (by omega), fun e => ((hb21 b).2.1 e).imp id fun h => by omega, fun e => ((hb21 b).2.2 e).elim (HC17.out b) fun h => .inr (by omega)⟩)
    have T21 := Lib.hid T21
    have BB2 := Lib.hid (talk_bnd2 b1 b2 b3 (talk_le seed u l low k true) (gones_le seed u HU.out l low k true) (comes_le seed u l low k true))
    clear K hK k21 hb21 t20 n15 n16 nbn2 t21 x7 x2 x0 x1 x3 x4 g16 hR21 hw20 bb T20 BL20 BH20 BK20 BN20 GL20 GR20 K20 G15 G16 b1 b2 b3
    (try simp only [Act.put, List.setIfInBounds_toArray, List.set_cons_zero, List.set_cons_succ])
    refine SeqY.nil ?_
    go_wp2_with fail
    refine wp_region_chain 8 [7] (fun w' => w'.cell? ⟨c.q7, 0, none⟩ = some (.func (.func 117) #[] #[bp c.q2, bp c.q3, bp c.q4, bp c.q5, bp c.q6, bp c.q7]) ∧ w'.cell? ⟨c.q2, 0, none⟩ = some (.slice (some ⟨bn2, on2, none⟩) c.L.length cv2) ∧ w'.cell? ⟨w19.heap.size + 1, 0, none⟩ = some (.slice a19 n19 c19) ∧ w'.cell? ⟨w19.heap.size + 1, 1, none⟩ = some (.slice a2 high.length c2) ∧ w'.cell? ⟨w19.heap.size + 1, 2, none⟩ = some (.bool bd) ∧ w'.cell? ⟨bn2, on2 + i * 6 + 5, none⟩ = some (.int .i64 (ndOf seed l k v r i).right)) (by kernel_rfl) (by kernel_rfl) ?_ ?_
    · exact ⟨x7', x2', x0', x1', x3', x4'⟩
    simp only [List.take_succ_cons, List.take_zero, List.drop_succ_cons, List.drop_zero]
    iterate 7 (refine SeqY.val (v := ?_) (by rfl) (by rfl) (fun wx hSw => ?_) ?_; rotate_left; (focus ((try dsimp only at hSw); go_simp; (try with_reducible rfl))); (try simp only [Act.put, List.setIfInBounds_toArray, List.set_cons_zero, List.set_cons_succ]))
    refine SeqY.act (by rfl) rfl (by rfl) (by rfl) (fun K hK => ?_)
    go_simp
    refine (IR.out _ _ _ _ w21.drew _ _ _ _ _ (k ++ [0]) high bd _ (T21.out.kept0 ((Kept.refl Noneof w21).drew)) (BN21.out.at rfl) (BH21.out.at rfl) NR.out (by rw [List.length_append, len_one]; exact BB2.out.1) (by rw [List.length_append]; exact BB2.out.2.1) (by rw [List.length_append, len_one]; exact BB2.out.2.2)).mono ?_
    rintro e w22 ⟨⟨v22, rfl⟩, R22, vo22, vg22, vc22, T22, hR22, k22, hb22⟩
    have k22 : Kept (TalkS c vo21 vg21 vc21) w21 w22 := ⟨k22.os, k22.tape, k22.output, k22.size, k22.block⟩
    have hb22 : ∀ b, (vo22.ownBlock = some b → vo21.ownBlock = some b ∨ w21.heap.size ≤ b) ∧ (vg22.ownBlock = some b → vg21.ownBlock = some b ∨ w21.heap.size ≤ b) ∧ (vc22.ownBlock = some b → vc21.ownBlock = some b ∨ w21.heap.size ≤ b) := hb22
    have t22 := T22.h2
    rw [HVN.out] at t22
    have nn : ∀ b, (b = w19.heap.size + 1 ∨ b = bn2) → ¬ TalkS c vo21 vg21 vc21 b := fun b hb => by
      rcases hb with rfl | rfl
      · exact NN16.out
      · exact T21.out.notS _ (HR21.out _ (H.out.hD _ DB.out).1)
    refine hK.out _ _ ⟨by simp [World.cell?, T22.h7], by simp [World.cell?, t22], k22.cell (p := ⟨w19.heap.size + 1, 0, none⟩) (nn _ (.inl rfl)) x0', k22.cell (p := ⟨w19.heap.size + 1, 1, none⟩) (nn _ (.inl rfl)) x1', k22.cell (p := ⟨w19.heap.size + 1, 2, none⟩) (nn _ (.inl rfl)) x3', k22.cell (p := ⟨bn2, on2 + i * 6 + 5, none⟩) (nn _ (.inr rfl)) x4'⟩ ?_
    clear K hK
    (try simp only [Act.put, List.setIfInBounds_toArray, List.set_cons_zero, List.set_cons_succ])
    refine SeqY.nil ?_
    go_wp2
    refine bodyPost_ret (results_none rfl _ _ _) rfl ?_
    have hs := HS.out
    have q1 : ol ++ talk seed u (.nd l k v r) low high bd = ol ++ [⟨low, high, bd, (Tr.nd l k v r).size, (Tr.nd l k v r).dg seed, false, [(k, v)]⟩] ++ talk seed u l low k true ++ talk seed u r (k ++ [0]) high bd := by rw [talk, if_neg (by rw [hs]; simp)]; simp
    have q2 : gl ++ gones seed u (.nd l k v r) low high bd = gl ++ gones seed u l low k true ++ gones seed u r (k ++ [0]) high bd := by rw [gones, if_neg (by rw [hs]; simp)]; simp
    have q3 : cl ++ comes seed u (.nd l k v r) low high bd = cl ++ [(k, v)] ++ comes seed u l low k true ++ comes seed u r (k ++ [0]) high bd := by rw [comes, if_neg (by rw [hs]; simp)]; simp
    rw [q1, q2, q3]
    have hw21 := K20b.out.size
    exact ⟨⟨_, rfl⟩, R22, vo22, vg22, vc22, T22, fun b h => hR22 b (HR21.out b h), K20b.out.trans k22 fun b hb => TalkS.tr HB21.out b hb, fun b => ⟨fun e => ((hb22 b).1 e).elim ((HB21.out b).1) fun h => .inr (by omega), fun e => ((hb22 b).2.1 e).elim ((HB21.out b).2.1) fun h => .inr (by omega), fun e => ((hb22 b).2.2 e).elim ((HB21.out b).2.2) fun h => .inr (by omega)⟩⟩)
    | true =>
      have hs : sameAt seed u (.nd l k v r) low high bd = true := by unfold sameAt; rw [g1, g2]; rfl
      (
    have M7 := (Kept.refl (fun b => b = bm) w6).setCell (p := ⟨bm, 5, none⟩) (.inl rfl) (.bool true)
    have T7 := T6.out.kept M7 fun b e => by subst e; exact lT.out
    have OA7 := OA6.out.kept M7 fun b hb _ => ⟨fun h => h.elim, fun e => by have hb : b = bm := hb; subst hb; exact nA.out e⟩
    have OB7 := OB6.out.kept M7 fun b hb _ => ⟨fun h => h.elim, fun e => by have hb : b = bm := hb; subst hb; exact nB.out e⟩
    have GM7 := setCell_obj GM6.out (.bool true) (j := 5)
    have A7 := (Kept.refl Noneof (w6.setCell ⟨bm, 5, none⟩ (.bool true))).alloc (msgObj (.slice p1 n1 d1) (.slice p2 n2 d2) bd ((Tr.nd l k v r).size : Nat) ((Tr.nd l k v r).dg seed) true (.slice none 0 0))
    have G8 := heap_alloc_new (w6.setCell ⟨bm, 5, none⟩ (.bool true)) (msgObj (.slice p1 n1 d1) (.slice p2 n2 d2) bd ((Tr.nd l k v r).size : Nat) ((Tr.nd l k v r).dg seed) true (.slice none 0 0))
    rw [show (w6.setCell ⟨bm, 5, none⟩ (.bool true)).heap.size = w6.heap.size by simp] at G8
    have G8 := Lib.hid G8
    have OA8 := Lib.hid (OA7.kept A7 fun _ h => h.elim)
    have OB8 := Lib.hid (OB7.kept A7 fun _ h => h.elim)
    have GM8 := Lib.hid (A7.obj (fun h => h) GM7)
    have K8 := Lib.hid ((K6.out.trans M7 fun b e => .inr (by have := HBM.out; have := S0.out; omega)).trans A7 fun _ h => h.elim)
    have T8 := Lib.hid ((T7.kept0 A7).wide (R' := fun b => R b ∨ (Value.slice p1 n1 d1).ownBlock = some b ∨ (Value.slice p2 n2 d2).ownBlock = some b) (fun b h => .inl h) (by
      have t := H.out
      have e3 := t.hB
      have e2 := S0.out
      have la := OA8.out.lt
      have lb := OB8.out.lt
      have far : ∀ b, w1.heap.size ≤ b → b < ((w6.setCell ⟨bm, 5, none⟩ (.bool true)).alloc (msgObj (.slice p1 n1 d1) (.slice p2 n2 d2) bd ((Tr.nd l k v r).size : Nat) ((Tr.nd l k v r).dg seed) true (.slice none 0 0))).heap.size → b < ((w6.setCell ⟨bm, 5, none⟩ (.bool true)).alloc (msgObj (.slice p1 n1 d1) (.slice p2 n2 d2) bd ((Tr.nd l k v r).size : Nat) ((Tr.nd l k v r).dg seed) true (.slice none 0 0))).heap.size ∧ c.B ≤ b ∧ vo.ownBlock ≠ some b ∧ vg.ownBlock ≠ some b ∧ vc.ownBlock ≠ some b := fun b h1 h2 => ⟨h2, by omega, fun e => by have := (t.ho.lt b e).2; omega, fun e => by have := (t.hg.lt b e).2; omega, fun e => by have := (t.hc.lt b e).2; omega⟩
      rintro b (h | h | h)
      · exact .inl h
      · exact .inr (far b (la b h).1 (la b h).2)
      · exact .inr (far b (lb b h).1 (lb b h).2)))
    have hR8 := Lib.hid T8.out.hR
    have hB8 := T8.out.hB
    have bo := BO.out
    have BLA := Lib.hid (OA8.out.rd (D' := fun b => R b ∨ (Value.slice p1 n1 d1).ownBlock = some b ∨ (Value.slice p2 n2 d2).ownBlock = some b) (fun _ h => h.elim) fun b h => .inr (.inl h))
    have BLB := Lib.hid (OB8.out.rd (D' := fun b => R b ∨ (Value.slice p1 n1 d1).ownBlock = some b ∨ (Value.slice p2 n2 d2).ownBlock = some b) (fun _ h => h.elim) fun b h => .inr (.inr h))
    have HB8 := Lib.hid hB8
    have hby : (ol.length + 1) * 104 ≤ 140737488355328 := by omega
    clear M7 T7 OA7 OB7 GM7 A7 hB8 bo
    go_wp2_with (at_builtin; refine wl_app_one (E := msgEl) rfl (.tmp 68) (.tmp 70) _ rfl tMsgs (D' := fun b => R b ∨ (Value.slice p1 n1 d1).ownBlock = some b ∨ (Value.slice p2 n2 d2).ownBlock = some b) vo ol rfl T8.out.ho w6.heap.size _ ⟨low, high, bd, (Tr.nd l k v r).size, ((Tr.nd l k v r).dg seed), true, []⟩ rfl ⟨_, _, G8.out⟩ ⟨_, _, _, rfl, BLA.out, BLB.out, SV.nilv _ _ _⟩ (fun b h _ => ⟨h, (hR8.out b h).2.2.1⟩) hby (by decide) HB8.out ?_)
    intro v9 w9 o9 k9 hb9
    have hb9 : ∀ b, v9.ownBlock = some b → vo.ownBlock = some b ∨ ((w6.setCell ⟨bm, 5, none⟩ (.bool true)).alloc (msgObj (.slice p1 n1 d1) (.slice p2 n2 d2) bd ((Tr.nd l k v r).size : Nat) ((Tr.nd l k v r).dg seed) true (.slice none 0 0))).heap.size ≤ b := fun b e => by have := hb9 b e; simpa using this
    have T9 := Lib.hid (T8.out.say k9 o9 hb9)
    have LV := Lib.hid o9.lt
    obtain ⟨a9, n9, c9, rfl⟩ := o9.slice'
    have no9 : ∀ b, b < c.B → vo.ownBlock ≠ some b := fun b hb e => by have := (T8.out.ho.lt b e).1; omega
    have q9 : w9.heap[c.q4]? = some (.cells #[vo] 85) := k9.obj (no9 _ T8.out.lt.2.2.1) T8.out.h4
    have z9 : w9.cell? ⟨c.q4, 0, none⟩ = some vo := by simp [World.cell?, q9]
    have f9 : w9.frozen? ⟨c.q4, 0, none⟩ = false := by simp [World.frozen?, q9]
    have gm9 := k9.obj (p := bm) lT.out.2.2.1 GM8.out
    have m9 : w9.cell? ⟨bm, 5, none⟩ = some (.bool true) := by simp [World.cell?, gm9]
    have K9 := Lib.hid ((K8.out.mono (T := TalkS c vo vg vc) fun _ h => h.elim).trans k9 fun b h => .inl (.inr (.inr (.inr (.inl h)))))
    have K9' := Lib.hid (K9.out.setCell (p := ⟨c.q4, 0, none⟩) (.inl (.inl rfl)) (.slice a9 n9 c9))
    have HB9 := Lib.hid hb9
    have Y9 := Lib.hid (k9.obj (p := w.heap.size) (fun e => by have := (H.out.ho.lt _ e).2; omega) (((Kept.refl Noneof (w6.setCell ⟨bm, 5, none⟩ (.bool true))).alloc (msgObj (.slice p1 n1 d1) (.slice p2 n2 d2) bd ((Tr.nd l k v r).size : Nat) ((Tr.nd l k v r).dg seed) true (.slice none 0 0))).obj (fun h => h) (((Kept.refl (fun b => b = bm) w6).setCell (p := ⟨bm, 5, none⟩) (.inl rfl) (.bool true)).obj (p := w.heap.size) (fun e => hbm1 e.symm) Y6.out)))
    clear o9 k9 hb9 q9 gm9 no9)
      go_wp2
      refine bodyPost_ret (results_none rfl _ _ _) rfl ?_
      have q1 : talk seed u (.nd l k v r) low high bd = [⟨low, high, bd, (Tr.nd l k v r).size, (Tr.nd l k v r).dg seed, true, []⟩] := by rw [talk, if_pos hs]
      have q2 : gones seed u (.nd l k v r) low high bd = [] := by rw [gones, if_pos hs]
      have q3 : comes seed u (.nd l k v r) low high bd = [] := by rw [comes, if_pos hs]
      rw [q1, q2, q3, List.append_nil, List.append_nil]
      have TF := T9.out
      exact ⟨⟨_, rfl⟩, _, _, vg, vc, TF, fun b h => .inl h, K9'.out, fun b => ⟨fun e => (HB9.out b e).imp id fun h => by have := K8.out.size; omega, fun h => .inl h, fun h => .inl h⟩⟩
end Go.Proofs.Ytaopjdjbpamhhaa
