/- Proved: contract of swap.Mirror on two maps of one seed. Conditions: maps in memory, at different places, whose blocks are different. -/
import Derived.Test.YtaopjdjbpamhhaaSwp7
import Derived.LaidEqlPtr
namespace Go.Proofs.Ytaopjdjbpamhhaa
open Go Go.RowKit
set_option linter.unusedVariables false
set_option linter.unusedSimpArgs false

/-- A map without some keys; a map with some pairs. -/
def dropAll (seed : Int) (u : Tr) (ks : List Bts) : Tr := ks.foldl (fun t k => if (t.get k).isSome then t.drop seed k else t) u
def putAll (seed : Int) (u : Tr) (ps : List (Bts × Bts)) : Tr := ps.foldl (fun t p => t.put seed p.1 p.2) u

theorem alloc5 (w : World) (o1 o2 o3 o4 o5 : Obj) : (((((w.alloc o1).alloc o2).alloc o3).alloc o4).alloc o5).heap[w.heap.size]? = some o1 ∧ (((((w.alloc o1).alloc o2).alloc o3).alloc o4).alloc o5).heap[w.heap.size + 1]? = some o2 ∧ (((((w.alloc o1).alloc o2).alloc o3).alloc o4).alloc o5).heap[w.heap.size + 1 + 1]? = some o3 ∧ (((((w.alloc o1).alloc o2).alloc o3).alloc o4).alloc o5).heap[w.heap.size + 1 + 1 + 1]? = some o4 ∧ (((((w.alloc o1).alloc o2).alloc o3).alloc o4).alloc o5).heap[w.heap.size + 1 + 1 + 1 + 1]? = some o5 ∧ (((((w.alloc o1).alloc o2).alloc o3).alloc o4).alloc o5).heap.size = w.heap.size + 5 ∧ Kept Noneof w (((((w.alloc o1).alloc o2).alloc o3).alloc o4).alloc o5) := by
  have g1 := heap_alloc_new w o1
  have g2 := heap_alloc_new (w.alloc o1) o2
  have g3 := heap_alloc_new ((w.alloc o1).alloc o2) o3
  have g4 := heap_alloc_new (((w.alloc o1).alloc o2).alloc o3) o4
  have g5 := heap_alloc_new ((((w.alloc o1).alloc o2).alloc o3).alloc o4) o5
  simp only [World.size_alloc] at g2 g3 g4 g5
  have k : ∀ (A : World) (o : Obj), Kept Noneof A (A.alloc o) := fun A o => (Kept.refl _ A).alloc o
  exact ⟨(k _ _).obj (fun h => h) ((k _ _).obj (fun h => h) ((k _ _).obj (fun h => h) ((k _ _).obj (fun h => h) g1))), (k _ _).obj (fun h => h) ((k _ _).obj (fun h => h) ((k _ _).obj (fun h => h) g2)), (k _ _).obj (fun h => h) ((k _ _).obj (fun h => h) g3), (k _ _).obj (fun h => h) g4, g5, by simp only [World.size_alloc], (((((Kept.refl _ w).alloc _).alloc _).alloc _).alloc _).alloc _⟩
theorem mir_bnd {n : Nat} (h : n ≤ 100000) : ([] : List Bts).length + (n + 1) * 1000000 ≤ 1000000000000 := by simp only [List.length_nil]; omega
theorem dropAll_succ (seed : Int) (u : Tr) (G : List Bts) (n : Nat) (h : n < G.length) : dropAll seed u (G.take (n + 1)) = if ((dropAll seed u (G.take n)).get G[n]).isSome then (dropAll seed u (G.take n)).drop seed G[n] else dropAll seed u (G.take n) := by
  unfold dropAll
  rw [List.take_add_one, List.getElem?_eq_getElem h, List.foldl_append]
  rfl
theorem putAll_succ (seed : Int) (u : Tr) (C : List (Bts × Bts)) (n : Nat) (h : n < C.length) : putAll seed u (C.take (n + 1)) = (putAll seed u (C.take n)).put seed C[n].1 C[n].2 := by
  unfold putAll
  rw [List.take_add_one, List.getElem?_eq_getElem h, List.foldl_append]
  rfl
theorem dropAll_size (seed : Int) : ∀ (G : List Bts) (u : Tr), (dropAll seed u G).size ≤ u.size
  | [], u => Nat.le_refl _
  | k :: G, u => by
    show (dropAll seed (if (u.get k).isSome then u.drop seed k else u) G).size ≤ _
    refine Nat.le_trans (dropAll_size seed G _) ?_
    split
    · exact Tr.drop_size seed k u
    · exact Nat.le_refl _
theorem putAll_size (seed : Int) : ∀ (C : List (Bts × Bts)) (u : Tr), (putAll seed u C).size ≤ u.size + C.length
  | [], u => Nat.le_refl _
  | p :: C, u => by
    show (putAll seed (u.put seed p.1 p.2) C).size ≤ _
    have h1 := putAll_size seed C (u.put seed p.1 p.2)
    have h2 := Tr.put_size seed p.1 p.2 u
    simp only [List.length_cons]
    omega
theorem comes_ok (seed : Int) (u : Tr) : ∀ (t : Tr) (low high : Bts) (bd : Bool), t.ok → ∀ p ∈ comes seed u t low high bd, okP p
  | .nil, _, _, _, _ => by simp [comes]
  | .nd l k v r, low, high, bd, ok => by
    have h1 := comes_ok seed u l low k true ok.1
    have h2 := comes_ok seed u r (k ++ [0]) high bd ok.2.2
    rw [comes]
    split
    · simp
    · intro p hp
      simp only [List.mem_cons, List.mem_append] at hp
      rcases hp with rfl | hp | hp
      · exact ok.2.1
      · exact h1 p hp
      · exact h2 p hp
theorem Rd.bytes {D : Nat → Prop} {w : World} {a : Option Addr} {l : List Bts} (h : Rd bytesEl D w a l) {i : Nat} (hi : i < l.length) : ∃ b o v, a = some ⟨b, o, none⟩ ∧ D b ∧ w.cell? ⟨b, o + i, none⟩ = some v ∧ BV D w v l[i] := by
  obtain ⟨b, o, cs, rfl, hD, hc, v, rfl, h1⟩ := h i hi
  have k : bytesEl.k = 1 := rfl
  rw [k] at hc
  exact ⟨b, o, v, rfl, hD, by simpa using hc 0 (by simp), h1⟩
theorem okP_allowed {p : Bts × Bts} (h : okP p) : allowedK p.1 p.2 = true := by
  obtain ⟨h1, h2, h3⟩ := h
  simp [allowedK, h1, h2, h3]
theorem map_ne {s1 s2 : Int} {w : World} {m1 m2 : Nat} {t1 t2 : Tr} {F1 F2 : Nat → Prop} (h1 : MapAt s1 w m1 t1 F1) (h2 : MapAt s2 w m2 t2 F2) (hne : m1 ≠ m2) : (binOp .eql 83 (bp m1) (bp m2)).run Try.prog w = .ok (.bool false) w := by
  obtain ⟨p1, _, _, k1⟩ := h1
  obtain ⟨p2, _, _, k2⟩ := h2
  have hi : (Try.prog.info? 123).map (·.size) = some 3 := by kernel_rfl
  cases hj : Try.prog.info? 123 with
  | none => rw [hj] at hi; cases hi
  | some j =>
    rw [hj] at hi
    have hs : j.size = 3 := by simpa using hi
    exact run_eql_ptr_other w (te := 123) (by kernel_rfl) hj (by omega) (fun e => hne (congrArg Addr.block e)) k1.ho k2.ho

set_option maxRecDepth 100000 in
set_option maxHeartbeats 8000000 in
theorem swMirror_calls {seed : Int} {w : World} {m1 m2 : Nat} {t u : Tr} {F1 F2 : Nat → Prop} (hf : MapAt seed w m1 t F1) (ht : MapAt seed w m2 u F2) (hne : m1 ≠ m2) (hg : Srt u.pairs) (hok : t.ok) (h1 : t.size ≤ 100000) (h2 : u.size ≤ 100000) (h12 : u.size + t.size < 100000) (hd : ∀ b, F2 b → b < w.heap.size) :
    Calls Try.prog 56 #[bp m1, bp m2] w fun e w' => ∃ v F2', e = .returned (.tuple #[v, .int .i64 0]) ∧ SV msgEl (fun b => ¬ F2' b) w' v (talk seed u t [] [] false) ∧ MapAt seed w' m2 (putAll seed (dropAll seed u (gones seed u t [] [] false)) (comes seed u t [] [] false)) F2' ∧ (∀ b, F2' b → F2 b ∨ w.heap.size ≤ b) ∧ Kept F2 w w' := by
  have HF := Lib.hid hf
  have HT := Lib.hid ht
  have HG := Lib.hid hg
  have OK := Lib.hid hok
  have S1 := Lib.hid h1
  have S2 := Lib.hid h2
  have HD := Lib.hid hd
  have NE := Lib.hid hne
  have S12 := Lib.hid h12
  clear hf ht hg hok h1 h2 h12 hd
  go_enter Try.func56, Try.ntmps56
  have heq : ∀ o, (binOp .eql 83 (bp m1) (bp m2)).run Try.prog (w.alloc o) = .ok (.bool false) (w.alloc o) := fun o => map_ne (HF.out.kept ((Kept.refl Noneof w).alloc o) fun _ _ h => h) (HT.out.kept ((Kept.refl Noneof w).alloc o) fun _ _ h => h) NE.out
  go_wp2_with fail
  have G3 := heap_alloc_new w (.cells #[bp m2] 83)
  have K1 := (Kept.refl Noneof w).alloc (.cells #[bp m2] 83)
  have s3 : (w.alloc (.cells #[bp m2] 83)).heap.size = w.heap.size + 1 := by simp
  generalize w.alloc (.cells #[bp m2] 83) = w1 at *
  refine (orKin_calls (HF.out.kept K1 fun _ _ h => h) (HT.out.kept K1 fun _ _ h => h)).mono ?_
  rintro e w2 ⟨rfl, dw⟩
  have K2 := K1.drewn dw
  have G3 := (((Kept.refl Noneof w1).drewn dw)).obj (fun h => h) G3
  have e2 : w2.heap.size = w.heap.size + 1 := by rw [dw.heap, s3]
  have hkin : (seed == seed) = true := by simp
  clear dw heq K1 s3
  go_wp2_with fail
  refine (orNodes_calls (HF.out.kept K2 fun _ _ h => h) (by have := S1.out; omega)).mono ?_
  rintro e w3 ⟨vn, rfl, on, k3⟩
  have ON := Lib.hid on
  obtain ⟨an, cn, hvn⟩ := on.slice
  rw [Tr.nodes_len] at hvn
  subst hvn
  have K3 := Lib.hid (K2.trans k3 fun _ h => h.elim)
  have G3 := Lib.hid (k3.obj (fun h => h) G3)
  have E3 := Lib.hid (show w.heap.size + 1 ≤ w3.heap.size by have := k3.size; omega)
  have K2s := Lib.hid K2.size
  clear on K2 k3 e2 hkin
  have hst : ∀ (W : World) (a : Addr) (g : Fn) (x y : Array Value), (store a (.func g x y)).run Try.prog W = stored Try.prog W a (.func g x y) .plain := fun W a g x y => run_store _ _ _ _ _ rfl
  by_cases hz : t.size = 0
  · have hn : t = .nil := by cases t with
      | nil => rfl
      | nd l k v r => simp [Tr.size] at hz
    have ON : Hid (Own 172 nodeEl (fun b => w2.heap.size ≤ b) w2.heap.size w3 (.slice an 0 cn) (t.nodes seed 0)) := by rw [← hz]; exact ON
    rw [hz]
    go_wp2_with fail
    (
    obtain ⟨g2, g4, g5, g6, g7, s5, k35⟩ := alloc5 w3 (.cells #[.slice an 0 cn] 166) (.cells #[.slice none 0 0] 85) (.cells #[.slice none 0 0] 51) (.cells #[.slice none 0 0] 65) (.cells #[.func (.func 117) #[] #[bp w3.heap.size, bp w.heap.size, bp (w3.heap.size + 1), bp (w3.heap.size + 1 + 1), bp (w3.heap.size + 1 + 1 + 1), bp (w3.heap.size + 1 + 1 + 1 + 1)]] 168)
    generalize ((((w3.alloc (.cells #[.slice an 0 cn] 166)).alloc (.cells #[.slice none 0 0] 85)).alloc (.cells #[.slice none 0 0] 51)).alloc (.cells #[.slice none 0 0] 65)).alloc (.cells #[.func (.func 117) #[] #[bp w3.heap.size, bp w.heap.size, bp (w3.heap.size + 1), bp (w3.heap.size + 1 + 1), bp (w3.heap.size + 1 + 1 + 1), bp (w3.heap.size + 1 + 1 + 1 + 1)]] 168) = w4 at *
    have e3 := E3.out
    have SN : SV nodeEl (fun b => w2.heap.size ≤ b ∧ b < w3.heap.size) w4 (.slice an 0 cn) (t.nodes seed 0) := ((ON.out.sv.bd nodeEl_k).wide (D' := fun b => w2.heap.size ≤ b ∧ b < w3.heap.size) nodeEl_k fun b h _ => by omega).kept nodeEl_k k35 fun _ _ _ h => h
    have K4 := Lib.hid (K3.out.trans k35 fun _ h => h.elim)
    have TI : TalkIn seed u ⟨w3.heap.size, w.heap.size, w3.heap.size + 1, w3.heap.size + 1 + 1, w3.heap.size + 1 + 1 + 1, w3.heap.size + 1 + 1 + 1 + 1, .slice an 0 cn, m2, F2, fun b => w2.heap.size ≤ b ∧ b < w3.heap.size, w3.heap.size + 5, t.nodes seed 0⟩ (fun b => w2.heap.size ≤ b ∧ b < w3.heap.size) (.slice none 0 0) (.slice none 0 0) (.slice none 0 0) w4 [] [] [] :=
      ⟨g2, k35.obj (fun h => h) G3.out, g4, g5, g6, g7, SN, HT.out.kept K4.out fun _ _ h => h, Own.nil _ _ _ _ _, Own.nil _ _ _ _ _, Own.nil _ _ _ _ _, ⟨by simp, by simp; omega, by simp, by simp, by simp, by simp⟩, ⟨by simp, by simp; omega, by simp, by simp, by simp, by simp; omega, by simp; omega, by simp, by simp, by simp; omega, by simp; omega, by simp⟩,
        fun b h => ⟨h, by have : b < w3.heap.size := h.2; simp only; omega⟩, fun b h => by have := HD.out b h; simp only; omega, fun b h => ⟨by omega, by simp only; omega, by simp [Value.ownBlock], by simp [Value.ownBlock], by simp [Value.ownBlock]⟩, fun b => by simp [Value.ownBlock], by simp only; omega, fun b h e => by have := HD.out b e; have := K2s.out; omega⟩
    clear g2 g4 g5 g6 g7 k35 SN
    refine (swMirror_1_calls (c := ⟨w3.heap.size, w.heap.size, w3.heap.size + 1, w3.heap.size + 1 + 1, w3.heap.size + 1 + 1 + 1, w3.heap.size + 1 + 1 + 1 + 1, .slice an 0 cn, m2, F2, fun b => w2.heap.size ≤ b ∧ b < w3.heap.size, w3.heap.size + 5, t.nodes seed 0⟩) HG.out (by have := S2.out; omega) (by rw [Tr.nodes_len]; have := S1.out; omega) t OK.out _ _ _ _ w4 [] [] [] _ _ [] [] false _ TI (BV.nil _ _) (BV.nil _ _) (by subst hn; rfl) (by have := S1.out; simp only [List.length_nil]; omega) (mir_bnd S1.out) (by have := S1.out; simp only [List.length_nil]; omega)).mono ?_
    rintro e w5 ⟨⟨v5, rfl⟩, R5, vo, vg, vc, T5, hR5, k5, hb5⟩
    (
    rw [List.nil_append, List.nil_append, List.nil_append] at T5
    generalize hG : gones seed u t [] [] false = G at *
    generalize hC : comes seed u t [] [] false = C at *
    generalize hO : talk seed u t [] [] false = O at *
    have hlG : G.length ≤ 1000000000000 := by rw [← hG]; exact Nat.le_trans (gones_le seed u (by have := S2.out; omega) t [] [] false) (by have := mir_bnd S1.out; simpa using this)
    have hlC : C.length ≤ 100000 := by rw [← hC]; exact Nat.le_trans (comes_le seed u t [] [] false) S1.out
    have HT5 := Lib.hid T5
    have K5 := Lib.hid k5
    obtain ⟨ao, co, rfl⟩ := T5.ho.slice
    obtain ⟨ag, cg, rfl⟩ := T5.hg.slice
    obtain ⟨ac, cc, rfl⟩ := T5.hc.slice
    have z5 : w5.cell? ⟨w3.heap.size + 1 + 1, 0, none⟩ = some (.slice ag G.length cg) := by have := T5.h5; simp [World.cell?, this]
    clear T5 k5 hb5 TI
    have hF0 : ∀ b, R5 b ∨ w3.heap.size + 5 ≤ b → ¬ F2 b := fun b h e => h.elim (fun h => HT5.out.hRF b h e) fun h => by have := HD.out b e; have := E3.out; omega
    have HF0 := Lib.hid hF0
    have SG := Lib.hid (show SV bytesEl (fun b => R5 b ∨ w3.heap.size + 5 ≤ b) w5 (.slice ag G.length cg) G from HT5.out.hg.sv)
    have SC := Lib.hid (show SV pairEl (fun b => R5 b ∨ w3.heap.size + 5 ≤ b) w5 (.slice ac C.length cc) C from HT5.out.hc.sv)
    have M5 := Lib.hid (show MapAt seed w5 m2 u F2 from HT5.out.hm)
    have hFw : ¬ F2 w.heap.size := fun e => by have := HD.out _ e; omega
    have z3 : w5.cell? ⟨w.heap.size, 0, none⟩ = some (bp m2) := by have := HT5.out.h3; simp only at this; simp [World.cell?, this]
    have Z3 := Lib.hid z3
    have HFW := Lib.hid hFw
    clear hF0 hFw z3
    go_wp2_with fail
    go_loopw [37] (fun i wr => ∃ n : Nat, n ≤ G.length ∧ i = .int .i64 n ∧ Hid (MapAt seed wr m2 (dropAll seed u (G.take n)) F2) ∧ Hid (Kept F2 w5 wr)) (fun i _ => G.length - (intOf i).toNat)
    case atStart => exact ⟨0, Nat.zero_le _, rfl, M5, Lib.hid (Kept.refl _ _)⟩
    case round =>
      obtain ⟨n, hn, rfl, hm, kw⟩ := hrel
      have z3 := kw.out.cell (p := ⟨w.heap.size, 0, none⟩) HFW.out Z3.out
      by_cases hl : n < G.length
      · obtain ⟨_, _, hsl, _, _, rd⟩ := SG.out
        simp only [Value.slice.injEq] at hsl
        obtain ⟨rfl, -, rfl⟩ := hsl
        have rd := rd.kept bytesEl_k kw.out fun b h _ => HF0.out b h
        obtain ⟨b1, o1, kv, rfl, hDb, g0, hkv⟩ := Rd.bytes rd hl
        have HKV := Lib.hid hkv
        obtain ⟨a7, c7, rfl, _⟩ := id hkv
        clear rd hkv
        go_wp2_with fail
        cases hget : ((dropAll seed u (G.take n)).get G[n]).isSome
        · refine (orMapDrop_none hm.out HKV.out (by simpa using hget)).mono ?_
          rintro e w7 ⟨rfl, rfl⟩
          go_wp2
          go_roundw
          case rel => exact ⟨n + 1, by omega, by go_num, by rw [dropAll_succ seed u G n hl, hget]; exact hm, kw⟩
          case measure => simp [intOf]; omega
        · refine (orMapDrop_ok hm.out HKV.out (fun b h _ => HF0.out b h) hget).mono ?_
          rintro e w7 ⟨rfl, hm7, k7⟩
          go_wp2
          go_roundw
          case rel => exact ⟨n + 1, by omega, by go_num, by rw [dropAll_succ seed u G n hl, hget]; exact Lib.hid hm7, Lib.hid (kw.out.tr k7)⟩
          case measure => simp [intOf]; omega
      · obtain rfl : n = G.length := by omega
        have M6 := Lib.hid (show MapAt seed wr m2 (dropAll seed u G) F2 by have := hm.out; rwa [List.take_length] at this)
        have z6 : wr.cell? ⟨w3.heap.size + 1 + 1 + 1, 0, none⟩ = some (.slice ac C.length cc) := kw.out.cell (p := ⟨w3.heap.size + 1 + 1 + 1, 0, none⟩) (fun e => by have := HD.out (w3.heap.size + 1 + 1 + 1) e; have := E3.out; omega) (by have := HT5.out.h6; simp only at this; simp [World.cell?, this])
        have U1 := Lib.hid (show (dropAll seed u G).size + C.length < 100000 by have := dropAll_size seed G u; have := S12.out; rw [← hC]; have := comes_le seed u t [] [] false; omega)
        have CO := Lib.hid (show ∀ p ∈ C, okP p by rw [← hC]; exact comes_ok seed u t [] [] false OK.out)
        clear hm
        generalize hU : dropAll seed u G = U at *
        go_wp2_with fail
        go_loopw [47] (fun i wq => ∃ (n : Nat) (F' : Nat → Prop), n ≤ C.length ∧ i = .int .i64 n ∧ Hid (MapAt seed wq m2 (putAll seed U (C.take n)) F') ∧ Hid (∀ b, F' b → F2 b ∨ w5.heap.size ≤ b) ∧ Hid (Kept F2 w5 wq)) (fun i _ => C.length - (intOf i).toNat)
        case atStart => exact ⟨0, F2, Nat.zero_le _, rfl, M6, Lib.hid fun b h => .inl h, kw⟩
        case round =>
          obtain ⟨n, F', hn, rfl, hm, hF', kq⟩ := hrel
          have z3' := kq.out.cell (p := ⟨w.heap.size, 0, none⟩) HFW.out Z3.out
          by_cases hl : n < C.length
          · obtain ⟨_, _, hsl, _, _, rd⟩ := SC.out
            simp only [Value.slice.injEq] at hsl
            obtain ⟨rfl, -, rfl⟩ := hsl
            have rd := rd.kept pairEl_k kq.out fun b h _ => HF0.out b h
            obtain ⟨b1, o1, uk, uv, rfl, hDb, g0, g1, hkv, hvv⟩ := Rd.pair rd hl
            have HKV := Lib.hid hkv
            have HVV := Lib.hid hvv
            obtain ⟨a7, c7, rfl, _⟩ := id hkv
            obtain ⟨a8, c8, rfl, _⟩ := id hvv
            have zA : ∀ o, (wr.alloc o).cell? ⟨w.heap.size, 0, none⟩ = some (bp m2) := fun o => ((Kept.refl Noneof _).alloc o).cell (p := ⟨w.heap.size, 0, none⟩) (fun h => h) z3'
            clear rd hkv hvv
            have ka := (Kept.refl Noneof wr).alloc (.cells #[.slice a7 C[n].1.length c7, .slice a8 C[n].2.length c8] 70)
            have hps : (putAll seed U (C.take n)).size < 100000 := by
              have h1 := putAll_size seed (C.take n) U
              have h2 := U1.out
              rw [List.length_take] at h1
              omega
            have HPS := Lib.hid hps
            have KA := Lib.hid ka
            clear hps ka
            go_wp2_with fail
            refine (orMapPut_ok (hm.out.kept KA.out fun _ _ h => h) (HKV.out.kept byteEl_k KA.out fun _ _ _ h => h) (HVV.out.kept byteEl_k KA.out fun _ _ _ h => h) (okP_allowed (CO.out _ (List.getElem_mem hl))) HPS.out).mono ?_
            rintro e w7 ⟨rfl, F7, hm7, k7, hF7⟩
            have hM7 := Lib.hid hm7
            have hFF := Lib.hid (show ∀ b, F7 b → F2 b ∨ w5.heap.size ≤ b from fun b h => (hF7 b h).elim (hF'.out b) fun h => .inr (by have := kq.out.size; have := KA.out.size; omega))
            have hKK := Lib.hid ((kq.out.trans KA.out fun _ h => h.elim).trans k7 hF'.out)
            clear hm7 hF7 k7 zA
            go_wp2
            go_roundw
            case rel => exact ⟨n + 1, F7, by omega, by go_num, by rw [putAll_succ seed U C n hl]; exact hM7, hFF, hKK⟩
            case measure => simp [intOf]; omega
          · obtain rfl : n = C.length := by omega
            have M7 := Lib.hid (show MapAt seed wr m2 (putAll seed U C) F' by have := hm.out; rwa [List.take_length] at this)
            have z4 : wr.cell? ⟨w3.heap.size + 1, 0, none⟩ = some (.slice ao O.length co) := kq.out.cell (p := ⟨w3.heap.size + 1, 0, none⟩) (fun e => by have := HD.out (w3.heap.size + 1) e; have := E3.out; omega) (by have := HT5.out.h4; simp only at this; simp [World.cell?, this])
            have hsv := ((HT5.out.ho.sv.bd msgEl_k).kept msgEl_k kq.out fun b h _ => HF0.out b h.1).wide (D' := fun b => ¬ F' b) msgEl_k fun b h _ e => (hF'.out b e).elim (HF0.out b h.1) fun e => by omega
            have HSV := Lib.hid hsv
            have hw5 := K5.out.size
            have hw4 := K4.out.size
            have e3 := E3.out
            have KF := Lib.hid (((K4.out.trans K5.out fun b e => .inr (by
              rcases e with e | e | e | e | e | e
              · simp only at e; omega
              · simp only at e; omega
              · simp only at e; omega
              · cases e
              · cases e
              · cases e)).mono (T := F2) fun _ h => h.elim).tr kq.out)
            clear hsv
            go_wp2
            go_ret2
            exact ⟨.slice ao O.length co, F', rfl, by rw [hO]; exact HSV.out, by rw [hG, hC, hU]; exact M7.out, fun b h => (hF'.out b h).imp id fun h => by omega, KF.out⟩))
  · have hpos : 0 < t.size := by omega
    have NA : NodesAt seed (t.nodes seed 0) t 0 := by
      cases t with
      | nil => exact absurd rfl hz
      | nd l k v r => exact ⟨[], [], by simp, rfl⟩
    go_wp2_with fail
    (
    obtain ⟨g2, g4, g5, g6, g7, s5, k35⟩ := alloc5 w3 (.cells #[.slice an t.size cn] 166) (.cells #[.slice none 0 0] 85) (.cells #[.slice none 0 0] 51) (.cells #[.slice none 0 0] 65) (.cells #[.func (.func 117) #[] #[bp w3.heap.size, bp w.heap.size, bp (w3.heap.size + 1), bp (w3.heap.size + 1 + 1), bp (w3.heap.size + 1 + 1 + 1), bp (w3.heap.size + 1 + 1 + 1 + 1)]] 168)
    generalize ((((w3.alloc (.cells #[.slice an t.size cn] 166)).alloc (.cells #[.slice none 0 0] 85)).alloc (.cells #[.slice none 0 0] 51)).alloc (.cells #[.slice none 0 0] 65)).alloc (.cells #[.func (.func 117) #[] #[bp w3.heap.size, bp w.heap.size, bp (w3.heap.size + 1), bp (w3.heap.size + 1 + 1), bp (w3.heap.size + 1 + 1 + 1), bp (w3.heap.size + 1 + 1 + 1 + 1)]] 168) = w4 at *
    have e3 := E3.out
    have SN : SV nodeEl (fun b => w2.heap.size ≤ b ∧ b < w3.heap.size) w4 (.slice an t.size cn) (t.nodes seed 0) := ((ON.out.sv.bd nodeEl_k).wide (D' := fun b => w2.heap.size ≤ b ∧ b < w3.heap.size) nodeEl_k fun b h _ => by omega).kept nodeEl_k k35 fun _ _ _ h => h
    have K4 := Lib.hid (K3.out.trans k35 fun _ h => h.elim)
    have TI : TalkIn seed u ⟨w3.heap.size, w.heap.size, w3.heap.size + 1, w3.heap.size + 1 + 1, w3.heap.size + 1 + 1 + 1, w3.heap.size + 1 + 1 + 1 + 1, .slice an t.size cn, m2, F2, fun b => w2.heap.size ≤ b ∧ b < w3.heap.size, w3.heap.size + 5, t.nodes seed 0⟩ (fun b => w2.heap.size ≤ b ∧ b < w3.heap.size) (.slice none 0 0) (.slice none 0 0) (.slice none 0 0) w4 [] [] [] :=
      ⟨g2, k35.obj (fun h => h) G3.out, g4, g5, g6, g7, SN, HT.out.kept K4.out fun _ _ h => h, Own.nil _ _ _ _ _, Own.nil _ _ _ _ _, Own.nil _ _ _ _ _, ⟨by simp, by simp; omega, by simp, by simp, by simp, by simp⟩, ⟨by simp, by simp; omega, by simp, by simp, by simp, by simp; omega, by simp; omega, by simp, by simp, by simp; omega, by simp; omega, by simp⟩,
        fun b h => ⟨h, by have : b < w3.heap.size := h.2; simp only; omega⟩, fun b h => by have := HD.out b h; simp only; omega, fun b h => ⟨by omega, by simp only; omega, by simp [Value.ownBlock], by simp [Value.ownBlock], by simp [Value.ownBlock]⟩, fun b => by simp [Value.ownBlock], by simp only; omega, fun b h e => by have := HD.out b e; have := K2s.out; omega⟩
    clear g2 g4 g5 g6 g7 k35 SN
    refine (swMirror_1_calls (c := ⟨w3.heap.size, w.heap.size, w3.heap.size + 1, w3.heap.size + 1 + 1, w3.heap.size + 1 + 1 + 1, w3.heap.size + 1 + 1 + 1 + 1, .slice an t.size cn, m2, F2, fun b => w2.heap.size ≤ b ∧ b < w3.heap.size, w3.heap.size + 5, t.nodes seed 0⟩) HG.out (by have := S2.out; omega) (by rw [Tr.nodes_len]; have := S1.out; omega) t OK.out _ _ _ _ w4 [] [] [] _ _ [] [] false _ TI (BV.nil _ _) (BV.nil _ _) NA (by have := S1.out; simp only [List.length_nil]; omega) (mir_bnd S1.out) (by have := S1.out; simp only [List.length_nil]; omega)).mono ?_
    rintro e w5 ⟨⟨v5, rfl⟩, R5, vo, vg, vc, T5, hR5, k5, hb5⟩
    (
    rw [List.nil_append, List.nil_append, List.nil_append] at T5
    generalize hG : gones seed u t [] [] false = G at *
    generalize hC : comes seed u t [] [] false = C at *
    generalize hO : talk seed u t [] [] false = O at *
    have hlG : G.length ≤ 1000000000000 := by rw [← hG]; exact Nat.le_trans (gones_le seed u (by have := S2.out; omega) t [] [] false) (by have := mir_bnd S1.out; simpa using this)
    have hlC : C.length ≤ 100000 := by rw [← hC]; exact Nat.le_trans (comes_le seed u t [] [] false) S1.out
    have HT5 := Lib.hid T5
    have K5 := Lib.hid k5
    obtain ⟨ao, co, rfl⟩ := T5.ho.slice
    obtain ⟨ag, cg, rfl⟩ := T5.hg.slice
    obtain ⟨ac, cc, rfl⟩ := T5.hc.slice
    have z5 : w5.cell? ⟨w3.heap.size + 1 + 1, 0, none⟩ = some (.slice ag G.length cg) := by have := T5.h5; simp [World.cell?, this]
    clear T5 k5 hb5 TI
    have hF0 : ∀ b, R5 b ∨ w3.heap.size + 5 ≤ b → ¬ F2 b := fun b h e => h.elim (fun h => HT5.out.hRF b h e) fun h => by have := HD.out b e; have := E3.out; omega
    have HF0 := Lib.hid hF0
    have SG := Lib.hid (show SV bytesEl (fun b => R5 b ∨ w3.heap.size + 5 ≤ b) w5 (.slice ag G.length cg) G from HT5.out.hg.sv)
    have SC := Lib.hid (show SV pairEl (fun b => R5 b ∨ w3.heap.size + 5 ≤ b) w5 (.slice ac C.length cc) C from HT5.out.hc.sv)
    have M5 := Lib.hid (show MapAt seed w5 m2 u F2 from HT5.out.hm)
    have hFw : ¬ F2 w.heap.size := fun e => by have := HD.out _ e; omega
    have z3 : w5.cell? ⟨w.heap.size, 0, none⟩ = some (bp m2) := by have := HT5.out.h3; simp only at this; simp [World.cell?, this]
    have Z3 := Lib.hid z3
    have HFW := Lib.hid hFw
    clear hF0 hFw z3
    go_wp2_with fail
    go_loopw [37] (fun i wr => ∃ n : Nat, n ≤ G.length ∧ i = .int .i64 n ∧ Hid (MapAt seed wr m2 (dropAll seed u (G.take n)) F2) ∧ Hid (Kept F2 w5 wr)) (fun i _ => G.length - (intOf i).toNat)
    case atStart => exact ⟨0, Nat.zero_le _, rfl, M5, Lib.hid (Kept.refl _ _)⟩
    case round =>
      obtain ⟨n, hn, rfl, hm, kw⟩ := hrel
      have z3 := kw.out.cell (p := ⟨w.heap.size, 0, none⟩) HFW.out Z3.out
      by_cases hl : n < G.length
      · obtain ⟨_, _, hsl, _, _, rd⟩ := SG.out
        simp only [Value.slice.injEq] at hsl
        obtain ⟨rfl, -, rfl⟩ := hsl
        have rd := rd.kept bytesEl_k kw.out fun b h _ => HF0.out b h
        obtain ⟨b1, o1, kv, rfl, hDb, g0, hkv⟩ := Rd.bytes rd hl
        have HKV := Lib.hid hkv
        obtain ⟨a7, c7, rfl, _⟩ := id hkv
        clear rd hkv
        go_wp2_with fail
        cases hget : ((dropAll seed u (G.take n)).get G[n]).isSome
        · refine (orMapDrop_none hm.out HKV.out (by simpa using hget)).mono ?_
          rintro e w7 ⟨rfl, rfl⟩
          go_wp2
          go_roundw
          case rel => exact ⟨n + 1, by omega, by go_num, by rw [dropAll_succ seed u G n hl, hget]; exact hm, kw⟩
          case measure => simp [intOf]; omega
        · refine (orMapDrop_ok hm.out HKV.out (fun b h _ => HF0.out b h) hget).mono ?_
          rintro e w7 ⟨rfl, hm7, k7⟩
          go_wp2
          go_roundw
          case rel => exact ⟨n + 1, by omega, by go_num, by rw [dropAll_succ seed u G n hl, hget]; exact Lib.hid hm7, Lib.hid (kw.out.tr k7)⟩
          case measure => simp [intOf]; omega
      · obtain rfl : n = G.length := by omega
        have M6 := Lib.hid (show MapAt seed wr m2 (dropAll seed u G) F2 by have := hm.out; rwa [List.take_length] at this)
        have z6 : wr.cell? ⟨w3.heap.size + 1 + 1 + 1, 0, none⟩ = some (.slice ac C.length cc) := kw.out.cell (p := ⟨w3.heap.size + 1 + 1 + 1, 0, none⟩) (fun e => by have := HD.out (w3.heap.size + 1 + 1 + 1) e; have := E3.out; omega) (by have := HT5.out.h6; simp only at this; simp [World.cell?, this])
        have U1 := Lib.hid (show (dropAll seed u G).size + C.length < 100000 by have := dropAll_size seed G u; have := S12.out; rw [← hC]; have := comes_le seed u t [] [] false; omega)
        have CO := Lib.hid (show ∀ p ∈ C, okP p by rw [← hC]; exact comes_ok seed u t [] [] false OK.out)
        clear hm
        generalize hU : dropAll seed u G = U at *
        go_wp2_with fail
        go_loopw [47] (fun i wq => ∃ (n : Nat) (F' : Nat → Prop), n ≤ C.length ∧ i = .int .i64 n ∧ Hid (MapAt seed wq m2 (putAll seed U (C.take n)) F') ∧ Hid (∀ b, F' b → F2 b ∨ w5.heap.size ≤ b) ∧ Hid (Kept F2 w5 wq)) (fun i _ => C.length - (intOf i).toNat)
        case atStart => exact ⟨0, F2, Nat.zero_le _, rfl, M6, Lib.hid fun b h => .inl h, kw⟩
        case round =>
          obtain ⟨n, F', hn, rfl, hm, hF', kq⟩ := hrel
          have z3' := kq.out.cell (p := ⟨w.heap.size, 0, none⟩) HFW.out Z3.out
          by_cases hl : n < C.length
          · obtain ⟨_, _, hsl, _, _, rd⟩ := SC.out
            simp only [Value.slice.injEq] at hsl
            obtain ⟨rfl, -, rfl⟩ := hsl
            have rd := rd.kept pairEl_k kq.out fun b h _ => HF0.out b h
            obtain ⟨b1, o1, uk, uv, rfl, hDb, g0, g1, hkv, hvv⟩ := Rd.pair rd hl
            have HKV := Lib.hid hkv
            have HVV := Lib.hid hvv
            obtain ⟨a7, c7, rfl, _⟩ := id hkv
            obtain ⟨a8, c8, rfl, _⟩ := id hvv
            have zA : ∀ o, (wr.alloc o).cell? ⟨w.heap.size, 0, none⟩ = some (bp m2) := fun o => ((Kept.refl Noneof _).alloc o).cell (p := ⟨w.heap.size, 0, none⟩) (fun h => h) z3'
            clear rd hkv hvv
            have ka := (Kept.refl Noneof wr).alloc (.cells #[.slice a7 C[n].1.length c7, .slice a8 C[n].2.length c8] 70)
            have hps : (putAll seed U (C.take n)).size < 100000 := by
              have h1 := putAll_size seed (C.take n) U
              have h2 := U1.out
              rw [List.length_take] at h1
              omega
            have HPS := Lib.hid hps
            have KA := Lib.hid ka
            clear hps ka
            go_wp2_with fail
            refine (orMapPut_ok (hm.out.kept KA.out fun _ _ h => h) (HKV.out.kept byteEl_k KA.out fun _ _ _ h => h) (HVV.out.kept byteEl_k KA.out fun _ _ _ h => h) (okP_allowed (CO.out _ (List.getElem_mem hl))) HPS.out).mono ?_
            rintro e w7 ⟨rfl, F7, hm7, k7, hF7⟩
            have hM7 := Lib.hid hm7
            have hFF := Lib.hid (show ∀ b, F7 b → F2 b ∨ w5.heap.size ≤ b from fun b h => (hF7 b h).elim (hF'.out b) fun h => .inr (by have := kq.out.size; have := KA.out.size; omega))
            have hKK := Lib.hid ((kq.out.trans KA.out fun _ h => h.elim).trans k7 hF'.out)
            clear hm7 hF7 k7 zA
            go_wp2
            go_roundw
            case rel => exact ⟨n + 1, F7, by omega, by go_num, by rw [putAll_succ seed U C n hl]; exact hM7, hFF, hKK⟩
            case measure => simp [intOf]; omega
          · obtain rfl : n = C.length := by omega
            have M7 := Lib.hid (show MapAt seed wr m2 (putAll seed U C) F' by have := hm.out; rwa [List.take_length] at this)
            have z4 : wr.cell? ⟨w3.heap.size + 1, 0, none⟩ = some (.slice ao O.length co) := kq.out.cell (p := ⟨w3.heap.size + 1, 0, none⟩) (fun e => by have := HD.out (w3.heap.size + 1) e; have := E3.out; omega) (by have := HT5.out.h4; simp only at this; simp [World.cell?, this])
            have hsv := ((HT5.out.ho.sv.bd msgEl_k).kept msgEl_k kq.out fun b h _ => HF0.out b h.1).wide (D' := fun b => ¬ F' b) msgEl_k fun b h _ e => (hF'.out b e).elim (HF0.out b h.1) fun e => by omega
            have HSV := Lib.hid hsv
            have hw5 := K5.out.size
            have hw4 := K4.out.size
            have e3 := E3.out
            have KF := Lib.hid (((K4.out.trans K5.out fun b e => .inr (by
              rcases e with e | e | e | e | e | e
              · simp only at e; omega
              · simp only at e; omega
              · simp only at e; omega
              · cases e
              · cases e
              · cases e)).mono (T := F2) fun _ h => h.elim).tr kq.out)
            clear hsv
            go_wp2
            go_ret2
            exact ⟨.slice ao O.length co, F', rfl, by rw [hO]; exact HSV.out, by rw [hG, hC, hU]; exact M7.out, fun b h => (hF'.out b h).imp id fun h => by omega, KF.out⟩))
end Go.Proofs.Ytaopjdjbpamhhaa
