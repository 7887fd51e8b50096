/- Proved: contracts of the map's small functions: little, digestOf, count, sum, fresh, above, side, and bytes.Compare, over nodes in memory. Conditions: keys of at most 64 bytes and values of at most 1000. -/
import Derived.Test.YtaopjdjbpamhhaaR2c
import Derived.StillTailTactics
import Derived.Deep.RegionHeld3
namespace Go.Proofs.Ytaopjdjbpamhhaa
open Go Go.RowKit
set_option linter.unusedVariables false
set_option linter.unusedSimpArgs false

/-! ### Nodes in memory -/
/-- A node with what lies below it. -/
inductive Tr where
  | nil
  | nd (l : Tr) (k v : Bts) (r : Tr)
def Tr.size : Tr → Nat
  | nil => 0
  | nd l _ _ r => 1 + l.size + r.size
def Tr.dg (seed : Int) : Tr → Int
  | nil => 0
  | nd l k v r => mark seed (l.dg seed) k v (r.dg seed)
/-- Every pair is of a length that is allowed. -/
def Tr.ok : Tr → Prop
  | nil => True
  | nd l k v r => l.ok ∧ (1 ≤ k.length ∧ k.length ≤ 64 ∧ v.length ≤ 1000) ∧ r.ok
def adr : Option Nat → Option Addr
  | none => none
  | some b => some ⟨b, 0, none⟩
abbrev ptr (p : Option Nat) : Value := .pointer (adr p)
/-- The block of a node. -/
def nodeObj (kv vv : Value) (h : Int) (l r : Option Nat) (sz dg : Int) : Obj := .cells #[kv, vv, .int .u64 h, ptr l, ptr r, .int .i64 sz, .int .u64 dg] 184
structure NodeAt (w : World) (b : Nat) (kv vv : Value) (h : Int) (l r : Option Nat) (sz dg : Int) : Prop where
  c0 : w.cell? ⟨b, 0, none⟩ = some kv
  c1 : w.cell? ⟨b, 1, none⟩ = some vv
  c2 : w.cell? ⟨b, 2, none⟩ = some (.int .u64 h)
  c3 : w.cell? ⟨b, 3, none⟩ = some (ptr l)
  c4 : w.cell? ⟨b, 4, none⟩ = some (ptr r)
  c5 : w.cell? ⟨b, 5, none⟩ = some (.int .i64 sz)
  c6 : w.cell? ⟨b, 6, none⟩ = some (.int .u64 dg)
  fr : ∀ j, w.frozen? ⟨b, j, none⟩ = false
theorem NodeAt.of {w : World} {b : Nat} {kv vv : Value} {h : Int} {l r : Option Nat} {sz dg : Int} (hb : w.heap[b]? = some (nodeObj kv vv h l r sz dg)) : NodeAt w b kv vv h l r sz dg := by
  unfold nodeObj at hb
  refine ⟨?_, ?_, ?_, ?_, ?_, ?_, ?_, fun j => ?_⟩
  all_goals simp [World.cell?, World.frozen?, hb]
theorem setCell_obj {w : World} {b j : Nat} {cs : Array Value} {t : TypeId} {f : Nat × Nat} (h : w.heap[b]? = some (.cells cs t f)) (v : Value) : (w.setCell ⟨b, j, none⟩ v).heap[b]? = some (.cells (cs.setIfInBounds j v) t f) := by
  have hlt := block_lt h
  have hv := (Array.getElem?_eq_some_iff.1 h).2
  simp only [World.setCell]
  rw [Array.getElem?_eq_getElem (by simpa using hlt), Array.getElem_modify]
  simp [hv]

theorem cell_other {w : World} {b j : Nat} {v u : Value} {p : Addr} (h : p.block ≠ b ∨ p.off ≠ j) (hc : w.cell? p = some u) : (w.setCell ⟨b, j, none⟩ v).cell? p = some u := by
  by_cases hb : p.block = b
  · have hj := h.resolve_left fun k => k hb
    subst hb
    unfold World.cell? at hc ⊢
    split at hc
    · rename_i c e f hh
      rw [setCell_obj hh]
      simp only
      by_cases hs : p.spot.isSome
      · rw [if_pos hs] at hc; cases hc
      · rw [if_neg hs] at hc ⊢
        rw [Array.getElem?_setIfInBounds_ne (Ne.symm hj)]
        exact hc
    · cases hc
  · rw [World.cell?_of_block (w := w) (Below.heap_setCell _ _ _ _ hb)]
    exact hc

/-! ### Coins lie in 64 bits -/
theorem wrap_u64 (n : Int) : isU64 (IntKind.u64.wrap n) := by
  rw [IntKind.wrap_u64]
  have := Int.emod_lt_of_pos n (show (0 : Int) < 18446744073709551616 by decide)
  have := Int.emod_nonneg n (show (18446744073709551616 : Int) ≠ 0 by decide)
  exact ⟨by omega, by omega⟩
theorem coin_u64 (seed tag : Int) (l : Bts) : isU64 (coin seed tag l) := wrap_u64 _
theorem Tr.dg_u64 (seed : Int) : ∀ t : Tr, isU64 (t.dg seed)
  | nil => by unfold Tr.dg; exact ⟨by decide, by decide⟩
  | nd l k v r => coin_u64 _ _ _

theorem byte_nat (n : Nat) (h : n < 256) : IntKind.u8.wrap (n : Int) = (n : Int) := IntWalk.u8_in _ ⟨by omega, by omega⟩
set_option maxHeartbeats 400000 in
theorem orlittle_calls {B : Nat} {v : Value} {l : Bts} {x : Int} {n : Nat} {w : World} (hown : Own 5 byteEl Noneof B w v l) (h0 : 0 ≤ x) (h1 : x ≤ 18446744073709551615) (hn : n ≤ 8) (hl : l.length ≤ 100000000) (hB : B ≤ w.heap.size) :
    Calls Try.prog 129 #[v, .int .u64 x, .int .i64 n] w fun e w' => ∃ v', e = .returned v' ∧ Own 5 byteEl Noneof B w' v' (l ++ leI x n) ∧ Kept (fun k => v.ownBlock = some k) w w' := by
  have O := Lib.hid hown
  clear hown
  go_enter Try.func129, Try.ntmps129
  go_wp2
  go_loopw [0, 1, 8] (fun s y i wr => ∃ k : Nat, k ≤ n ∧ i = .int .i64 k ∧ y = .int .u64 (x / 2 ^ (8 * k)) ∧ Hid (Own 5 byteEl Noneof B wr s (l ++ leI x k)) ∧ Hid (Kept (fun k => v.ownBlock = some k) w wr) ∧ Hid (∀ b, s.ownBlock = some b → v.ownBlock = some b ∨ w.heap.size ≤ b)) (fun _ _ i _ => n - (intOf i).toNat)
  case atStart => exact ⟨0, by omega, rfl, by simp, by show Own _ _ _ _ _ _ _; simpa [leI] using O.out, Kept.refl _ _, fun b h => .inl h⟩
  case round =>
    obtain ⟨k, hk, rfl, rfl, hown, hkept, hrow⟩ := hrel
    by_cases hlt : k < n
    · have hx : 0 ≤ x / 2 ^ (8 * k) := Int.ediv_nonneg h0 (Int.pow_nonneg (by decide))
      have hx2 : x / 2 ^ (8 * k) ≤ 18446744073709551615 := Int.le_trans (Int.ediv_le_self _ h0) h1
      have hl2 := leI_len k x
      have hs := hkept.out.size
      go_wp2_with (at_builtin; refine wl_app_one (E := byteEl) (D := Noneof) (D' := Noneof) rfl (.tmp 10) (.tmp 13) _ rfl tBytes _ _ rfl (hown.out.alloc _) _ [.int .u8 (x / 2 ^ (8 * k) % 256)] (UInt8.ofNat (x / 2 ^ (8 * k) % 256).toNat) rfl ?c1 ?c2 ?c3 ?c4 ?c5 ?c6 ?_; (case c1 => exact ⟨_, _, heap_alloc_new _ _⟩); (case c2 => show _ = _; rw [u8_of _ hx]); (case c3 => exact fun _ h => h.elim); (case c4 => simp; omega); (case c5 => omega); (case c6 => simp; omega))
      intro v' w1 hown1 hk1 hf1
      have O1 := Lib.hid (show Own 5 byteEl Noneof B w1 v' (l ++ leI x (k + 1)) by rw [leI_snoc]; exact hown1)
      have K1 := Lib.hid ((hkept.out.alloc _).trans hk1 fun b hb => hrow.out b hb)
      have R1 := Lib.hid (show ∀ b, v'.ownBlock = some b → v.ownBlock = some b ∨ w.heap.size ≤ b from fun b hb => (hf1 b hb).elim (hrow.out b) fun h => .inr (by have := hkept.out.size; omega))
      have he : x / 2 ^ (8 * k) / 256 = x / 2 ^ (8 * (k + 1)) := by rw [Int.ediv_ediv_of_nonneg (Int.pow_nonneg (by decide)), Nat.mul_add, Int.pow_add]; rfl
      have HE := Lib.hid he
      clear he hown1 hk1 hf1 hown hkept hrow hl2
      go_wp2
      go_roundw
      case rel => exact ⟨k + 1, by omega, by go_num, by rw [← HE.out], O1, K1, R1⟩
      case measure => simp [intOf]; omega
    · obtain rfl : k = n := by omega
      go_wp2
      go_ret
      exact ⟨_, rfl, hown.out, hkept.out⟩

set_option maxHeartbeats 400000 in
theorem ordigestOf_calls {D1 D2 : Nat → Prop} {seed left right : Int} {v1 v2 : Value} {k v : Bts} {w : World} (hl : isU64 left) (hr : isU64 right) (h1 : BV D1 w v1 k) (h2 : BV D2 w v2 v) (hk : k.length ≤ 64) (hv : v.length ≤ 1000) :
    Calls Try.prog 185 #[.int .u64 seed, .int .u64 left, v1, v2, .int .u64 right] w fun e w' => e = .returned (.int .u64 (mark seed left k v right)) ∧ Kept Noneof w w' := by
  have H1 := Lib.hid h1
  have H2 := Lib.hid h2
  obtain ⟨a1, c1, rfl, _, _, _⟩ := h1
  obtain ⟨a2, c2, rfl, _, _, _⟩ := h2
  have q1 := leI_len 1 k.length
  have q2 := leI_len 2 v.length
  have q3 := leI_len 8 left
  have q4 := leI_len 8 right
  go_enter Try.func185, Try.ntmps185
  go_wp2_with (at_make; refine wl_make0 (E := byteEl) rfl _ _ _ rfl tBytes Noneof w.heap.size (19 + k.length + v.length) .i64 .i64 _ rfl rfl (by omega) ?b1 ?b2 ?b3 ?_; (case b1 => omega); (case b2 => omega); (case b3 => exact Nat.le_refl _))
  intro w1 g o1 e1 hg
  have E1 := Lib.hid e1
  have O1 := Lib.hid o1
  have s1 := e1.size
  clear o1 e1
  go_wp2_with fail
  refine (orlittle_calls (x := left) (n := 8) O1.out hl.1 hl.2 (by omega) (by simp) (by omega)).mono ?_
  rintro e w2 ⟨x2, rfl, o2, e2⟩
  have O2 := Lib.hid (show Own 5 byteEl Noneof w.heap.size w2 x2 (leI left 8) by simpa using o2)
  have E2 := Lib.hid (E1.out.trans e2 fun b hb => .inr (O1.out.lt b hb).1)
  have s2 := e2.size
  clear O1 E1 o2 e2
  have hb := byte_nat k.length (by omega)
  go_wp2_with (at_builtin; refine wl_app_one (E := byteEl) (D := Noneof) (D' := Noneof) rfl (.tmp 22) (.tmp 26) _ rfl tBytes _ _ rfl (O2.out.alloc _) _ [.int .u8 (k.length : Int)] (UInt8.ofNat ((k.length : Int) % 256).toNat) rfl ?c1 ?c2 ?c3 ?c4 ?c5 ?c6 ?_; (case c1 => exact ⟨_, _, heap_alloc_new _ _⟩); (case c2 => show _ = _; rw [u8_of _ (by omega), Int.emod_eq_of_lt (by omega) (by omega)]); (case c3 => exact fun _ h => h.elim); (case c4 => simp; omega); (case c5 => omega); (case c6 => simp; omega))
  intro x3 w3 o3 e3 _
  have O3 := Lib.hid o3
  have E3 := Lib.hid ((E2.out.alloc _).trans e3 fun b hb => .inr (O2.out.lt b hb).1)
  have s3 := e3.size
  clear o3 e3 O2 E2
  go_wp2_with (at_builtin; refine wl_app_bytes rfl (.tmp 27) (.tmp 28) _ rfl tBytes _ _ rfl O3.out _ _ rfl (H1.out.kept byteEl_k E3.out fun _ _ _ h => h) ?c4 ?c6 ?_; (case c4 => simp; omega); (case c6 => exact E3.out.size))
  intro x4 w4 o4 e4 _
  have O4 := Lib.hid o4
  have E4 := Lib.hid (E3.out.trans e4 fun b hb => .inr (O3.out.lt b hb).1)
  clear o4 e4 O3 E3
  go_wp2_with fail
  refine (orlittle_calls (x := v.length) (n := 2) O4.out (by omega) (by omega) (by omega) (by simp; omega) E4.out.size).mono ?_
  rintro e w5 ⟨x5, rfl, o5, e5⟩
  have O5 := Lib.hid o5
  have E5 := Lib.hid (E4.out.trans e5 fun b hb => .inr (O4.out.lt b hb).1)
  clear O4 E4 o5 e5
  go_wp2_with (at_builtin; refine wl_app_bytes rfl (.tmp 34) (.tmp 35) _ rfl tBytes _ _ rfl O5.out _ _ rfl (H2.out.kept byteEl_k E5.out fun _ _ _ h => h) ?c4 ?c6 ?_; (case c4 => simp; omega); (case c6 => exact E5.out.size))
  intro x6 w6 o6 e6 _
  have O6 := Lib.hid o6
  have E6 := Lib.hid (E5.out.trans e6 fun b hb => .inr (O5.out.lt b hb).1)
  clear o6 e6 O5 E5
  go_wp2_with fail
  refine (orlittle_calls (x := right) (n := 8) O6.out hr.1 hr.2 (by omega) (by simp; omega) E6.out.size).mono ?_
  rintro e w7 ⟨x7, rfl, o7, e7⟩
  have O7 := Lib.hid o7.sv
  have E7 := Lib.hid (E6.out.trans e7 fun b hb => .inr (O6.out.lt b hb).1)
  clear O6 E6 o7 e7
  go_wp2_with fail
  refine (slCoin_calls O7.out).mono ?_
  rintro e w10 ⟨rfl, n10, rfl⟩
  go_wp2
  go_ret
  exact ⟨ret_int (by simp [mark, markB, leI]), E7.out.drewN _⟩

/-- What a child's pointer says of the number of nodes below it, and of their digest. -/
def childAt (w : World) (p : Option Nat) (n d : Int) : Prop := match p with | none => n = 0 ∧ d = 0 | some b => w.cell? ⟨b, 5, none⟩ = some (.int .i64 n) ∧ w.cell? ⟨b, 6, none⟩ = some (.int .u64 d)
theorem childAt.at {w w' : World} {p : Option Nat} {n d : Int} (h : childAt w p n d) (e : w'.heap = w.heap) : childAt w' p n d := by
  cases p with
  | none => exact h
  | some b => exact ⟨by rw [World.cell?_of_block (w := w) (by rw [e])]; exact h.1, by rw [World.cell?_of_block (w := w) (by rw [e])]; exact h.2⟩
theorem orcount_calls {p : Option Nat} {n d : Int} {w : World} (h : childAt w p n d) :
    Calls Try.prog 122 #[ptr p] w fun e w' => e = .returned (.int .i64 n) ∧ w' = w := by
  cases p with
  | none =>
    obtain ⟨rfl, rfl⟩ : n = 0 ∧ d = 0 := h
    show Calls Try.prog 122 #[.pointer none] w _
    go_enter Try.func122, Try.ntmps122
    go_wp2
    go_ret
    exact ⟨rfl, rfl⟩
  | some b =>
    have h5 : w.cell? ⟨b, 5, none⟩ = some (.int .i64 n) := h.1
    clear h
    show Calls Try.prog 122 #[.pointer (some ⟨b, 0, none⟩)] w _
    go_enter Try.func122, Try.ntmps122
    go_wp2
    go_ret
    exact ⟨rfl, rfl⟩
theorem orsum_calls {p : Option Nat} {n d : Int} {w : World} (h : childAt w p n d) :
    Calls Try.prog 131 #[ptr p] w fun e w' => e = .returned (.int .u64 d) ∧ w' = w := by
  cases p with
  | none =>
    obtain ⟨rfl, rfl⟩ : n = 0 ∧ d = 0 := h
    show Calls Try.prog 131 #[.pointer none] w _
    go_enter Try.func131, Try.ntmps131
    go_wp2
    go_ret
    exact ⟨rfl, rfl⟩
  | some b =>
    have h6 : w.cell? ⟨b, 6, none⟩ = some (.int .u64 d) := h.2
    clear h
    show Calls Try.prog 131 #[.pointer (some ⟨b, 0, none⟩)] w _
    go_enter Try.func131, Try.ntmps131
    go_wp2
    go_ret
    exact ⟨rfl, rfl⟩

theorem childAt.kept {S : Nat → Prop} {w w' : World} {p : Option Nat} {n d : Int} (h : childAt w p n d) (k : Kept S w w') (hS : ∀ b, p = some b → ¬ S b) : childAt w' p n d := by
  cases p with
  | none => exact h
  | some b => exact ⟨k.cell (p := ⟨b, 5, none⟩) (hS b rfl) h.1, k.cell (p := ⟨b, 6, none⟩) (hS b rfl) h.2⟩

set_option maxRecDepth 100000 in
set_option maxHeartbeats 1000000 in
theorem orfresh_calls {D1 D2 : Nat → Prop} {seed h : Int} {m b : Nat} {kv vv : Value} {k v : Bts} {pl pr : Option Nat} {nl nr dl dr s0 d0 : Int} {w : World}
    (hm : w.cell? ⟨m, 1, none⟩ = some (.int .u64 seed)) (hb : w.heap[b]? = some (nodeObj kv vv h pl pr s0 d0)) (hmb : m ≠ b) (hl : childAt w pl nl dl) (hr : childAt w pr nr dr) (hk : BV D1 w kv k) (hv : BV D2 w vv v)
    (hD1 : ¬ D1 b) (hD2 : ¬ D2 b) (hkl : k.length ≤ 64) (hvl : v.length ≤ 1000) (ul : isU64 dl) (ur : isU64 dr) (n1 : 0 ≤ nl) (n2 : 0 ≤ nr) (n3 : nl + nr ≤ 1000000000) (hpl : pl ≠ some b) (hpr : pr ≠ some b) :
    Calls Try.prog 169 #[.pointer (some ⟨m, 0, none⟩), .pointer (some ⟨b, 0, none⟩)] w fun e w' => e = .returned (.pointer (some ⟨b, 0, none⟩)) ∧ w'.heap[b]? = some (nodeObj kv vv h pl pr (1 + nl + nr) (mark seed dl k v dr)) ∧ Kept (fun x => x = b) w w' := by
  obtain ⟨c0, c1, c2, c3, c4, c5, c6, fr⟩ := NodeAt.of hb
  have HB := Lib.hid hb
  have HL := Lib.hid hl
  have HR := Lib.hid hr
  have HK := Lib.hid hk
  have HV := Lib.hid hv
  have FR := Lib.hid fr
  have f5 := fr 5
  clear hb hl hr hk hv fr c0 c1 c2
  go_enter Try.func169, Try.ntmps169
  go_wp2
  refine wp_region_still_tail 15 (by kernel_rfl) (by kernel_rfl) ?_
  simp only [List.take_succ_cons, List.take_zero, List.drop_succ_cons, List.drop_zero]
  repeat still_step
  still_call (orcount_calls (by exact HL.out.at rfl))
  repeat still_step
  still_call (orcount_calls (by exact HR.out.at rfl))
  repeat still_step
  try refine wpStill_nil ?_
  change wpList _ _ _ _ _ w.drew
  go_wp2
  have hsz : IntKind.i64.wrap (IntKind.i64.wrap (1 + nl) + nr) = 1 + nl + nr := by rw [IntWalk.i64_in (1 + nl) ⟨by omega, by omega⟩, IntWalk.i64_in _ ⟨by omega, by omega⟩]
  have HB1 := Lib.hid (show ((w.setCell ⟨b, 5, none⟩ (.int .i64 (1 + nl + nr))).drew).heap[b]? = some (nodeObj kv vv h pl pr (1 + nl + nr) d0) from setCell_obj HB.out _)
  have K1 := Lib.hid (((Kept.refl (fun x => x = b) w).setCell (p := ⟨b, 5, none⟩) (.inl rfl) (.int .i64 (1 + nl + nr))).drew)
  generalize (w.setCell ⟨b, 5, none⟩ (.int .i64 (1 + nl + nr))).drew = w1 at *
  obtain ⟨d0, d1, d2, d3, d4, d5, d6, dfr⟩ := NodeAt.of HB1.out
  have hm1 := K1.out.cell (p := ⟨m, 1, none⟩) (by simpa using hmb) hm
  have HL1 := Lib.hid (HL.out.kept K1.out (by intro x hx; rintro rfl; exact hpl hx))
  have HR1 := Lib.hid (HR.out.kept K1.out (by intro x hx; rintro rfl; exact hpr hx))
  have HK1 := Lib.hid (HK.out.kept byteEl_k K1.out (by rintro x hx _ rfl; exact hD1 hx))
  have HV1 := Lib.hid (HV.out.kept byteEl_k K1.out (by rintro x hx _ rfl; exact hD2 hx))
  have f6 := dfr 6
  clear hm c3 c4 c5 c6 HB HL HR HK HV FR f5 d2 d5 dfr hsz
  go_region_held3 (fun w' => w'.cell? ⟨m, 1, none⟩ = some (.int .u64 seed) ∧ w'.cell? ⟨b, 0, none⟩ = some kv ∧ w'.cell? ⟨b, 1, none⟩ = some vv ∧ w'.cell? ⟨b, 3, none⟩ = some (ptr pl) ∧ w'.cell? ⟨b, 4, none⟩ = some (ptr pr)) (first | exact ⟨hm1, d0, d1, d3, d4⟩ | exact ⟨e2.cell (fun h => h) hm1, e2.cell (fun h => h) d0, e2.cell (fun h => h) d1, e2.cell (fun h => h) d3, e2.cell (fun h => h) d4⟩ | exact ⟨cell_other (.inl hmb) (e2.cell (fun h => h) hm1), cell_other (.inr (by simp)) (e2.cell (fun h => h) d0), cell_other (.inr (by simp)) (e2.cell (fun h => h) d1), cell_other (.inr (by simp)) (e2.cell (fun h => h) d3), cell_other (.inr (by simp)) (e2.cell (fun h => h) d4)⟩) (first | (go_at_call 131; refine (orsum_calls (by exact HL1.out.at rfl)).mono ?_; rintro e w' ⟨rfl, rfl⟩) | (go_at_call 131; refine (orsum_calls (by exact HR1.out.at rfl)).mono ?_; rintro e w' ⟨rfl, rfl⟩) | (go_at_call 185; refine (ordigestOf_calls ul ur (by exact HK1.out.at rfl) (by exact HV1.out.at rfl) hkl hvl).mono ?_; rintro e w2 ⟨rfl, e2⟩; have g6 := e2.cell (p := ⟨b, 6, none⟩) (fun h => h) d6; have fr6 : w2.frozen? ⟨b, 6, none⟩ = false := (NodeAt.of (e2.obj (fun h => h) HB1.out)).fr 6; have HB2 := Lib.hid (e2.obj (fun h => h) HB1.out); have K2 := Lib.hid ((K1.out.drew).trans e2 fun _ h => h.elim)))
  go_wp2
  go_ret
  exact ⟨rfl, setCell_obj HB2.out _, K2.out.setCell (.inl rfl) _⟩
end Go.Proofs.Ytaopjdjbpamhhaa
