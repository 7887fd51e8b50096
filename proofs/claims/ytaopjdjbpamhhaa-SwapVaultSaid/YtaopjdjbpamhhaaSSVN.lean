/- Proved: texts of the families over slots, order and swap, joined, as far as the claim needs them. Conditions: as each theorem says. -/
import Derived.Test.YtaopjdjbpamhhaaSSVI
import Derived.Test.YtaopjdjbpamhhaaSSVC
import Derived.Test.YtaopjdjbpamhhaaSSVM
import Derived.Deep.DeepCutAuto
/- Proved: contracts of the reference 01's Less, Same, Before, mod. Conditions: bytes and items in memory. -/
namespace Go.Proofs.Ytaopjdjbpamhhaa
open Go Go.RowKit
set_option linter.unusedVariables false
set_option linter.unusedSimpArgs false
def lessK (a b : Bts) : Bool := decide (cmpB a b < 0)
set_option maxHeartbeats 400000 in
theorem r1Less_calls {D1 D2 : Nat → Prop} {v1 v2 : Value} {la lb : Bts} {w : World} (h1 : BV D1 w v1 la) (h2 : BV D2 w v2 lb) :
    Calls Try.prog 96 #[v1, v2] w fun e w' => e = .returned (.bool (lessK la lb)) ∧ Drew w w' := by
  obtain ⟨a1, c1, rfl, _, m1, h1⟩ := h1
  obtain ⟨a2, c2, rfl, _, m2, h2⟩ := h2
  have H1 := Lib.hid h1
  have H2 := Lib.hid h2
  clear h1 h2
  go_enter Try.func96, Try.ntmps96
  go_wp2
  go_loopw [5] (fun i w' => ∃ k : Nat, k ≤ la.length ∧ k ≤ lb.length ∧ i = .int .i64 k ∧ Hid (cmpB la lb = cmpB (la.drop k) (lb.drop k)) ∧ Drew w w') (fun i _ => la.length - (intOf i).toNat)
  case atStart => exact ⟨0, by omega, by omega, rfl, rfl, Drew.refl _⟩
  case round =>
    obtain ⟨k, hk1, hk2, rfl, HK, ⟨n, rfl⟩⟩ := hrel
    by_cases hl1 : k < la.length
    · by_cases hl2 : k < lb.length
      · obtain ⟨b1, o1, rfl, _, g1⟩ := Rd.byte H1.out hl1
        obtain ⟨b2, o2, rfl, _, g2⟩ := Rd.byte H2.out hl2
        have x1 := u8_lt la[k]
        have x2 := u8_lt lb[k]
        by_cases he : la[k] = lb[k]
        · have e1 := u8_eq he
          have HE := Lib.hid he
          clear he
          go_wp2
          go_quiet (fail)
          go_wp2
          go_roundw
          case rel => exact ⟨k + 1, by omega, by omega, by go_num, by show _ = _; rw [HK.out, cmpB_step hl1 hl2, if_pos HE.out], (by repeat (first | exact Drew.refl _ | exact ⟨_, rfl⟩ | apply Drew.step | apply Drew.one))⟩
          case measure => simp [intOf]; omega
        · have e1 := u8_ne he
          have HR := Lib.hid (show decide (((la[k].toNat : Nat) : Int) < ((lb[k].toNat : Nat) : Int)) = lessK la lb by
            unfold lessK
            rw [HK.out, cmpB_step hl1 hl2, if_neg he]
            refine decide_eq_decide.2 ?_
            omega)
          clear he
          go_wp2
          go_quiet (fail)
          go_wp2
          go_quiet (fail)
          go_wp2
          go_ret
          refine ⟨?_, (by repeat (first | exact Drew.refl _ | exact ⟨_, rfl⟩ | apply Drew.step | apply Drew.one))⟩
          rw [← HR.out]
          first | rfl | (refine ret_bool ?_; simp)
      · have HR := Lib.hid (show decide ((la.length : Int) < (lb.length : Int)) = lessK la lb by
          unfold lessK
          rw [HK.out, cmpB_end hk1 hk2 (by omega)]
          refine decide_eq_decide.2 ?_
          omega)
        go_wp2
        go_ret
        refine ⟨?_, (by repeat (first | exact Drew.refl _ | exact ⟨_, rfl⟩ | apply Drew.step | apply Drew.one))⟩
        rw [← HR.out]
        first | rfl | (refine ret_bool ?_; simp)
    · have HR := Lib.hid (show decide ((la.length : Int) < (lb.length : Int)) = lessK la lb by
        unfold lessK
        rw [HK.out, cmpB_end hk1 hk2 (by omega)]
        refine decide_eq_decide.2 ?_
        omega)
      go_wp2
      go_ret
      refine ⟨?_, (by repeat (first | exact Drew.refl _ | exact ⟨_, rfl⟩ | apply Drew.step | apply Drew.one))⟩
      rw [← HR.out]
      first | rfl | (refine ret_bool ?_; simp)
/-- The reference's order of items. -/
def befI (x y : ItemK) : Bool := if x.2.1 = y.2.1 then lessK x.2.2 y.2.2 else decide (y.2.1 < x.2.1)
theorem befI_swo : Swo befI where
  irrefl x := by unfold befI lessK; simp [cmpB_self]
  trans x y z h k := by
    unfold befI at *
    split at h <;> split at k <;> split
    · exact (by unfold lessK at *; simp only [decide_eq_true_eq] at *; exact cmpB_trans h k)
    · omega
    · omega
    · simp only [decide_eq_true_eq] at *; omega
    · omega
    · simp only [decide_eq_true_eq] at *; omega
    · simp only [decide_eq_true_eq] at *; omega
    · simp only [decide_eq_true_eq] at *; omega
  ntrans x y z h k := by
    unfold befI at *
    split at h <;> split at k <;> split
    · unfold lessK at *
      simp only [decide_eq_false_iff_not] at *
      have n1 := cmpB_neg x.2.2 y.2.2
      have n2 := cmpB_neg y.2.2 z.2.2
      have n3 := cmpB_neg x.2.2 z.2.2
      intro g
      by_cases c1 : cmpB y.2.2 x.2.2 < 0
      · by_cases c2 : cmpB z.2.2 y.2.2 < 0
        · have := cmpB_trans c2 c1
          omega
        · have e := cmpB_zero (show cmpB z.2.2 y.2.2 = 0 by omega)
          rw [e] at g
          omega
      · have e := cmpB_zero (show cmpB y.2.2 x.2.2 = 0 by omega)
        rw [e] at k
        omega
    · omega
    · omega
    · simp only [decide_eq_false_iff_not] at *; omega
    · omega
    · simp only [decide_eq_false_iff_not] at *; omega
    · simp only [decide_eq_false_iff_not] at *; omega
    · simp only [decide_eq_false_iff_not] at *; omega
set_option maxHeartbeats 1000000 in
theorem r1Before_calls {D1 D2 : Nat → Prop} {u v : Value} {x y : ItemK} {w : World} (h1 : BV D1 w u x.2.2) (h2 : BV D2 w v y.2.2) :
    Calls Try.prog 53 #[.agg #[.int .i64 x.1, .int .u64 x.2.1, u], .agg #[.int .i64 y.1, .int .u64 y.2.1, v]] w fun e w' => e = .returned (.bool (befI x y)) ∧ Kept Noneof w w' := by
  have H1 := Lib.hid h1
  have H2 := Lib.hid h2
  obtain ⟨a1, n1, c1, rfl⟩ := h1.sl
  obtain ⟨a2, n2, c2, rfl⟩ := h2.sl
  obtain ⟨x1, x2, x3⟩ := x
  obtain ⟨y1, y2, y3⟩ := y
  simp only at *
  have kk := Lib.hid (((Kept.refl Noneof w).alloc (.cells #[.int .i64 x1, .int .u64 x2, .slice a1 n1 c1] 61)).alloc (.cells #[.int .i64 y1, .int .u64 y2, .slice a2 n2 c2] 61))
  clear h1 h2
  by_cases he : x2 = y2
  · subst he
    have B := Lib.hid (show befI (x1, x2, x3) (y1, x2, y3) = lessK x3 y3 by unfold befI; simp)
    have e0 : (x2 != x2) = false := by simp
    generalize befI (x1, x2, x3) (y1, x2, y3) = res at *
    go_enter Try.func53, Try.ntmps53
    go_wp2_with fail
    refine (r1Less_calls (H1.out.still' kk.out) (H2.out.still' kk.out)).mono ?_
    rintro e w1 ⟨rfl, d1⟩
    have K := Lib.hid (kk.out.drewn d1)
    clear d1
    go_wp2
    go_ret
    exact ⟨by rw [B.out]; rfl, K.out⟩
  · have B := Lib.hid (show befI (x1, x2, x3) (y1, y2, y3) = decide (y2 < x2) by unfold befI; simp [he])
    have e0 : (x2 != y2) = true := by simpa using he
    generalize befI (x1, x2, x3) (y1, y2, y3) = res at *
    clear he
    go_enter Try.func53, Try.ntmps53
    go_wp2
    go_ret
    exact ⟨by rw [B.out]; rfl, kk.out⟩
theorem r1mod_calls {w : World} {s : Int} {cells : Nat} (h1 : 1 ≤ cells) (h2 : cells ≤ 1048576) :
    Calls Try.prog 102 #[.int .i64 s, .int .i64 cells] w fun e w' => e = .returned (.int .i64 (homeN cells s)) ∧ w' = w := by
  have hz : ((cells : Int) == 0) = false := by simp; omega
  have HNEG := Lib.hid (fun (h : s.tmod cells < 0) => homeN_neg h1 h)
  have HPOS := Lib.hid (fun (h : ¬ s.tmod cells < 0) => homeN_pos h1 h)
  generalize homeN cells s = hh at *
  by_cases hr : s.tmod cells < 0
  · have e := HNEG.out hr
    have b1 : -1048576 ≤ s.tmod cells := by omega
    clear HNEG HPOS
    go_enter Try.func102, Try.ntmps102
    go_wp2
    go_ret
    exact ⟨rfl, rfl⟩
  · have e := HPOS.out hr
    clear HNEG HPOS
    go_enter Try.func102, Try.ntmps102
    go_wp2
    go_ret
    exact ⟨rfl, rfl⟩
end Go.Proofs.Ytaopjdjbpamhhaa
/- Proved: contract of the reference 01's Lay. Conditions: items in memory, at most 1048576 cells, no more items than cells. -/
namespace Go.Proofs.Ytaopjdjbpamhhaa
open Go Go.RowKit
set_option linter.unusedVariables false
set_option linter.unusedSimpArgs false
/-! ### Picking the first one, again and again -/
section
variable {bef : Nat → Nat → Bool} {N : Nat} {o : List Nat}
structure Sel (bef : Nat → Nat → Bool) (N : Nat) (o : List Nat) : Prop where
  nd : o.Nodup
  lt : ∀ i ∈ o, i < N
  srt : o.Pairwise (Befs bef)
  all : ∀ i ∈ o, ∀ j, j < N → j ∉ o → Befs bef i j
theorem Sel.nil (bef : Nat → Nat → Bool) (N : Nat) : Sel bef N [] := ⟨List.nodup_nil, fun _ h => by simp at h, List.Pairwise.nil, fun _ h => by simp at h⟩
theorem Sel.next {m : Nat} (h : Sel bef N o) (hm : m < N) (hn : m ∉ o) (ha : ∀ j, j < N → j ∉ o → j ≠ m → Befs bef m j) : Sel bef N (o ++ [m]) := by
  refine ⟨List.nodup_append.2 ⟨h.nd, by simp, fun x hx b hb e => ?_⟩, fun i hi => ?_, List.pairwise_append.2 ⟨h.srt, List.pairwise_singleton _ _, fun x hx b hb => ?_⟩, fun i hi j hj hjn => ?_⟩
  · obtain rfl : b = m := by simpa using hb
    exact hn (e ▸ hx)
  · rcases List.mem_append.1 hi with hi | hi
    · exact h.lt i hi
    · obtain rfl : i = m := by simpa using hi
      exact hm
  · obtain rfl : b = m := by simpa using hb
    exact h.all x hx b hm hn
  · have hj1 : j ∉ o := fun e => hjn (List.mem_append_left _ e)
    have hj2 : j ≠ m := fun e => hjn (by simp [e])
    rcases List.mem_append.1 hi with hi | hi
    · exact h.all i hi j hj hj1
    · obtain rfl : i = m := by simpa using hi
      exact ha j hj hj1 hj2
theorem Sel.full (h : Sel bef N o) (hl : o.length = N) : Ordd bef N o := by
  refine ⟨(List.perm_ext_iff_of_nodup h.nd List.nodup_range).2 fun j => ⟨fun hj => List.mem_range.2 (h.lt j hj), fun hj => ?_⟩, h.srt⟩
  refine Classical.byContradiction fun hn => ?_
  have := nodup_le (m := j :: o) (l := List.range N) (List.nodup_cons.2 ⟨hn, h.nd⟩) fun x hx => by
    rcases List.mem_cons.1 hx with rfl | hx
    · exact hj
    · exact List.mem_range.2 (h.lt x hx)
  simp at this
  omega
/-- Some one is left. -/
theorem Sel.left (h : Sel bef N o) (hl : o.length < N) : ∃ j, j < N ∧ j ∉ o := by
  refine Classical.byContradiction fun hn => ?_
  have := nodup_le (m := List.range N) (l := o) List.nodup_range fun x hx => Classical.byContradiction fun h => hn ⟨x, List.mem_range.1 hx, h⟩
  simp at this
  omega
/-- The first of those below i that are left. -/
def Cand (bef : Nat → Nat → Bool) (o : List Nat) (i : Nat) : Option Nat → Prop
  | none => ∀ j, j < i → j ∈ o
  | some m => m < i ∧ m ∉ o ∧ ∀ j, j < i → j ∉ o → j ≠ m → Befs bef m j
theorem Cand.start : Cand bef o 0 none := fun j h => by omega
theorem Cand.done {i : Nat} {c : Option Nat} (h : Cand bef o i c) (hi : i ∈ o) : Cand bef o (i + 1) c := by
  cases c with
  | none =>
    intro j hj
    by_cases e : j = i
    · rw [e]; exact hi
    · exact h j (by omega)
  | some m =>
    obtain ⟨h1, h2, h3⟩ := h
    refine ⟨by omega, h2, fun j hj hjn hjm => h3 j ?_ hjn hjm⟩
    have : j ≠ i := fun e => hjn (e ▸ hi)
    omega
theorem Cand.first {i : Nat} (h : Cand bef o i none) (hi : i ∉ o) : Cand bef o (i + 1) (some i) :=
  ⟨by omega, hi, fun j hj hjn hjm => absurd (h j (by omega)) hjn⟩
theorem Cand.take (w : Swo bef) {i m : Nat} (h : Cand bef o i (some m)) (hi : i ∉ o) (hb : bef i m = true) : Cand bef o (i + 1) (some i) := by
  obtain ⟨h1, h2, h3⟩ := h
  refine ⟨by omega, hi, fun j hj hjn hjm => ?_⟩
  by_cases e : j = m
  · exact .inl (e ▸ hb)
  · exact Lt'.trans (ix := id) w (.inl hb) (h3 j (by omega) hjn e)
theorem Cand.keep {i m : Nat} (h : Cand bef o i (some m)) (hb : bef i m = false) : Cand bef o (i + 1) (some m) := by
  obtain ⟨h1, h2, h3⟩ := h
  refine ⟨by omega, h2, fun j hj hjn hjm => ?_⟩
  by_cases e : j = i
  · exact .inr ⟨e ▸ hb, by omega⟩
  · exact h3 j (by omega) hjn hjm
end
/-- The reference's next: -1 if there is none. -/
def nextV : Option Nat → Int
  | none => -1
  | some m => (m : Int)
def doneL (o : List Nat) (N : Nat) : List Bool := (List.range N).map fun i => decide (i ∈ o)
theorem doneL_nil (N : Nat) : doneL [] N = List.replicate N false := by
  unfold doneL
  refine List.ext_getElem (by simp) fun i h1 h2 => by simp
theorem doneL_len (o : List Nat) (N : Nat) : (doneL o N).length = N := by simp [doneL]
theorem doneL_get {o : List Nat} {N i : Nat} (h : i < (doneL o N).length) : (doneL o N)[i] = decide (i ∈ o) := by simp [doneL]
theorem doneL_set {o : List Nat} {N m : Nat} : (doneL o N).set m true = doneL (o ++ [m]) N := by
  refine List.ext_getElem (by simp [doneL]) fun i h1 h2 => ?_
  rw [List.getElem_set]
  by_cases e : m = i
  · subst e; simp [doneL]
  · rw [if_neg e, doneL_get, doneL_get]
    have : (i ∈ o ++ [m]) ↔ i ∈ o := by simp [Ne.symm e]
    simp [this]

/-! ### Rows of bools -/
def boolEl : El Bool where
  k := 1
  R := fun _ _ cs x => cs = [.bool x]
  mono := fun _ h => h
  len := fun h => by rw [h]; rfl
  one := fun h u hu => by rw [h] at hu; exact (by simpa using hu : u = _) ▸ rfl
theorem tBools : SlT Try.prog 157 4 1 1 (.bool false) := SlT.of (by kernel_rfl) (by kernel_rfl) rfl (by decide)
theorem Own.bslot {D : Nat → Prop} {B : Nat} {w : World} {g n c i : Nat} {l : List Bool} (h : Own 4 boolEl D B w (.slice (some ⟨g, 0, none⟩) n c) l) (hi : i < l.length) : w.cell? ⟨g, i, none⟩ = some (.bool l[i]) ∧ w.frozen? ⟨g, i, none⟩ = false ∧ g < w.heap.size ∧ B ≤ g := by
  have hlt := h.lt g rfl
  have hf := (h.cellat (j := 0) hi (by decide)).2
  obtain ⟨a, c', e, _, _, rd⟩ := h.rd (D' := fun _ => True) (fun _ _ => trivial) (fun _ _ => trivial)
  simp only [Value.slice.injEq] at e
  obtain ⟨b, o, cs, e2, _, hc, e3⟩ := rd i hi
  rw [← e.1] at e2
  simp only [Option.some.injEq, Addr.mk.injEq, and_true] at e2
  obtain ⟨rfl, rfl⟩ := e2
  have e3 : cs = [.bool l[i]] := e3
  subst e3
  have := hc 0 (by simp)
  have k1 : boolEl.k = 1 := rfl
  rw [k1] at this hf
  simp only [Nat.zero_add, Nat.mul_one, Nat.add_zero, List.getElem_cons_zero] at this hf
  exact ⟨this, hf, hlt.2, hlt.1⟩
theorem Own.bput {D : Nat → Prop} {B : Nat} {w : World} {g n c i : Nat} {l : List Bool} (h : Own 4 boolEl D B w (.slice (some ⟨g, 0, none⟩) n c) l) (hi : i < l.length) (y : Bool) :
    Own 4 boolEl D B (w.setCell ⟨g, i, none⟩ (.bool y)) (.slice (some ⟨g, 0, none⟩) n c) (l.set i y) := by
  refine h.setc (cs := [.bool y]) hi rfl (D' := fun _ => False) rfl (fun _ h => h.elim) ((Kept.refl (fun b => b = g) w).setCell (.inl rfl) _) fun cur hcur => ?_
  rw [setCell_obj hcur]
  simp only [putCells, boolEl, Nat.mul_one]
theorem homeN_nat {cells c : Nat} : homeN cells ((c : Int) + 1) = (c + 1) % cells := by
  unfold homeN
  rw [show ((c : Int) + 1) % (cells : Int) = (((c + 1) % cells : Nat) : Int) by push_cast; rfl]
  exact Int.toNat_natCast _

set_option maxRecDepth 100000 in
set_option maxHeartbeats 8000000 in
theorem r1Lay_calls {w : World} {cells : Nat} {items : Value} {l : List ItemK} {D : Nat → Prop} (hs : SV itemEl D w items l) (h1 : 1 ≤ cells) (h2 : cells ≤ 1048576) (hl : l.length ≤ cells) (hD : ∀ b, D b → b < w.heap.size) :
    Calls Try.prog 42 #[.int .i64 cells, items] w fun e w' => ∃ g ord, e = .returned (.slice (some ⟨g, 0, none⟩) cells cells) ∧ Ordd (befN befI l) l.length ord ∧
      Own 3 intEl Noneof w.heap.size w' (.slice (some ⟨g, 0, none⟩) cells cells) (layF cells (fun i => homeN cells ((l.getD i default).1)) ord) ∧ Kept Noneof w w' := by
  have HS := Lib.hid hs
  have HD := Lib.hid hD
  obtain ⟨a, c, rfl, ⟨hc, _⟩, hm, _⟩ := hs
  obtain ⟨n, hn⟩ : ∃ n, l.length = n := ⟨_, rfl⟩
  obtain ⟨home, hhome⟩ : ∃ home : Nat → Nat, home = fun i => homeN cells ((l.getD i default).1) := ⟨_, rfl⟩
  rw [← hhome]
  rw [hn] at hl hc hm ⊢
  replace hn := Lib.hid hn
  have HH := Lib.hid (show ∀ i, home i < cells from fun i => by rw [hhome]; exact homeN_lt _ h1)
  replace hhome := Lib.hid hhome
  have SW := Lib.hid (befN_swo befI_swo l)
  have t1 : decide ((cells : Int) < 1) = false := decide_eq_false (by omega)
  have t2 : decide ((1048576 : Int) < (cells : Int)) = false := decide_eq_false (by omega)
  have t3 : decide ((cells : Int) < (n : Int)) = false := decide_eq_false (by omega)
  have t3' : decide (cells < n) = false := decide_eq_false (by omega)
  clear hD
  obtain ⟨B, hB⟩ : ∃ B, w.heap.size = B := ⟨_, rfl⟩
  rw [hB]
  replace hB := Lib.hid hB
  go_enter Try.func42, Try.ntmps42
  go_wp2_with (at_make; refine wl_make (E := intEl) rfl _ _ _ rfl tInts Noneof B cells .i64 .i64 _ _ rfl rfl rfl rfl 0 (fun _ => rfl) ?b1 ?b2 ?b3 ?_)
  case b1 => omega
  case b2 => omega
  case b3 => exact Nat.le_of_eq hB.out.symm
  intro w1 g hown hk hg
  clear t1 t2 t3 t3'
  have hz0 : List.replicate cells (0 : Int) = List.replicate 0 (-1) ++ List.replicate (cells - 0) 0 := by simp
  rw [hz0] at hown
  have O1 := Lib.hid hown
  have K1 := Lib.hid hk
  have HG := Lib.hid (show B ≤ g by have := hB.out; omega)
  clear hown hk hg hz0
  go_wp2_with fail
  go_loopw [6] (fun kv wr => ∃ k : Nat, k ≤ cells ∧ kv = .int .i64 k ∧ Hid (Own 3 intEl Noneof B wr (.slice (some ⟨g, 0, none⟩) cells cells) (List.replicate k (-1) ++ List.replicate (cells - k) 0)) ∧ Hid (Kept Noneof w wr)) (fun kv _ => cells - (intOf kv).toNat)
  case atStart => exact ⟨0, Nat.zero_le _, rfl, O1, K1⟩
  clear O1 K1
  obtain ⟨k, hk, rfl, O, KW⟩ := hrel
  by_cases hlt : k < cells
  · have hlt' : (k : Int) < (cells : Int) := by omega
    have hkl : k < (List.replicate k (-1 : Int) ++ List.replicate (cells - k) 0).length := by simp; omega
    obtain ⟨e0, e1, _, _⟩ := O.out.islot hkl
    have OP := O.out.iput hkl (-1)
    have hset : (List.replicate k (-1 : Int) ++ List.replicate (cells - k) 0).set k (-1) = List.replicate (k + 1) (-1) ++ List.replicate (cells - (k + 1)) 0 := by
      rw [List.set_append_right _ _ (by simp), List.length_replicate, Nat.sub_self, show cells - k = (cells - (k + 1)) + 1 by omega, List.replicate_succ, List.set_cons_zero, List.replicate_succ', List.append_assoc]
      rfl
    rw [hset] at OP
    replace OP := Lib.hid OP
    generalize (List.replicate k (-1 : Int) ++ List.replicate (cells - k) 0)[k] = z at *
    have kT := (Kept.refl (fun b => b = g) wr).setCell (p := ⟨g, k, none⟩) (.inl rfl) (.int .i64 (-1))
    have KT := Lib.hid (show Kept Noneof w (wr.setCell ⟨g, k, none⟩ (.int .i64 (-1))) from KW.out.trans kT fun b e => .inr (by have := hB.out; have := HG.out; omega))
    clear hset hkl kT O KW
    go_wp2_with fail
    generalize wr.setCell ⟨g, k, none⟩ (.int .i64 (-1)) = wz at *
    clear e0 e1
    go_wp2
    go_roundw
    case rel => exact ⟨k + 1, by omega, by go_num, OP, KT⟩
    case measure => simp [intOf]; omega
  · obtain rfl : cells = k := by omega
    have O0 := Lib.hid (show Own 3 intEl Noneof B wr (.slice (some ⟨g, 0, none⟩) cells cells) (layF cells home []) by
      have := O.out
      rw [Nat.sub_self, List.replicate_zero, List.append_nil] at this
      exact this)
    clear O hlt hk
    go_wp2_with (at_make; refine wl_make (E := boolEl) rfl _ _ _ rfl tBools Noneof B n .i64 .i64 _ _ rfl rfl rfl rfl false (fun _ => rfl) ?b1 ?b2 ?b3 ?_)
    case b1 => omega
    case b2 => omega
    case b3 => have := KW.out.size; have := hB.out; omega
    intro w2 g2 hown hk hg2
    rw [← doneL_nil n] at hown
    have GG := Lib.hid (show g ≠ g2 ∧ B ≤ g2 by have := (O0.out.lt g rfl).2; have := KW.out.size; have := hB.out; omega)
    have OD := Lib.hid hown
    replace O0 := Lib.hid (O0.out.kept hk fun _ h => h.elim)
    replace KW := Lib.hid (KW.out.tr hk)
    clear hown hk hg2
    go_wp2_with fail
    go_loopw [8] (fun kv wr => ∃ (k : Nat) (o : List Nat), k ≤ n ∧ kv = .int .i64 k ∧ Hid (o.length = k ∧ Sel (befN befI l) n o) ∧ Hid (Own 3 intEl Noneof B wr (.slice (some ⟨g, 0, none⟩) cells cells) (layF cells home o)) ∧ Hid (Own 4 boolEl Noneof B wr (.slice (some ⟨g2, 0, none⟩) n n) (doneL o n)) ∧ Hid (Kept Noneof w wr)) (fun kv _ => n - (intOf kv).toNat)
    case atStart => exact ⟨0, [], Nat.zero_le _, rfl, Lib.hid ⟨rfl, Sel.nil _ _⟩, O0, OD, KW⟩
    clear O0 OD KW
    obtain ⟨k, o, hkn, rfl, HO, O, OD, KW⟩ := hrel
    by_cases hlt : k < n
    · have hlt' : (k : Int) < (n : Int) := by omega
      have LEN := Lib.hid (layF_length cells home o)
      have FR := Lib.hid ((layF_laid (cells := cells) (home := home) (l := o) (by have := HO.out.1; omega) HO.out.2.nd fun i _ => HH.out i).free (by have := HO.out.1; omega))
      have LS := Lib.hid (fun m => layF_snoc cells home o m)
      have LFT := Lib.hid (HO.out.2.left (by have := HO.out.1; omega))
      generalize layF cells home o = out at *
      go_wp2_with fail
      go_loopw [9, 10] (fun nv iv wr => ∃ (i : Nat) (cd : Option Nat), i ≤ n ∧ iv = .int .i64 i ∧ nv = .int .i64 (nextV cd) ∧ Hid (Cand (befN befI l) o i cd) ∧ Hid (Own 3 intEl Noneof B wr (.slice (some ⟨g, 0, none⟩) cells cells) out) ∧ Hid (Own 4 boolEl Noneof B wr (.slice (some ⟨g2, 0, none⟩) n n) (doneL o n)) ∧ Hid (Kept Noneof w wr)) (fun _ iv _ => n - (intOf iv).toNat)
      case atStart => exact ⟨0, none, Nat.zero_le _, rfl, rfl, Lib.hid Cand.start, O, OD, KW⟩
      case round =>
        clear O OD KW
        obtain ⟨i, cd, hin, rfl, rfl, CD, O, OD, KW⟩ := hrel
        by_cases hli : i < n
        · have hli' : (i : Int) < (n : Int) := by omega
          have hil : i < (doneL o n).length := by rw [doneL_len]; exact hli
          obtain ⟨e0, _, _, _⟩ := OD.out.bslot hil
          rw [doneL_get] at e0
          by_cases hio : i ∈ o
          · rw [decide_eq_true hio] at e0
            have CN := Lib.hid (CD.out.done hio)
            clear hio hil CD
            go_wp2_with fail
            refine wp_region_chain 20 [17] (fun w' => w'.cell? ⟨g2, i, none⟩ = some (.bool true)) (by kernel_rfl) (by kernel_rfl) ?_ ?_
            · exact e0
            refine SeqW.out ?_
            simp only [List.take_succ_cons, List.take_zero, List.drop_succ_cons, List.drop_zero]
            have kd := (Kept.refl Noneof wr).drew
            replace e0 := kd.cell (p := ⟨g2, i, none⟩) (fun h => h) e0
            replace O := Lib.hid (O.out.kept kd fun _ h => h.elim)
            replace OD := Lib.hid (OD.out.kept kd fun _ h => h.elim)
            replace KW := Lib.hid (KW.out.tr kd)
            generalize wr.drew = wd at *
            clear kd
            iterate 6 (refine SeqW.val (v := ?_) (by rfl) (by rfl) (fun wx hSw => ?_) ?_; rotate_left; (focus ((try dsimp only at hSw); go_simp; (try with_reducible rfl))); (try simp only [Act.put, List.setIfInBounds_toArray, List.set_cons_zero, List.set_cons_succ]))
            iterate 13 (refine SeqW.skip (by rfl) ?_; (try simp only [Act.put, List.setIfInBounds_toArray, List.set_cons_zero, List.set_cons_succ]))
            (refine SeqW.val (v := ?_) (by rfl) (by rfl) (fun wx hSw => ?_) ?_; rotate_left; (focus ((try dsimp only at hSw); go_simp; (try with_reducible rfl))); (try simp only [Act.put, List.setIfInBounds_toArray, List.set_cons_zero, List.set_cons_succ]))
            refine SeqW.nil ?_
            clear e0
            go_wp2
            go_roundw
            case rel => exact ⟨i + 1, cd, by omega, by go_num, rfl, CN, O, OD, KW⟩
            case measure => simp [intOf]; omega
          · rw [decide_eq_false hio] at e0
            cases cd with
            | none =>
              have CN := Lib.hid (CD.out.first hio)
              unfold nextV
              clear hio hil CD
              go_wp2_with fail
              refine wp_region_chain 20 [17] (fun w' => w'.cell? ⟨g2, i, none⟩ = some (.bool false)) (by kernel_rfl) (by kernel_rfl) ?_ ?_
              · exact e0
              refine SeqW.out ?_
              simp only [List.take_succ_cons, List.take_zero, List.drop_succ_cons, List.drop_zero]
              have kd := (Kept.refl Noneof wr).drew
              replace e0 := kd.cell (p := ⟨g2, i, none⟩) (fun h => h) e0
              replace O := Lib.hid (O.out.kept kd fun _ h => h.elim)
              replace OD := Lib.hid (OD.out.kept kd fun _ h => h.elim)
              replace KW := Lib.hid (KW.out.tr kd)
              generalize wr.drew = wd at *
              clear kd
              iterate 9 (refine SeqW.val (v := ?_) (by rfl) (by rfl) (fun wx hSw => ?_) ?_; rotate_left; (focus ((try dsimp only at hSw); go_simp; (try with_reducible rfl))); (try simp only [Act.put, List.setIfInBounds_toArray, List.set_cons_zero, List.set_cons_succ]))
              iterate 9 (refine SeqW.skip (by rfl) ?_; (try simp only [Act.put, List.setIfInBounds_toArray, List.set_cons_zero, List.set_cons_succ]))
              iterate 2 (refine SeqW.val (v := ?_) (by rfl) (by rfl) (fun wx hSw => ?_) ?_; rotate_left; (focus ((try dsimp only at hSw); go_simp; (try with_reducible rfl))); (try simp only [Act.put, List.setIfInBounds_toArray, List.set_cons_zero, List.set_cons_succ]))
              refine SeqW.nil ?_
              clear e0
              go_wp2
              go_roundw
              case rel => exact ⟨i + 1, some i, by omega, by go_num, rfl, CN, O, OD, KW⟩
              case measure => simp [intOf]; omega
            | some m =>
              have hmn : m < n := by have := CD.out.1; omega
              have TK := Lib.hid (fun h => CD.out.take SW.out hio h)
              have KP := Lib.hid (fun h => CD.out.keep h)
              have hiL : i < l.length := by rw [hn.out]; exact hli
              have hmL : m < l.length := by rw [hn.out]; exact hmn
              have BE := Lib.hid (show befN befI l i m = befI l[i] l[m] by unfold befN; simp [List.getD_eq_getElem?_getD, hiL, hmL])
              have hsv := HS.out.still' KW.out itemEl_k
              rw [hn.out] at hsv
              obtain ⟨_, _, hsl, _, _, rd⟩ := hsv
              simp only [Value.slice.injEq] at hsl
              obtain ⟨rfl, -, rfl⟩ := hsl
              obtain ⟨b, o1, vp, rfl, _, p0, p1, p2, hvp⟩ := Rd.item rd hiL
              obtain ⟨b', o', vq, e', _, q0, q1, q2, hvq⟩ := Rd.item rd hmL
              simp only [Option.some.injEq, Addr.mk.injEq, and_true] at e'
              obtain ⟨rfl, rfl⟩ := e'
              have HP := Lib.hid hvp
              have HQ := Lib.hid hvq
              generalize l[i] = xp at *
              generalize l[m] = xq at *
              unfold nextV
              have hmn' : (m : Int) < (n : Int) := by omega
              clear hio hil CD rd hvp hvq hiL hmL
              go_wp2_with fail
              refine wp_region_chain 20 [17] (fun w' => w'.cell? ⟨g2, i, none⟩ = some (.bool false) ∧ w'.cell? ⟨b, o1 + i * 3, none⟩ = some (.int .i64 xp.1) ∧ w'.cell? ⟨b, o1 + i * 3 + 1, none⟩ = some (.int .u64 xp.2.1) ∧ w'.cell? ⟨b, o1 + i * 3 + 2, none⟩ = some (vp) ∧ w'.cell? ⟨b, o1 + m * 3, none⟩ = some (.int .i64 xq.1) ∧ w'.cell? ⟨b, o1 + m * 3 + 1, none⟩ = some (.int .u64 xq.2.1) ∧ w'.cell? ⟨b, o1 + m * 3 + 2, none⟩ = some (vq)) (by kernel_rfl) (by kernel_rfl) ?_ ?_
              · exact ⟨e0, p0, p1, p2, q0, q1, q2⟩
              refine SeqW.out ?_
              simp only [List.take_succ_cons, List.take_zero, List.drop_succ_cons, List.drop_zero]
              have kd := (Kept.refl Noneof wr).drew
              replace e0 := kd.cell (p := ⟨g2, i, none⟩) (fun h => h) e0
              replace p0 := kd.cell (p := ⟨b, o1 + i * 3, none⟩) (fun h => h) p0
              replace p1 := kd.cell (p := ⟨b, o1 + i * 3 + 1, none⟩) (fun h => h) p1
              replace p2 := kd.cell (p := ⟨b, o1 + i * 3 + 2, none⟩) (fun h => h) p2
              replace q0 := kd.cell (p := ⟨b, o1 + m * 3, none⟩) (fun h => h) q0
              replace q1 := kd.cell (p := ⟨b, o1 + m * 3 + 1, none⟩) (fun h => h) q1
              replace q2 := kd.cell (p := ⟨b, o1 + m * 3 + 2, none⟩) (fun h => h) q2
              replace O := Lib.hid (O.out.kept kd fun _ h => h.elim)
              replace OD := Lib.hid (OD.out.kept kd fun _ h => h.elim)
              replace KW := Lib.hid (KW.out.tr kd)
              have KD := Lib.hid kd
              generalize wr.drew = wd at *
              clear kd
              iterate 17 (refine SeqW.val (v := ?_) (by rfl) (by rfl) (fun wx hSw => ?_) ?_; rotate_left; (focus ((try dsimp only at hSw); go_simp; (try with_reducible rfl))); (try simp only [Act.put, List.setIfInBounds_toArray, List.set_cons_zero, List.set_cons_succ]))
              refine SeqW.act (by rfl) rfl (by rfl) (by rfl) (fun K hK => ?_)
              go_simp
              refine (r1Before_calls (x := xp) (y := xq) (HP.out.still' (show Kept Noneof _ _ from KD.out)) (HQ.out.still' KD.out)).mono ?_
              rintro e we ⟨rfl, ke⟩
              replace e0 := ke.cell (p := ⟨g2, i, none⟩) (fun h => h) e0
              replace p0 := ke.cell (p := ⟨b, o1 + i * 3, none⟩) (fun h => h) p0
              replace p1 := ke.cell (p := ⟨b, o1 + i * 3 + 1, none⟩) (fun h => h) p1
              replace p2 := ke.cell (p := ⟨b, o1 + i * 3 + 2, none⟩) (fun h => h) p2
              replace q0 := ke.cell (p := ⟨b, o1 + m * 3, none⟩) (fun h => h) q0
              replace q1 := ke.cell (p := ⟨b, o1 + m * 3 + 1, none⟩) (fun h => h) q1
              replace q2 := ke.cell (p := ⟨b, o1 + m * 3 + 2, none⟩) (fun h => h) q2
              replace O := Lib.hid (O.out.kept ke fun _ h => h.elim)
              replace OD := Lib.hid (OD.out.kept ke fun _ h => h.elim)
              replace KW := Lib.hid (KW.out.tr ke)
              refine hK.out _ _ ⟨e0, p0, p1, p2, q0, q1, q2⟩ ?_
              clear K hK ke p0 p1 p2 q0 q1 q2
              (try simp only [Act.put, List.setIfInBounds_toArray, List.set_cons_zero, List.set_cons_succ])
              cases hb : befI xp xq
              · have CN := Lib.hid (KP.out (by rw [BE.out]; exact hb))
                clear hb
                iterate 2 (refine SeqW.val (v := ?_) (by rfl) (by rfl) (fun wx hSw => ?_) ?_; rotate_left; (focus ((try dsimp only at hSw); go_simp; (try with_reducible rfl))); (try simp only [Act.put, List.setIfInBounds_toArray, List.set_cons_zero, List.set_cons_succ]))
                refine SeqW.nil ?_
                clear e0
                go_wp2
                go_roundw
                case rel => exact ⟨i + 1, some m, by omega, by go_num, rfl, CN, O, OD, KW⟩
                case measure => simp [intOf]; omega
              · have CN := Lib.hid (TK.out (by rw [BE.out]; exact hb))
                clear hb
                iterate 2 (refine SeqW.val (v := ?_) (by rfl) (by rfl) (fun wx hSw => ?_) ?_; rotate_left; (focus ((try dsimp only at hSw); go_simp; (try with_reducible rfl))); (try simp only [Act.put, List.setIfInBounds_toArray, List.set_cons_zero, List.set_cons_succ]))
                refine SeqW.nil ?_
                clear e0
                go_wp2
                go_roundw
                case rel => exact ⟨i + 1, some i, by omega, by go_num, rfl, CN, O, OD, KW⟩
                case measure => simp [intOf]; omega
        · obtain rfl : n = i := by omega
          cases cd with
          | none =>
            obtain ⟨j, hj, hjn⟩ := LFT.out
            exact absurd (CD.out j hj) hjn
          | some m =>
            obtain ⟨hmn, hmo, hbest⟩ := CD.out
            have SN := Lib.hid (HO.out.2.next hmn hmo hbest)
            have hmL : m < l.length := by rw [hn.out]; exact hmn
            have hsv := HS.out.still' KW.out itemEl_k
            rw [hn.out] at hsv
            obtain ⟨_, _, hsl, _, _, rd⟩ := hsv
            simp only [Value.slice.injEq] at hsl
            obtain ⟨rfl, -, rfl⟩ := hsl
            obtain ⟨b, o1, vq, rfl, _, q0, _, _, _⟩ := Rd.item rd hmL
            have HM := Lib.hid (show homeN cells l[m].1 = home m by rw [hhome.out]; simp [List.getD_eq_getElem?_getD, hmL])
            have HL := HH.out m
            have LSM := Lib.hid (LS.out m)
            have DS := Lib.hid (doneL_set (o := o) (N := n) (m := m))
            have ML := Lib.hid (show m < (doneL o n).length by rw [doneL_len]; exact hmn)
            generalize l[m] = xm at *
            generalize home m = hh at *
            unfold nextV
            have hmn' : (m : Int) < (n : Int) := by omega
            clear hmo hbest rd CD LS LFT hmL hli hin
            go_wp2_with fail
            refine (r1mod_calls h1 h2).mono ?_
            rintro e wr ⟨rfl, rfl⟩
            rw [HM.out]
            clear q0
            go_wp2_with fail
            obtain ⟨wx, hwx⟩ : ∃ wx, wx = wr := ⟨_, rfl⟩
            rw [← hwx] at O OD KW ⊢
            clear hwx
            go_loopw [11] (fun cv wy => ∃ c j : Nat, cv = .int .i64 c ∧ wy = wx ∧ Hid (c = stepC cells hh j ∧ Way out cells hh j)) (fun cv _ => cells - ((intOf cv).toNat + cells - hh) % cells)
            case atStart => exact ⟨hh, 0, rfl, rfl, Lib.hid ⟨(stepC_zero HL).symm, Way.start HL⟩⟩
            case round =>
              obtain ⟨c1, j, rfl, rfl, W⟩ := hrel
              have hc1 : c1 < cells := by rw [W.out.1]; exact stepC_lt h1
              have hlo : c1 < out.length := by rw [LEN.out]; exact hc1
              obtain ⟨e0, e1, _, _⟩ := O.out.islot hlo
              have hc1' : (c1 : Int) < (cells : Int) := by omega
              cases hfu : fullC out c1
              · have LS1 := Lib.hid (show out.set c1 (m : Int) = layF cells home (o ++ [m]) by
                  rw [LSM.out]
                  unfold lay1
                  rw [W.out.2.stop HL (by rw [← W.out.1]; exact hfu), ← W.out.1])
                have OP := Lib.hid (by have := O.out.iput hlo (m : Int); rwa [LS1.out] at this)
                rw [fullC_of hlo] at hfu
                generalize out[c1] = z at *
                have hz : ¬ 0 ≤ z := by simpa using hfu
                have ne := GG.out.1
                have hml := ML.out
                obtain ⟨d0, d1, _, _⟩ := OD.out.bslot hml
                generalize (doneL o n)[m] = dz at *
                clear hfu W FR LS1 hml
                have kT := (Kept.refl (fun b => b = g) wr).setCell (p := ⟨g, c1, none⟩) (.inl rfl) (.int .i64 (m : Int))
                have d0' := kT.cell (p := ⟨g2, m, none⟩) (fun e => ne e.symm) d0
                have OD2 := (OD.out.kept kT fun b e _ => ⟨fun h => h, fun h => ne (by have h2 : g2 = b := (by simpa [Value.ownBlock] using h); have e : b = g := e; omega)⟩)
                have d1' := (OD2.bslot ML.out).2.1
                have OD3 := OD2.bput ML.out true
                rw [DS.out] at OD3
                have kU := (Kept.refl (fun b => b = g2) (wr.setCell ⟨g, c1, none⟩ (.int .i64 (m : Int)))).setCell (p := ⟨g2, m, none⟩) (.inl rfl) (.bool true)
                have OP2 := OP.out.kept kU fun b e _ => ⟨fun h => h, fun h => ne (by have h2 : g = b := (by simpa [Value.ownBlock] using h); have e : b = g2 := e; omega)⟩
                have KZ := (KW.out.trans kT fun b e => .inr (by have := hB.out; have := HG.out; omega)).trans kU fun b e => .inr (by have := hB.out; have := GG.out.2; omega)
                have OP2 := Lib.hid OP2
                have OD3 := Lib.hid OD3
                have KZ := Lib.hid KZ
                have HO2 := Lib.hid (show (o ++ [m]).length = k + 1 ∧ Sel (befN befI l) n (o ++ [m]) from ⟨by have := HO.out.1; simp; omega, SN.out⟩)
                clear kT kU OD2 OP O OD KW
                go_wp2_with fail
                generalize (wr.setCell ⟨g, c1, none⟩ (.int .i64 (m : Int))).setCell ⟨g2, m, none⟩ (.bool true) = wz at *
                clear e0 e1 d0 d1 d0' d1'
                go_wp2
                go_roundw
                case rel => exact ⟨k + 1, o ++ [m], by omega, by go_num, HO2, OP2, OD3, KZ⟩
                case measure => simp [intOf]; omega
              · have NX := Lib.hid (show (c1 + 1) % cells = stepC cells hh (j + 1) ∧ Way out cells hh (j + 1) from ⟨by rw [W.out.1, stepC_succ], W.out.2.next HL FR.out (by rw [← W.out.1]; exact hfu)⟩)
                have MS := Lib.hid (show cells - ((c1 + 1) % cells + cells - hh) % cells < cells - (c1 + cells - hh) % cells by
                  rw [NX.out.1, stepC_back HL NX.out.2.1, W.out.1, stepC_back HL W.out.2.1]
                  have := NX.out.2.1
                  omega)
                rw [fullC_of hlo] at hfu
                generalize out[c1] = z at *
                have hz : 0 ≤ z := by simpa using hfu
                clear hfu W FR
                go_wp2_with fail
                refine (r1mod_calls h1 h2).mono ?_
                rintro e wr ⟨rfl, rfl⟩
                rw [homeN_nat]
                go_wp2
                go_roundw
                case rel => exact ⟨(c1 + 1) % cells, j + 1, rfl, by first | rfl | trivial, NX⟩
                case measure => have := MS.out; simp only [intOf, Int.toNat_natCast]; exact this
    · obtain rfl : n = k := by omega
      go_wp2
      go_ret
      exact ⟨g, o, rfl, HO.out.2.full HO.out.1, O.out, KW.out⟩
end Go.Proofs.Ytaopjdjbpamhhaa
/- Proved: contracts of the law functions same and lay of chapter 01, and of the reference's Lay where it returns nothing. Conditions: rows in memory. -/
namespace Go.Proofs.Ytaopjdjbpamhhaa
open Go Go.RowKit
set_option linter.unusedVariables false
set_option linter.unusedSimpArgs false
theorem IV.nil (D : Nat → Prop) (w : World) : IV D w (.slice none 0 0) [] := ⟨none, 0, rfl, ⟨by simp, fun _ => rfl⟩, by simp, Rd.nil _ _ _ _⟩
/-- The cells of items, as the definition lays them. -/
def layI (cells : Nat) (l : List ItemK) (ord : List Nat) : List Int := layF cells (fun i => homeN cells ((l.getD i default).1)) ord
end Go.Proofs.Ytaopjdjbpamhhaa
/- Proved: plain: what a layout is, whoever makes it; numbers as items. Conditions: as stated. -/
namespace Go.Proofs.Ytaopjdjbpamhhaa
open Go Go.RowKit
set_option linter.unusedVariables false
set_option linter.unusedSimpArgs false
/-- What a layout of items is. -/
def LayIs (cells : Int) (l : List ItemK) (L : List Int) : Prop :=
  ((cells < 1 ∨ 1048576 < cells ∨ cells < (l.length : Int)) ∧ L = []) ∨ (1 ≤ cells ∧ cells ≤ 1048576 ∧ (l.length : Int) ≤ cells ∧ ∃ ord, Ordd (befN befI l) l.length ord ∧ L = layI cells.toNat l ord)
theorem LayIs.uniq {cells : Int} {l : List ItemK} {L M : List Int} (h : LayIs cells l L) (k : LayIs cells l M) : L = M := by
  rcases h with ⟨h, rfl⟩ | ⟨h1, h2, h3, o, ho, rfl⟩ <;> rcases k with ⟨k, rfl⟩ | ⟨k1, k2, k3, o', ko, rfl⟩
  · rfl
  · omega
  · omega
  · rw [ho.uniq (befN_swo befI_swo l) ko]
theorem layF_congr {cells : Nat} {home home' : Nat → Nat} : ∀ {l : List Nat} {out : List Int}, (∀ i ∈ l, home i = home' i) → l.foldl (fun out i => lay1 cells out (home i) i) out = l.foldl (fun out i => lay1 cells out (home' i) i) out
  | [], _, _ => rfl
  | i :: l, out, h => by
    rw [List.foldl_cons, List.foldl_cons, h i (by simp)]
    exact layF_congr fun j hj => h j (by simp [hj])
theorem Ordd.congr {bef bef' : Nat → Nat → Bool} {n : Nat} {o : List Nat} (h : Ordd bef n o) (e : ∀ i j, i < n → j < n → bef' i j = bef i j) : Ordd bef' n o := by
  refine ⟨h.perm, h.srt.imp_of_mem fun {a b} ha hb hab => ?_⟩
  have ha := h.mem.1 ha
  have hb := h.mem.1 hb
  unfold Befs at *
  rw [e a b ha hb, e b a hb ha]
  exact hab
end Go.Proofs.Ytaopjdjbpamhhaa
