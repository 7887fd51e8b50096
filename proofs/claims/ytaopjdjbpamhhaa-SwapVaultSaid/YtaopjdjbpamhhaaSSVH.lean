/- Proved: texts of the families over slots, order and swap, joined, as far as the claim needs them. Conditions: as each theorem says. -/
import Derived.Test.YtaopjdjbpamhhaaSSVF
/- Proved: contracts of the standard library's stable sort on rows of places: swapRange, insertion, rotation, SymMerge. Conditions: rows in memory. -/
namespace Go.Proofs.Ytaopjdjbpamhhaa
open Go Go.RowKit
set_option linter.unusedVariables false
set_option linter.unusedSimpArgs false
/-- A place whose number is one of n. -/
def okPl (n : Nat) (x : Int × Int) : Prop := ∃ k : Nat, k < n ∧ x.1 = (k : Int)
/-- A row of places, as a function; each number is one of n. -/
def PlRow (w : World) (g n : Nat) (f : Nat → Int × Int) : Prop := (∃ cur, w.heap[g]? = some (.cells cur 152) ∧ 2 * n ≤ cur.size ∧ ∀ i, i < n → cur[i * 2]? = some (.int .i64 (f i).1) ∧ cur[i * 2 + 1]? = some (.int .i64 (f i).2)) ∧ ∀ i, i < n → okPl n (f i)
theorem PlRow.ok {w : World} {g n i : Nat} {f : Nat → Int × Int} (h : PlRow w g n f) (hi : i < n) : okPl n (f i) := h.2 i hi
theorem PlRow.cell {w : World} {g n i : Nat} {f : Nat → Int × Int} (h : PlRow w g n f) (hi : i < n) : w.cell? ⟨g, i * 2, none⟩ = some (.int .i64 (f i).1) ∧ w.cell? ⟨g, i * 2 + 1, none⟩ = some (.int .i64 (f i).2) ∧ w.frozen? ⟨g, i * 2, none⟩ = false ∧ w.frozen? ⟨g, i * 2 + 1, none⟩ = false := by
  obtain ⟨⟨cur, h1, h2, h3⟩, _⟩ := h
  obtain ⟨h4, h5⟩ := h3 i hi
  simp [World.cell?, World.frozen?, h1, h4, h5]
theorem PlRow.lt {w : World} {g n : Nat} {f : Nat → Int × Int} (h : PlRow w g n f) : g < w.heap.size := by
  obtain ⟨⟨cur, h1, _⟩, _⟩ := h
  exact block_lt h1
theorem PlRow.kept {w w' : World} {g n : Nat} {f : Nat → Int × Int} {X : Nat → Prop} (h : PlRow w g n f) (k : Kept X w w') (hX : ¬ X g) : PlRow w' g n f := by
  obtain ⟨⟨cur, h1, h2, h3⟩, h4⟩ := h
  exact ⟨⟨cur, k.obj hX h1, h2, h3⟩, h4⟩
theorem PlRow.store {w : World} {g n i : Nat} {f : Nat → Int × Int} (h : PlRow w g n f) (hi : i < n) (x : Int × Int) (hx : okPl n x) :
    PlRow ((w.setCell ⟨g, i * 2, none⟩ (.int .i64 x.1)).setCell ⟨g, i * 2 + 1, none⟩ (.int .i64 x.2)) g n (fun k => if k = i then x else f k) := by
  obtain ⟨⟨cur, h1, h2, h3⟩, hok⟩ := h
  refine ⟨⟨(cur.setIfInBounds (i * 2) (.int .i64 x.1)).setIfInBounds (i * 2 + 1) (.int .i64 x.2), setCell_obj (setCell_obj h1 _) _, by simpa using h2, fun k hk => ?_⟩, fun k hk => by simp only; split <;> first | exact hx | exact hok k hk⟩
  by_cases e : k = i
  · subst e
    simp only [if_true]
    constructor
    · rw [Array.getElem?_setIfInBounds_ne (by omega), Array.getElem?_setIfInBounds_self, if_pos (by omega)]
    · rw [Array.getElem?_setIfInBounds_self, if_pos (by simp; omega)]
  · simp only [if_neg e]
    rw [Array.getElem?_setIfInBounds_ne (by omega), Array.getElem?_setIfInBounds_ne (by omega), Array.getElem?_setIfInBounds_ne (by omega), Array.getElem?_setIfInBounds_ne (by omega)]
    exact h3 k hk
theorem PlRow.congr {w : World} {g n : Nat} {f f' : Nat → Int × Int} (h : PlRow w g n f) (e : ∀ k, k < n → f' k = f k) : PlRow w g n f' := by
  obtain ⟨⟨cur, h1, h2, h3⟩, h4⟩ := h
  exact ⟨⟨cur, h1, h2, fun i hi => by rw [e i hi]; exact h3 i hi⟩, fun i hi => by rw [e i hi]; exact h4 i hi⟩
theorem PlRow.swap {w : World} {g n i j : Nat} {f : Nat → Int × Int} (h : PlRow w g n f) (hi : i < n) (hj : j < n) (hij : i ≠ j) :
    PlRow ((((w.setCell ⟨g, i * 2, none⟩ (.int .i64 (f j).1)).setCell ⟨g, i * 2 + 1, none⟩ (.int .i64 (f j).2)).setCell ⟨g, j * 2, none⟩ (.int .i64 (f i).1)).setCell ⟨g, j * 2 + 1, none⟩ (.int .i64 (f i).2)) g n (swp f i j) := by
  refine ((h.store hi (f j) (h.ok hj)).store hj (f i) (h.ok hi)).congr fun k _ => ?_
  unfold swp
  by_cases h1 : k = i
  · rw [if_pos h1, if_neg (by omega), if_pos h1]
  · rw [if_neg h1]
    by_cases h2 : k = j
    · rw [if_pos h2, if_pos h2]
    · rw [if_neg h2, if_neg h2, if_neg h1]

set_option maxRecDepth 100000 in
set_option maxHeartbeats 2000000 in
theorem swapRange_calls {w : World} {g c N a b n : Nat} {f : Nat → Int × Int} {v : Value} (h : PlRow w g N f) (hab : a + n ≤ b) (hb : b + n ≤ N) (hN : N ≤ 1000000000) :
    Calls Try.prog 208 #[.slice (some ⟨g, 0, none⟩) N c, .int .i64 a, .int .i64 b, .int .i64 n, v] w fun e w' => e = .returned (.tuple #[]) ∧ PlRow w' g N (swr f a b n) ∧ Kept (fun k => k = g) w w' := by
  have H := Lib.hid h
  clear h
  go_enter Try.func208, Try.ntmps208
  go_wp2
  go_loopw [10] (fun i wr => ∃ k : Nat, k ≤ n ∧ i = .int .i64 k ∧ Hid (PlRow wr g N (swr f a b k)) ∧ Hid (Kept (fun k => k = g) w wr)) (fun i _ => n - (intOf i).toNat)
  case atStart => exact ⟨0, Nat.zero_le _, rfl, Lib.hid (by rw [swr_zero]; exact H.out), Lib.hid (Kept.refl _ _)⟩
  case round =>
    obtain ⟨k, hk, rfl, hr, kw⟩ := hrel
    by_cases hlt : k < n
    · have ka : a + k < N := by omega
      have kb : b + k < N := by omega
      have hd := hr.out.kept (Kept.refl Noneof wr).drew (fun h => h)
      have KD := Lib.hid (kw.out.drew)
      obtain ⟨a0, a1, a2, a3⟩ := hd.cell ka
      obtain ⟨b0, b1, b2, b3⟩ := hd.cell kb
      have SS := hd.swap ka kb (by omega)
      rw [swr_succ f (by omega)] at SS
      replace SS := Lib.hid SS
      generalize swr f a b k (a + k) = xa at *
      generalize swr f a b k (b + k) = xb at *
      obtain ⟨xa0, xa1⟩ := xa
      obtain ⟨xb0, xb1⟩ := xb
      simp only at a0 a1 b0 b1 SS
      have wa : IntKind.i64.wrap ((a : Int) + (k : Int)) = ((a + k : Nat) : Int) := IntWalk.i64_in _ ⟨by omega, by omega⟩
      have wb : IntKind.i64.wrap ((b : Int) + (k : Int)) = ((b + k : Nat) : Int) := IntWalk.i64_in _ ⟨by omega, by omega⟩
      have hab' : a + k < b + k := by omega
      generalize a + k = A at *
      generalize b + k = B at *
      have ia : (A : Int) < (N : Int) := by omega
      have ib : (B : Int) < (N : Int) := by omega
      have n1 : ¬ A * 2 = B * 2 := by omega
      have n2 : ¬ B * 2 = A * 2 + 1 := by omega
      have n3 : ¬ B * 2 + 1 = A * 2 := by omega
      clear hr kw hd
      go_wp2_with fail
      refine wp_region_chainE 24 [21, 23] [13, 19] (fun _ => True) (by kernel_rfl) (by kernel_rfl) ?_ ?_
      · trivial
      refine SeqV.out ?_
      simp only [List.take_succ_cons, List.take_zero, List.drop_succ_cons, List.drop_zero]
      generalize wr.drew = wd at *
      iterate 13 (refine SeqV.val (v := ?_) (by rfl) (by rfl) (fun wx hSw => ?_) ?_; rotate_left; (focus ((try dsimp only at hSw); go_simp; (try with_reducible rfl))); (try simp only [Act.put, List.setIfInBounds_toArray, List.set_cons_zero, List.set_cons_succ]))
      (refine SeqV.load (v := ?_) (by rfl) (by rfl) (by rfl) ?_ ?_; rotate_left; (focus (go_simp; (try with_reducible rfl))); (try simp only [Act.put, List.setIfInBounds_toArray, List.set_cons_zero, List.set_cons_succ]))
      iterate 5 (refine SeqV.val (v := ?_) (by rfl) (by rfl) (fun wx hSw => ?_) ?_; rotate_left; (focus ((try dsimp only at hSw); go_simp; (try with_reducible rfl))); (try simp only [Act.put, List.setIfInBounds_toArray, List.set_cons_zero, List.set_cons_succ]))
      (refine SeqV.load (v := ?_) (by rfl) (by rfl) (by rfl) ?_ ?_; rotate_left; (focus (go_simp; (try with_reducible rfl))); (try simp only [Act.put, List.setIfInBounds_toArray, List.set_cons_zero, List.set_cons_succ]))
      (refine SeqV.val (v := ?_) (by rfl) (by rfl) (fun wx hSw => ?_) ?_; rotate_left; (focus ((try dsimp only at hSw); go_simp; (try with_reducible rfl))); (try simp only [Act.put, List.setIfInBounds_toArray, List.set_cons_zero, List.set_cons_succ]))
      refine SeqV.act0 (by rfl) rfl (by rfl) (fun K hK => ?_)
      go_simp
      refine hK.out _ trivial ?_
      clear K hK
      (try simp only [Act.put, List.setIfInBounds_toArray, List.set_cons_zero, List.set_cons_succ])
      (refine SeqV.val (v := ?_) (by rfl) (by rfl) (fun wx hSw => ?_) ?_; rotate_left; (focus ((try dsimp only at hSw); go_simp; (try with_reducible rfl))); (try simp only [Act.put, List.setIfInBounds_toArray, List.set_cons_zero, List.set_cons_succ]))
      refine SeqV.act0 (by rfl) rfl (by rfl) (fun K hK => ?_)
      go_simp
      refine hK.out _ trivial ?_
      clear K hK
      (try simp only [Act.put, List.setIfInBounds_toArray, List.set_cons_zero, List.set_cons_succ])
      refine SeqV.nil ?_
      have KT := Lib.hid (((((Kept.refl (fun k => k = g) wd).setCell (p := ⟨g, A * 2, none⟩) (.inl rfl) (.int .i64 xb0)).setCell (p := ⟨g, A * 2 + 1, none⟩) (.inl rfl) (.int .i64 xb1)).setCell (p := ⟨g, B * 2, none⟩) (.inl rfl) (.int .i64 xa0)).setCell (p := ⟨g, B * 2 + 1, none⟩) (.inl rfl) (.int .i64 xa1))
      generalize ((((wd.setCell _ _).setCell _ _).setCell _ _).setCell _ _) = wz at *
      have KW := Lib.hid (KD.out.tr KT.out)
      clear a0 a1 a2 a3 b0 b1 b2 b3 KT
      go_wp2
      go_roundw
      case rel => exact ⟨k + 1, by omega, by go_num, SS, KW⟩
      case measure => simp [intOf]; omega
    · obtain rfl : k = n := by omega
      go_wp2
      go_end0
      exact ⟨rfl, hr.out, kw.out⟩
end Go.Proofs.Ytaopjdjbpamhhaa
/- Proved: contract of the standard library's insertion sort (with a comparison function) on rows of places. Conditions: rows in memory; the comparison answers as a plain function, and leaves the row. -/
namespace Go.Proofs.Ytaopjdjbpamhhaa
open Go Go.RowKit
set_option linter.unusedVariables false
set_option linter.unusedSimpArgs false
def plC (x : Int × Int) : Value := .agg #[.int .i64 x.1, .int .i64 x.2]
def plN (x : Int × Int) : Nat := x.1.toNat
def ltC (cf : Int × Int → Int × Int → Int) (x y : Int × Int) : Bool := decide (cf x y < 0)
/-- A comparison of places: what it answers, what it may change (X), what must hold (I). -/
structure CmpOk (fid : Nat) (cb : Array Value) (g N : Nat) (cf : Int × Int → Int × Int → Int) (I : World → Prop) (X : Nat → Prop) : Prop where
  enter : ∀ args w, (callFunc fid args).run Try.prog w = .ok (.enter fid args) w
  cmp : ∀ w x y, I w → okPl N x → okPl N y → Calls Try.prog fid (#[plC x, plC y] ++ cb) w fun e w' => e = .returned (.int .i64 (cf x y)) ∧ I w' ∧ Kept X w w'
  row : ¬ X g
  stay : ∀ w w', I w → Kept (fun k => k = g) w w' → I w'
  swo : Swo (ltC cf)
def OrX (g : Nat) (X : Nat → Prop) : Nat → Prop := fun k => k = g ∨ X k
theorem Kept.orx {g : Nat} {X : Nat → Prop} {a b c : World} (h : Kept (OrX g X) a b) (k : Kept X b c) : Kept (OrX g X) a c := h.trans k fun b h => .inl (.inr h)
theorem Kept.org {g : Nat} {X : Nat → Prop} {a b c : World} (h : Kept (OrX g X) a b) (k : Kept (fun k => k = g) b c) : Kept (OrX g X) a c := h.trans k fun b h => .inl (.inl h)
theorem CmpOk.drew {fid : Nat} {cb : Array Value} {g N : Nat} {cf : Int × Int → Int × Int → Int} {I : World → Prop} {X : Nat → Prop} (C : CmpOk fid cb g N cf I X) {w : World} (h : I w) : I w.drew := C.stay w _ h (Kept.refl _ w).drew

set_option maxRecDepth 100000 in
set_option maxHeartbeats 4000000 in
theorem ins_calls {w : World} {g c N a b fid : Nat} {cb : Array Value} {f : Nat → Int × Int} {cf : Int × Int → Int × Int → Int} {I : World → Prop} {X : Nat → Prop} (C : CmpOk fid cb g N cf I X) (h : PlRow w g N f) (hI : I w) (hb : b ≤ N) (ha : a ≤ N) (hN : N ≤ 1000000000)
    (hn : ∀ p q, a ≤ p → p < q → q < b → plN (f p) < plN (f q)) :
    Calls Try.prog 179 #[.slice (some ⟨g, 0, none⟩) N c, .int .i64 a, .int .i64 b, .func (.func fid) #[] cb] w fun e w' => e = .returned (.tuple #[]) ∧ ∃ f', PlRow w' g N f' ∧ Sw a b f f' ∧ Srt' (ltC cf) plN f' a b ∧ I w' ∧ Kept (OrX g X) w w' := by
  have H := Lib.hid h
  have HI := Lib.hid hI
  have CC := Lib.hid C
  have HN := Lib.hid hn
  have eg := C.enter
  clear h hI C hn
  go_enter Try.func179, Try.ntmps179
  go_wp2
  go_loopw [8] (fun i wr => ∃ (k : Nat) (f1 : Nat → Int × Int), a + 1 ≤ k ∧ (k ≤ b ∨ k = a + 1) ∧ i = .int .i64 k ∧ Hid (PlRow wr g N f1) ∧ Hid (Sw a k f f1) ∧ Hid (Srt' (ltC cf) plN f1 a k) ∧ Hid (I wr) ∧ Hid (Kept (OrX g X) w wr)) (fun i _ => b - (intOf i).toNat)
  case atStart => exact ⟨a + 1, f, Nat.le_refl _, .inr rfl, by go_num, H, Lib.hid .refl, Lib.hid (Srt'.one (Nat.le_refl _)), HI, Lib.hid (Kept.refl _ _)⟩
  case round =>
    obtain ⟨k, f1, hak, hkb, rfl, hr, hsw, hso, hi, kw⟩ := hrel
    by_cases hlt : k < b
    · have IA := Lib.hid (InsAt.start (lt := ltC cf) (ix := plN) (f := f1) (a := a) (i := k) (by omega) hso.out fun p h1 h2 => by
        obtain ⟨q, q1, q2, e⟩ := hsw.out.mem p h1 h2
        rw [e, hsw.out.out k (by omega)]
        exact HN.out q k q1 q2 hlt)
      go_wp2
      go_loopw [9] (fun i wx => ∃ (j : Nat) (f2 : Nat → Int × Int), i = .int .i64 j ∧ Hid (PlRow wx g N f2) ∧ Hid (InsAt (ltC cf) plN f1 a k j f2) ∧ Hid (I wx) ∧ Hid (Kept (OrX g X) w wx)) (fun i _ => (intOf i).toNat)
      case atStart => exact ⟨k, f1, rfl, hr, IA, hi, kw⟩
      case round =>
        clear hr hi kw IA
        obtain ⟨j, f2, rfl, hr, IA, hi, kw⟩ := hrel
        have aj := IA.out.aj
        have jk := IA.out.ji
        by_cases hja : a < j
        · obtain ⟨q, rfl⟩ : ∃ q, j = q + 1 := ⟨j - 1, by omega⟩
          have hjN : q + 1 < N := by omega
          have hqN : q < N := by omega
          have OA := Lib.hid (hr.out.ok hjN)
          have OB := Lib.hid (hr.out.ok hqN)
          obtain ⟨a0, a1, _, _⟩ := hr.out.cell hjN
          obtain ⟨b0, b1, _, _⟩ := hr.out.cell hqN
          have wa : IntKind.i64.wrap (((q + 1 : Nat) : Int) - 1) = (q : Int) := by rw [show ((q + 1 : Nat) : Int) - 1 = (q : Int) by omega]; exact IntWalk.i64_in _ ⟨by omega, by omega⟩
          have NX := Lib.hid (show ltC cf (f2 (q + 1)) (f2 q) = true → InsAt (ltC cf) plN f1 a k q (swp f2 (q + 1) q) from fun h => by
            have := IA.out.next CC.out.swo hja (by simpa using h)
            simpa using this)
          have DN := Lib.hid (show ltC cf (f2 (q + 1)) (f2 q) = false → Srt' (ltC cf) plN f2 a (k + 1) from fun h => IA.out.done CC.out.swo fun _ => by simpa using h)
          have SW := Lib.hid IA.out.sw
          have ST := Lib.hid (fun (wz : World) (h : PlRow wz g N f2) => h.swap hjN hqN (by omega))
          have hr0 := hr.out
          have hlt' : (a : Int) < ((q + 1 : Nat) : Int) := by omega
          have ia : ((q + 1 : Nat) : Int) < (N : Int) := by omega
          have ib : (q : Int) < (N : Int) := by omega
          have pa : (0 : Int) ≤ ((q + 1 : Nat) : Int) := by omega
          have ta : ((q + 1 : Nat) : Int).toNat = q + 1 := by omega
          clear IA aj jk hja
          generalize hA : q + 1 = A at *
          generalize f2 A = xa at *
          generalize f2 q = xb at *
          go_wp2_with fail
          refine wp_region_chain 17 [14] (fun w' => w'.cell? ⟨g, A * 2, none⟩ = some (.int .i64 xa.1) ∧ w'.cell? ⟨g, A * 2 + 1, none⟩ = some (.int .i64 xa.2) ∧ w'.cell? ⟨g, q * 2, none⟩ = some (.int .i64 xb.1) ∧ w'.cell? ⟨g, q * 2 + 1, none⟩ = some (.int .i64 xb.2)) (by kernel_rfl) (by kernel_rfl) ?_ ?_
          · exact ⟨a0, a1, b0, b1⟩
          refine SeqW.out ?_
          simp only [List.take_succ_cons, List.take_zero, List.drop_succ_cons, List.drop_zero]
          have kd := (Kept.refl Noneof wr).drew
          replace hr := Lib.hid (hr.out.kept kd fun h => h)
          replace hi := Lib.hid (CC.out.drew hi.out)
          replace kw := Lib.hid (kw.out.drew)
          replace a0 := kd.cell (fun h => h) a0
          replace a1 := kd.cell (fun h => h) a1
          replace b0 := kd.cell (fun h => h) b0
          replace b1 := kd.cell (fun h => h) b1
          generalize wr.drew = wd at *
          clear kd hr0
          iterate 14 (refine SeqW.val (v := ?_) (by rfl) (by rfl) (fun wx hSw => ?_) ?_; rotate_left; (focus ((try dsimp only at hSw); go_simp; (try with_reducible rfl))); (try simp only [Act.put, List.setIfInBounds_toArray, List.set_cons_zero, List.set_cons_succ]))
          refine SeqW.act (by rfl) rfl (by rfl) (by rfl) (fun K hK => ?_)
          go_simp
          refine (CC.out.cmp wd xa xb hi.out OA.out OB.out).mono ?_
          rintro e we ⟨rfl, hie, ke⟩
          have hrw := CC.out.row
          refine hK.out _ _ ⟨ke.cell hrw a0, ke.cell hrw a1, ke.cell hrw b0, ke.cell hrw b1⟩ ?_
          replace hr := Lib.hid (hr.out.kept ke hrw)
          replace hi := Lib.hid hie
          replace kw := Lib.hid (kw.out.orx ke)
          replace a0 := ke.cell (p := ⟨g, A * 2, none⟩) hrw a0
          replace a1 := ke.cell (p := ⟨g, A * 2 + 1, none⟩) hrw a1
          replace b0 := ke.cell (p := ⟨g, q * 2, none⟩) hrw b0
          replace b1 := ke.cell (p := ⟨g, q * 2 + 1, none⟩) hrw b1
          clear K hK ke hie hrw
          (try simp only [Act.put, List.setIfInBounds_toArray, List.set_cons_zero, List.set_cons_succ])
          cases hz : decide (cf xa xb < 0)
          · have DZ := Lib.hid (DN.out hz)
            generalize cf xa xb = z at *
            (refine SeqW.val (v := ?_) (by rfl) (by rfl) (fun wx hSw => ?_) ?_; rotate_left; (focus ((try dsimp only at hSw); go_simp; (try with_reducible rfl))); (try simp only [Act.put, List.setIfInBounds_toArray, List.set_cons_zero, List.set_cons_succ]))
            (refine SeqW.val (v := ?_) (by rfl) (by rfl) (fun wx hSw => ?_) ?_; rotate_left; (focus ((try dsimp only at hSw); go_simp; (try with_reducible rfl))); (try simp only [Act.put, List.setIfInBounds_toArray, List.set_cons_zero, List.set_cons_succ]))
            refine SeqW.nil ?_
            clear a0 a1 b0 b1 NX DN ST
            have SWK := Lib.hid ((hsw.out.mono (Nat.le_refl _) (Nat.le_succ k)).trans SW.out)
            go_wp2
            go_roundw
            case rel => exact ⟨k + 1, f2, by omega, .inl (by omega), by go_num, hr, SWK, DZ, hi, kw⟩
            case measure => simp [intOf]; omega
          · have NZ := Lib.hid (NX.out hz)
            have SZ := Lib.hid ((ST.out we.drew (hr.out.kept (Kept.refl Noneof we).drew fun h => h)))
            have fz := (hr.out.kept (Kept.refl Noneof we).drew fun h => h).cell hjN |>.2.2
            have fy := (hr.out.kept (Kept.refl Noneof we).drew fun h => h).cell hqN |>.2.2
            obtain ⟨f0, f1'⟩ := fz
            obtain ⟨f2', f3⟩ := fy
            generalize cf xa xb = z at *
            (refine SeqW.val (v := ?_) (by rfl) (by rfl) (fun wx hSw => ?_) ?_; rotate_left; (focus ((try dsimp only at hSw); go_simp; (try with_reducible rfl))); (try simp only [Act.put, List.setIfInBounds_toArray, List.set_cons_zero, List.set_cons_succ]))
            (refine SeqW.val (v := ?_) (by rfl) (by rfl) (fun wx hSw => ?_) ?_; rotate_left; (focus ((try dsimp only at hSw); go_simp; (try with_reducible rfl))); (try simp only [Act.put, List.setIfInBounds_toArray, List.set_cons_zero, List.set_cons_succ]))
            refine SeqW.nil ?_
            have n1 : ¬ A * 2 = q * 2 := by omega
            have n2 : ¬ q * 2 = A * 2 + 1 := by omega
            have n3 : ¬ q * 2 + 1 = A * 2 := by omega
            clear NX DN ST
            go_wp2_with fail
            refine wp_region_chainE 18 [15, 17] [9, 13] (fun _ => True) (by kernel_rfl) (by kernel_rfl) ?_ ?_
            · trivial
            refine SeqV.out ?_
            simp only [List.take_succ_cons, List.take_zero, List.drop_succ_cons, List.drop_zero]
            have kd := (Kept.refl Noneof we).drew
            replace kw := Lib.hid (kw.out.drew)
            replace hi := Lib.hid (CC.out.drew hi.out)
            replace a0 := kd.cell (fun h => h) a0
            replace a1 := kd.cell (fun h => h) a1
            replace b0 := kd.cell (fun h => h) b0
            replace b1 := kd.cell (fun h => h) b1
            generalize we.drew = wf at *
            clear kd hr
            iterate 9 (refine SeqV.val (v := ?_) (by rfl) (by rfl) (fun wx hSw => ?_) ?_; rotate_left; (focus ((try dsimp only at hSw); go_simp; (try with_reducible rfl))); (try simp only [Act.put, List.setIfInBounds_toArray, List.set_cons_zero, List.set_cons_succ]))
            (refine SeqV.load (v := ?_) (by rfl) (by rfl) (by rfl) ?_ ?_; rotate_left; (focus (go_simp; (try with_reducible rfl))); (try simp only [Act.put, List.setIfInBounds_toArray, List.set_cons_zero, List.set_cons_succ]))
            iterate 3 (refine SeqV.val (v := ?_) (by rfl) (by rfl) (fun wx hSw => ?_) ?_; rotate_left; (focus ((try dsimp only at hSw); go_simp; (try with_reducible rfl))); (try simp only [Act.put, List.setIfInBounds_toArray, List.set_cons_zero, List.set_cons_succ]))
            (refine SeqV.load (v := ?_) (by rfl) (by rfl) (by rfl) ?_ ?_; rotate_left; (focus (go_simp; (try with_reducible rfl))); (try simp only [Act.put, List.setIfInBounds_toArray, List.set_cons_zero, List.set_cons_succ]))
            (refine SeqV.val (v := ?_) (by rfl) (by rfl) (fun wx hSw => ?_) ?_; rotate_left; (focus ((try dsimp only at hSw); go_simp; (try with_reducible rfl))); (try simp only [Act.put, List.setIfInBounds_toArray, List.set_cons_zero, List.set_cons_succ]))
            refine SeqV.act0 (by rfl) rfl (by rfl) (fun K hK => ?_)
            go_simp
            refine hK.out _ trivial ?_
            clear K hK
            (try simp only [Act.put, List.setIfInBounds_toArray, List.set_cons_zero, List.set_cons_succ])
            (refine SeqV.val (v := ?_) (by rfl) (by rfl) (fun wx hSw => ?_) ?_; rotate_left; (focus ((try dsimp only at hSw); go_simp; (try with_reducible rfl))); (try simp only [Act.put, List.setIfInBounds_toArray, List.set_cons_zero, List.set_cons_succ]))
            refine SeqV.act0 (by rfl) rfl (by rfl) (fun K hK => ?_)
            go_simp
            refine hK.out _ trivial ?_
            clear K hK
            (try simp only [Act.put, List.setIfInBounds_toArray, List.set_cons_zero, List.set_cons_succ])
            refine SeqV.nil ?_
            have KT := Lib.hid (((((Kept.refl (fun k => k = g) wf).setCell (p := ⟨g, A * 2, none⟩) (.inl rfl) (.int .i64 xb.1)).setCell (p := ⟨g, A * 2 + 1, none⟩) (.inl rfl) (.int .i64 xb.2)).setCell (p := ⟨g, q * 2, none⟩) (.inl rfl) (.int .i64 xa.1)).setCell (p := ⟨g, q * 2 + 1, none⟩) (.inl rfl) (.int .i64 xa.2))
            generalize ((((wf.setCell _ _).setCell _ _).setCell _ _).setCell _ _) = wz at *
            have KW := Lib.hid (kw.out.org KT.out)
            have IZ := Lib.hid (CC.out.stay _ _ hi.out KT.out)
            clear a0 a1 b0 b1 KT f0 f1' f2' f3
            go_wp2
            go_roundw
            case rel => exact ⟨q, swp f2 A q, rfl, SZ, NZ, IZ, KW⟩
            case measure => simp [intOf]; omega
        · obtain rfl : j = a := by omega
          have DN := Lib.hid (IA.out.done CC.out.swo fun h => absurd h hja)
          have SWK := Lib.hid ((hsw.out.mono (Nat.le_refl _) (Nat.le_succ k)).trans IA.out.sw)
          have e0 : ¬ (j : Int) < (j : Int) := by omega
          clear IA
          go_wp2
          go_quiet (fail)
          have HR := Lib.hid (hr.out.kept ((Kept.refl Noneof wr).drewN nq) fun h => h)
          have HI' := Lib.hid (CC.out.stay _ _ hi.out ((Kept.refl _ wr).drewN nq))
          have KW := Lib.hid (kw.out.drewN nq)
          go_wp2
          go_roundw
          case rel => exact ⟨k + 1, f2, by omega, .inl (by omega), by go_num, HR, SWK, DN, HI', KW⟩
          case measure => simp [intOf]; omega
    · go_wp2
      go_end0
      rcases hkb with h | h
      · obtain rfl : k = b := by omega
        exact ⟨rfl, f1, hr.out, hsw.out, hso.out, hi.out, kw.out⟩
      · refine ⟨rfl, f1, hr.out, ?_, Srt'.one (by omega), hi.out, kw.out⟩
        have e : f1 = f := by
          funext x
          by_cases hx : x = a
          · obtain ⟨q, q1, q2, e⟩ := hsw.out.mem a (Nat.le_refl _) (by omega)
            rw [hx, e]
            congr 1
            omega
          · exact hsw.out.out x (by omega)
        rw [e]
        exact .refl
end Go.Proofs.Ytaopjdjbpamhhaa
/- Proved: contract of the standard library's rotation of two parts of a row of places. Conditions: rows in memory. -/
namespace Go.Proofs.Ytaopjdjbpamhhaa
open Go Go.RowKit
set_option linter.unusedVariables false
set_option linter.unusedSimpArgs false
theorem wrapS {x y : Nat} (h : y ≤ x) (hx : x ≤ 4000000000) : IntKind.i64.wrap ((x : Int) - (y : Int)) = ((x - y : Nat) : Int) := by
  rw [show ((x - y : Nat) : Int) = (x : Int) - (y : Int) by omega]
  exact IntWalk.i64_in _ ⟨by omega, by omega⟩
theorem wrapA {x y : Nat} (hx : x ≤ 4000000000) (hy : y ≤ 4000000000) : IntKind.i64.wrap ((x : Int) + (y : Int)) = ((x + y : Nat) : Int) := IntWalk.i64_in _ ⟨by omega, by omega⟩
set_option maxRecDepth 100000 in
set_option maxHeartbeats 2000000 in
theorem rotate_calls {w : World} {g c N a m b : Nat} {f : Nat → Int × Int} {v : Value} (h : PlRow w g N f) (h1 : a < m) (h2 : m < b) (hb : b ≤ N) (hN : N ≤ 1000000000) :
    Calls Try.prog 201 #[.slice (some ⟨g, 0, none⟩) N c, .int .i64 a, .int .i64 m, .int .i64 b, v] w fun e w' => e = .returned (.tuple #[]) ∧ PlRow w' g N (rot f a m b) ∧ Sw a b f (rot f a m b) ∧ Kept (fun k => k = g) w w' := by
  have H := Lib.hid h
  clear h
  have e1 := wrapS (x := m) (y := a) (by omega) (by omega)
  have e2 := wrapS (x := b) (y := m) (by omega) (by omega)
  go_enter Try.func201, Try.ntmps201
  go_wp2
  clear e1 e2
  go_loopw [10, 11] (fun vi vj wr => ∃ (i j : Nat) (f1 : Nat → Int × Int), vi = .int .i64 i ∧ vj = .int .i64 j ∧ 1 ≤ i ∧ 1 ≤ j ∧ a + i ≤ m ∧ m + j ≤ b ∧ Hid (PlRow wr g N f1) ∧ Hid (rot f1 (m - i) m (m + j) = rot f a m b) ∧ Hid (Sw a b f f1) ∧ Hid (Kept (fun k => k = g) w wr)) (fun vi vj _ => (intOf vi).toNat + (intOf vj).toNat)
  case atStart => exact ⟨m - a, b - m, f, rfl, rfl, by omega, by omega, by omega, by omega, H, Lib.hid (by rw [show m - (m - a) = a by omega, show m + (b - m) = b by omega]), Lib.hid .refl, Lib.hid (Kept.refl _ _)⟩
  case round =>
    obtain ⟨i, j, f1, rfl, rfl, i1, j1, hi, hj, hr, he, hs, kw⟩ := hrel
    have w1 := wrapS (x := m) (y := i) (by omega) (by omega)
    by_cases hlt : j < i
    · have hne : ¬ (i : Int) = (j : Int) := by omega
      have hgt : (j : Int) < (i : Int) := by omega
      have w2 := wrapS (x := i) (y := j) (by omega) (by omega)
      have HE := Lib.hid ((rot_left f1 hlt (by omega : i ≤ m)).trans he.out)
      have HS := Lib.hid (hs.out.trans (swr_sw f1 (lo := a) (hi := b) j (by omega : (m - i) + j ≤ m) (by omega) hj))
      go_wp2_with fail
      refine (swapRange_calls hr.out (by omega) (by omega) hN).mono ?_
      rintro e w3 ⟨rfl, r3, k3⟩
      have R3 := Lib.hid r3
      have KW := Lib.hid (kw.out.tr k3)
      clear r3 k3 he hs hr kw w1
      go_wp2
      go_roundw
      case rel => exact ⟨i - j, j, _, by first | rfl | go_num, rfl, by omega, j1, by omega, hj, R3, HE, HS, KW⟩
      case measure => simp [intOf]; omega
    · by_cases hlt2 : i < j
      · have hne : ¬ (i : Int) = (j : Int) := by omega
        have hgt : ¬ (j : Int) < (i : Int) := by omega
        have w2 := wrapS (x := j) (y := i) (by omega) (by omega)
        obtain ⟨B, hB⟩ : ∃ B, B = m + j := ⟨_, rfl⟩
        have w3 : IntKind.i64.wrap ((m : Int) + (j : Int)) = (B : Int) := by rw [hB]; exact wrapA (by omega) (by omega)
        have w4 := wrapS (x := B) (y := i) (by omega) (by omega)
        have HE := Lib.hid (show rot (swr f1 (m - i) (B - i) i) (m - i) m (m + (j - i)) = rot f a m b by rw [hB]; exact (rot_right f1 hlt2 (by omega : i ≤ m)).trans he.out)
        have HS := Lib.hid (show Sw a b f (swr f1 (m - i) (B - i) i) from hs.out.trans (swr_sw f1 (a := m - i) (b := B - i) (lo := a) (hi := b) i (by omega) (by omega) (by omega)))
        have hBm : (m - i) + i ≤ B - i ∧ B - i + i ≤ N := by omega
        clear hB
        go_wp2_with fail
        refine (swapRange_calls (a := m - i) (b := B - i) (n := i) hr.out hBm.1 hBm.2 hN).mono ?_
        rintro e w5 ⟨rfl, r3, k3⟩
        have R3 := Lib.hid r3
        have KW := Lib.hid (kw.out.tr k3)
        clear r3 k3 he hs hr kw w1 w3 w4
        go_wp2
        go_roundw
        case rel => exact ⟨i, j - i, _, rfl, by first | rfl | go_num, i1, by omega, hi, by omega, R3, HE, HS, KW⟩
        case measure => simp [intOf]; omega
      · obtain rfl : i = j := by omega
        have HE := Lib.hid ((rot_same f1 (by omega : i ≤ m)).trans he.out)
        have HS := Lib.hid (hs.out.trans (swr_sw f1 (a := m - i) (b := m) (lo := a) (hi := b) i (by omega) (by omega) hj))
        go_wp2_with fail
        refine (swapRange_calls hr.out (by omega) (by omega) hN).mono ?_
        rintro e w3 ⟨rfl, r3, k3⟩
        rw [HE.out] at r3
        have R3 := Lib.hid r3
        have KW := Lib.hid (kw.out.tr k3)
        rw [HE.out] at HS
        clear r3 k3 he hs hr kw w1
        go_wp2
        go_end0
        exact ⟨rfl, R3.out, HS.out, KW.out⟩
end Go.Proofs.Ytaopjdjbpamhhaa
/- Proved: contract of the standard library's SymMerge where the left part is one element. Conditions: rows in memory; the comparison answers as a plain function, and leaves the row. -/
namespace Go.Proofs.Ytaopjdjbpamhhaa
open Go Go.RowKit
set_option linter.unusedVariables false
set_option linter.unusedSimpArgs false
set_option maxRecDepth 100000 in
set_option maxHeartbeats 4000000 in
theorem symMerge_one {w : World} {g c N a m b fid : Nat} {cb : Array Value} {f : Nat → Int × Int} {cf : Int × Int → Int × Int → Int} {I : World → Prop} {X : Nat → Prop} (C : CmpOk fid cb g N cf I X) (h : PlRow w g N f) (hI : I w) (hm : m = a + 1) (hmb : m < b) (hb : b ≤ N) (hN : N ≤ 1000000000)
    (hr : Srt' (ltC cf) plN f m b) (hx : Cross plN f a m b) :
    Calls Try.prog 180 #[.slice (some ⟨g, 0, none⟩) N c, .int .i64 a, .int .i64 m, .int .i64 b, .func (.func fid) #[] cb] w fun e w' => e = .returned (.tuple #[]) ∧ ∃ f', PlRow w' g N f' ∧ Sw a b f f' ∧ Srt' (ltC cf) plN f' a b ∧ I w' ∧ Kept (OrX g X) w w' := by
  have H := Lib.hid h
  have HI := Lib.hid hI
  have CC := Lib.hid C
  have HR := Lib.hid hr
  have HX := Lib.hid hx
  have eg := C.enter
  have HM := Lib.hid hm
  have e0 : IntKind.i64.wrap ((m : Int) - (a : Int)) = 1 := by rw [show (m : Int) - (a : Int) = 1 by omega]; rfl
  have MO := Lib.hid (show Mono (fun h => !ltC cf (f h) (f a)) m b from mono1 C.swo hr (f a))
  clear h hI C hr hx hm
  go_enter Try.func180, Try.ntmps180
  go_wp2
  clear e0
  go_loopw [10, 11] (fun vi vj wr => ∃ i j : Nat, vi = .int .i64 i ∧ vj = .int .i64 j ∧ Hid (Bin (fun h => !ltC cf (f h) (f a)) m b i j) ∧ Hid (PlRow wr g N f) ∧ Hid (I wr) ∧ Hid (Kept (OrX g X) w wr)) (fun vi vj _ => (intOf vj).toNat - (intOf vi).toNat)
  case atStart => exact ⟨m, b, rfl, rfl, Lib.hid (Bin.start (by omega)), H, HI, Lib.hid (Kept.refl _ _)⟩
  obtain ⟨i, j, rfl, rfl, bi, hr, hi, kw⟩ := hrel
  have b1 := bi.out.li
  have b2 := bi.out.ij
  have b3 := bi.out.jh
  by_cases hij : i < j
  · obtain ⟨q, hq⟩ : ∃ q, q = (i + j) / 2 := ⟨_, rfl⟩
    have eq : ((i : Int) + (j : Int)) / 2 = (q : Int) := by omega
    have q1 : i ≤ q := by omega
    have q2 : q < j := by omega
    have RT := Lib.hid (show ltC cf (f q) (f a) = true → Bin (fun h => !ltC cf (f h) (f a)) m b (q + 1) j from fun h => bi.out.right MO.out q1 q2 (by simp [h]))
    have LF := Lib.hid (show ltC cf (f q) (f a) = false → Bin (fun h => !ltC cf (f h) (f a)) m b i q from fun h => bi.out.left MO.out q1 q2 (by simp [h]))
    have hA : q < N := by omega
    have hB : a < N := by have := HM.out; omega
    have OA := Lib.hid (hr.out.ok hA)
    have OB := Lib.hid (hr.out.ok hB)
    obtain ⟨a0, a1, _⟩ := hr.out.cell hA
    obtain ⟨b0, b1', _⟩ := hr.out.cell hB
    generalize f q = xa at *
    generalize f a = xb at *
    have ia : (q : Int) < (N : Int) := by omega
    have ib : (a : Int) < (N : Int) := by omega
    clear hq
    go_wp2_with fail
    clear eq
    refine wp_region_chain 11 [9] (fun w' => w'.cell? ⟨g, q * 2, none⟩ = some (.int .i64 xa.1) ∧ w'.cell? ⟨g, q * 2 + 1, none⟩ = some (.int .i64 xa.2) ∧ w'.cell? ⟨g, a * 2, none⟩ = some (.int .i64 xb.1) ∧ w'.cell? ⟨g, a * 2 + 1, none⟩ = some (.int .i64 xb.2)) (by kernel_rfl) (by kernel_rfl) ?_ ?_
    · exact ⟨a0, a1, b0, b1'⟩
    refine SeqW.out ?_
    simp only [List.take_succ_cons, List.take_zero, List.drop_succ_cons, List.drop_zero]
    have kd := (Kept.refl Noneof wr).drew
    replace hr := Lib.hid (hr.out.kept kd fun h => h)
    replace hi := Lib.hid (CC.out.drew hi.out)
    replace kw := Lib.hid (kw.out.drew)
    replace a0 := kd.cell (fun h => h) a0
    replace a1 := kd.cell (fun h => h) a1
    replace b0 := kd.cell (fun h => h) b0
    replace b1' := kd.cell (fun h => h) b1'
    generalize wr.drew = wd at *
    clear kd
    iterate 9 (refine SeqW.val (v := ?_) (by rfl) (by rfl) (fun wx hSw => ?_) ?_; rotate_left; (focus ((try dsimp only at hSw); go_simp; (try with_reducible rfl))); (try simp only [Act.put, List.setIfInBounds_toArray, List.set_cons_zero, List.set_cons_succ]))
    refine SeqW.act (by rfl) rfl (by rfl) (by rfl) (fun K hK => ?_)
    go_simp
    refine (CC.out.cmp wd xa xb hi.out OA.out OB.out).mono ?_
    rintro e we ⟨rfl, hie, ke⟩
    have hrw := CC.out.row
    refine hK.out _ _ ⟨ke.cell hrw a0, ke.cell hrw a1, ke.cell hrw b0, ke.cell hrw b1'⟩ ?_
    replace hr := Lib.hid (hr.out.kept ke hrw)
    replace hi := Lib.hid hie
    replace kw := Lib.hid (kw.out.orx ke)
    clear K hK ke hie hrw a0 a1 b0 b1'
    (try simp only [Act.put, List.setIfInBounds_toArray, List.set_cons_zero, List.set_cons_succ])
    cases hz : decide (cf xa xb < 0)
    · have BB := Lib.hid (LF.out hz)
      generalize cf xa xb = z at *
      (refine SeqW.val (v := ?_) (by rfl) (by rfl) (fun wx hSw => ?_) ?_; rotate_left; (focus ((try dsimp only at hSw); go_simp; (try with_reducible rfl))); (try simp only [Act.put, List.setIfInBounds_toArray, List.set_cons_zero, List.set_cons_succ]))
      refine SeqW.nil ?_
      clear RT LF bi
      go_wp2
      go_roundw
      case rel => exact ⟨i, q, rfl, rfl, BB, hr, hi, kw⟩
      case measure => simp [intOf]; omega
    · have BB := Lib.hid (RT.out hz)
      generalize cf xa xb = z at *
      (refine SeqW.val (v := ?_) (by rfl) (by rfl) (fun wx hSw => ?_) ?_; rotate_left; (focus ((try dsimp only at hSw); go_simp; (try with_reducible rfl))); (try simp only [Act.put, List.setIfInBounds_toArray, List.set_cons_zero, List.set_cons_succ]))
      refine SeqW.nil ?_
      clear RT LF bi
      go_wp2
      go_roundw
      case rel => exact ⟨q + 1, j, by go_num, rfl, BB, hr, hi, kw⟩
      case measure => simp [intOf]; omega
  · obtain rfl : i = j := by omega
    have SO := Lib.hid (sh1_srt CC.out.swo (by rw [← HM.out]; exact HR.out) (by rw [← HM.out]; exact HX.out) (by rw [← HM.out]; exact bi.out))
    have b4 : a + 1 ≤ i := by have := HM.out; omega
    have e1 : IntKind.i64.wrap ((i : Int) - 1) = ((i - 1 : Nat) : Int) := wrapS (x := i) (y := 1) (by omega) (by omega)
    clear bi hij b2
    go_wp2
    go_loopw [13] (fun vk wr => ∃ t : Nat, a + t ≤ i - 1 ∧ vk = .int .i64 ((a + t : Nat) : Int) ∧ Hid (PlRow wr g N (sh1 f a t)) ∧ Hid (I wr) ∧ Hid (Kept (OrX g X) w wr)) (fun vk _ => i - (intOf vk).toNat)
    case atStart => exact ⟨0, by omega, rfl, Lib.hid (by rw [sh1_zero]; exact hr.out), hi, kw⟩
    clear hr hi kw
    obtain ⟨t, ht, rfl, hr, hi, kw⟩ := hrel
    by_cases hlt : a + t < i - 1
    · have hA : a + t < N := by omega
      have hB : a + t + 1 < N := by omega
      have hAB : a + t ≠ a + t + 1 := by omega
      have hsu := sh1_succ f a t
      have mt : i - (a + t + 1) < i - (a + t) := by omega
      generalize hAA : a + t = A at *
      generalize hBB : A + 1 = B at *
      generalize hFF : sh1 f a t = F at *
      have w1 : IntKind.i64.wrap ((A : Int) + 1) = (B : Int) := by rw [← hBB]; exact IntWalk.i64_in _ ⟨by omega, by omega⟩
      have hlt' : (A : Int) < ((i - 1 : Nat) : Int) := by omega
      (
      have hd := hr.out.kept (Kept.refl Noneof wr).drew (fun h => h)
      obtain ⟨a0, a1, f0, f1⟩ := hd.cell hA
      obtain ⟨b0, b1, f2, f3⟩ := hd.cell hB
      have SS := Lib.hid (hd.swap hA hB hAB)
      generalize F A = xa at *
      generalize F B = xb at *
      have n1 : ¬ A * 2 = B * 2 := by omega
      have n2 : ¬ B * 2 = A * 2 + 1 := by omega
      have n3 : ¬ B * 2 + 1 = A * 2 := by omega
      have ia : (A : Int) < (N : Int) := by omega
      have ib : (B : Int) < (N : Int) := by omega
      have kw' := Lib.hid (kw.out.drew)
      have hi' := Lib.hid (CC.out.drew hi.out)
      clear hd
      go_wp2_with fail
      refine wp_region_chainE 18 [15, 17] [9, 13] (fun _ => True) (by kernel_rfl) (by kernel_rfl) ?_ ?_
      · trivial
      refine SeqV.out ?_
      simp only [List.take_succ_cons, List.take_zero, List.drop_succ_cons, List.drop_zero]
      generalize wr.drew = wf at *
      iterate 9 (refine SeqV.val (v := ?_) (by rfl) (by rfl) (fun wx hSw => ?_) ?_; rotate_left; (focus ((try dsimp only at hSw); go_simp; (try with_reducible rfl))); (try simp only [Act.put, List.setIfInBounds_toArray, List.set_cons_zero, List.set_cons_succ]))
      (refine SeqV.load (v := ?_) (by rfl) (by rfl) (by rfl) ?_ ?_; rotate_left; (focus (go_simp; (try with_reducible rfl))); (try simp only [Act.put, List.setIfInBounds_toArray, List.set_cons_zero, List.set_cons_succ]))
      iterate 3 (refine SeqV.val (v := ?_) (by rfl) (by rfl) (fun wx hSw => ?_) ?_; rotate_left; (focus ((try dsimp only at hSw); go_simp; (try with_reducible rfl))); (try simp only [Act.put, List.setIfInBounds_toArray, List.set_cons_zero, List.set_cons_succ]))
      (refine SeqV.load (v := ?_) (by rfl) (by rfl) (by rfl) ?_ ?_; rotate_left; (focus (go_simp; (try with_reducible rfl))); (try simp only [Act.put, List.setIfInBounds_toArray, List.set_cons_zero, List.set_cons_succ]))
      (refine SeqV.val (v := ?_) (by rfl) (by rfl) (fun wx hSw => ?_) ?_; rotate_left; (focus ((try dsimp only at hSw); go_simp; (try with_reducible rfl))); (try simp only [Act.put, List.setIfInBounds_toArray, List.set_cons_zero, List.set_cons_succ]))
      refine SeqV.act0 (by rfl) rfl (by rfl) (fun K hK => ?_)
      go_simp
      refine hK.out _ trivial ?_
      clear K hK
      (try simp only [Act.put, List.setIfInBounds_toArray, List.set_cons_zero, List.set_cons_succ])
      (refine SeqV.val (v := ?_) (by rfl) (by rfl) (fun wx hSw => ?_) ?_; rotate_left; (focus ((try dsimp only at hSw); go_simp; (try with_reducible rfl))); (try simp only [Act.put, List.setIfInBounds_toArray, List.set_cons_zero, List.set_cons_succ]))
      refine SeqV.act0 (by rfl) rfl (by rfl) (fun K hK => ?_)
      go_simp
      refine hK.out _ trivial ?_
      clear K hK
      (try simp only [Act.put, List.setIfInBounds_toArray, List.set_cons_zero, List.set_cons_succ])
      refine SeqV.nil ?_
      have KT := Lib.hid (((((Kept.refl (fun k => k = g) wf).setCell (p := ⟨g, A * 2, none⟩) (.inl rfl) (.int .i64 xb.1)).setCell (p := ⟨g, A * 2 + 1, none⟩) (.inl rfl) (.int .i64 xb.2)).setCell (p := ⟨g, B * 2, none⟩) (.inl rfl) (.int .i64 xa.1)).setCell (p := ⟨g, B * 2 + 1, none⟩) (.inl rfl) (.int .i64 xa.2))
      generalize ((((wf.setCell _ _).setCell _ _).setCell _ _).setCell _ _) = wz at *
      have KW := Lib.hid (kw'.out.org KT.out)
      have IZ := Lib.hid (CC.out.stay _ _ hi'.out KT.out)
      clear a0 a1 b0 b1 KT f0 f1 f2 f3 n1 n2 n3 ia ib kw' hi')
      rw [hsu] at SS
      go_wp2
      go_roundw
      case rel => exact ⟨t + 1, by omega, by go_num, SS, IZ, KW⟩
      case measure => simp [intOf]; omega
    · have et : a + t = i - 1 := by omega
      have et' : i - 1 - a = t := by omega
      rw [et]
      rw [et'] at SO
      have SW := Lib.hid (sh1_sw f (lo := a) (b := b) (Nat.le_refl a) t (by omega))
      clear et et' hlt ht
      go_wp2
      refine bodyPost_ret (results_none rfl _ _ _) rfl ?_
      exact ⟨rfl, _, hr.out, SW.out, SO.out, hi.out, kw.out⟩

set_option maxRecDepth 100000 in
set_option maxHeartbeats 4000000 in
theorem symMerge_last {w : World} {g c N a m b fid : Nat} {cb : Array Value} {f : Nat → Int × Int} {cf : Int × Int → Int × Int → Int} {I : World → Prop} {X : Nat → Prop} (C : CmpOk fid cb g N cf I X) (h : PlRow w g N f) (hI : I w) (hm : b = m + 1) (ham : a + 1 < m) (hb : b ≤ N) (hN : N ≤ 1000000000)
    (hl : Srt' (ltC cf) plN f a m) (hx : Cross plN f a m b) :
    Calls Try.prog 180 #[.slice (some ⟨g, 0, none⟩) N c, .int .i64 a, .int .i64 m, .int .i64 b, .func (.func fid) #[] cb] w fun e w' => e = .returned (.tuple #[]) ∧ ∃ f', PlRow w' g N f' ∧ Sw a b f f' ∧ Srt' (ltC cf) plN f' a b ∧ I w' ∧ Kept (OrX g X) w w' := by
  have H := Lib.hid h
  have HI := Lib.hid hI
  have CC := Lib.hid C
  have HL := Lib.hid hl
  have HX := Lib.hid hx
  have eg := C.enter
  have HM := Lib.hid hm
  have e0 := wrapS (x := m) (y := a) (by omega) (by omega)
  have e1 : IntKind.i64.wrap ((b : Int) - (m : Int)) = 1 := by rw [show (b : Int) - (m : Int) = 1 by omega]; rfl
  have ne : (((m - a : Nat) : Int) == 1) = false := by rw [beq_eq_false_iff_ne]; omega
  have MO := Lib.hid (show Mono (fun h => ltC cf (f m) (f h)) a m from mono2 C.swo hl (f m))
  have hmN : m < N := by omega
  clear h hI C hl hx hm
  go_enter Try.func180, Try.ntmps180
  go_wp2
  clear e0 e1 ne
  go_loopw [14, 15] (fun vi vj wr => ∃ i j : Nat, vi = .int .i64 i ∧ vj = .int .i64 j ∧ Hid (Bin (fun h => ltC cf (f m) (f h)) a m i j) ∧ Hid (PlRow wr g N f) ∧ Hid (I wr) ∧ Hid (Kept (OrX g X) w wr)) (fun vi vj _ => (intOf vj).toNat - (intOf vi).toNat)
  case atStart => exact ⟨a, m, rfl, rfl, Lib.hid (Bin.start (by omega)), H, HI, Lib.hid (Kept.refl _ _)⟩
  obtain ⟨i, j, rfl, rfl, bi, hr, hi, kw⟩ := hrel
  have b1 := bi.out.li
  have b2 := bi.out.ij
  have b3 := bi.out.jh
  by_cases hij : i < j
  · obtain ⟨q, hq⟩ : ∃ q, q = (i + j) / 2 := ⟨_, rfl⟩
    have eq : ((i : Int) + (j : Int)) / 2 = (q : Int) := by omega
    have q1 : i ≤ q := by omega
    have q2 : q < j := by omega
    have RT := Lib.hid (show ltC cf (f m) (f q) = false → Bin (fun h => ltC cf (f m) (f h)) a m (q + 1) j from fun h => bi.out.right MO.out q1 q2 h)
    have LF := Lib.hid (show ltC cf (f m) (f q) = true → Bin (fun h => ltC cf (f m) (f h)) a m i q from fun h => bi.out.left MO.out q1 q2 h)
    have hA : q < N := by omega
    have OA := Lib.hid (hr.out.ok hmN)
    have OB := Lib.hid (hr.out.ok hA)
    obtain ⟨a0, a1, _⟩ := hr.out.cell hmN
    obtain ⟨b0, b1', _⟩ := hr.out.cell hA
    generalize f m = xa at *
    generalize f q = xb at *
    have ia : (m : Int) < (N : Int) := by omega
    have ib : (q : Int) < (N : Int) := by omega
    clear hq
    go_wp2_with fail
    clear eq
    refine wp_region_chain 12 [9] (fun w' => w'.cell? ⟨g, m * 2, none⟩ = some (.int .i64 xa.1) ∧ w'.cell? ⟨g, m * 2 + 1, none⟩ = some (.int .i64 xa.2) ∧ w'.cell? ⟨g, q * 2, none⟩ = some (.int .i64 xb.1) ∧ w'.cell? ⟨g, q * 2 + 1, none⟩ = some (.int .i64 xb.2)) (by kernel_rfl) (by kernel_rfl) ?_ ?_
    · exact ⟨a0, a1, b0, b1'⟩
    refine SeqW.out ?_
    simp only [List.take_succ_cons, List.take_zero, List.drop_succ_cons, List.drop_zero]
    have kd := (Kept.refl Noneof wr).drew
    replace hr := Lib.hid (hr.out.kept kd fun h => h)
    replace hi := Lib.hid (CC.out.drew hi.out)
    replace kw := Lib.hid (kw.out.drew)
    replace a0 := kd.cell (fun h => h) a0
    replace a1 := kd.cell (fun h => h) a1
    replace b0 := kd.cell (fun h => h) b0
    replace b1' := kd.cell (fun h => h) b1'
    generalize wr.drew = wd at *
    clear kd
    iterate 9 (refine SeqW.val (v := ?_) (by rfl) (by rfl) (fun wx hSw => ?_) ?_; rotate_left; (focus ((try dsimp only at hSw); go_simp; (try with_reducible rfl))); (try simp only [Act.put, List.setIfInBounds_toArray, List.set_cons_zero, List.set_cons_succ]))
    refine SeqW.act (by rfl) rfl (by rfl) (by rfl) (fun K hK => ?_)
    go_simp
    refine (CC.out.cmp wd xa xb hi.out OA.out OB.out).mono ?_
    rintro e we ⟨rfl, hie, ke⟩
    have hrw := CC.out.row
    refine hK.out _ _ ⟨ke.cell hrw a0, ke.cell hrw a1, ke.cell hrw b0, ke.cell hrw b1'⟩ ?_
    replace hr := Lib.hid (hr.out.kept ke hrw)
    replace hi := Lib.hid hie
    replace kw := Lib.hid (kw.out.orx ke)
    clear K hK ke hie hrw a0 a1 b0 b1'
    (try simp only [Act.put, List.setIfInBounds_toArray, List.set_cons_zero, List.set_cons_succ])
    cases hz : decide (cf xa xb < 0)
    · have BB := Lib.hid (RT.out hz)
      generalize cf xa xb = z at *
      (refine SeqW.val (v := ?_) (by rfl) (by rfl) (fun wx hSw => ?_) ?_; rotate_left; (focus ((try dsimp only at hSw); go_simp; (try with_reducible rfl))); (try simp only [Act.put, List.setIfInBounds_toArray, List.set_cons_zero, List.set_cons_succ]))
      (refine SeqW.val (v := ?_) (by rfl) (by rfl) (fun wx hSw => ?_) ?_; rotate_left; (focus ((try dsimp only at hSw); go_simp; (try with_reducible rfl))); (try simp only [Act.put, List.setIfInBounds_toArray, List.set_cons_zero, List.set_cons_succ]))
      refine SeqW.nil ?_
      clear RT LF bi
      go_wp2
      go_roundw
      case rel => exact ⟨q + 1, j, by go_num, rfl, BB, hr, hi, kw⟩
      case measure => simp [intOf]; omega
    · have BB := Lib.hid (LF.out hz)
      generalize cf xa xb = z at *
      (refine SeqW.val (v := ?_) (by rfl) (by rfl) (fun wx hSw => ?_) ?_; rotate_left; (focus ((try dsimp only at hSw); go_simp; (try with_reducible rfl))); (try simp only [Act.put, List.setIfInBounds_toArray, List.set_cons_zero, List.set_cons_succ]))
      (refine SeqW.val (v := ?_) (by rfl) (by rfl) (fun wx hSw => ?_) ?_; rotate_left; (focus ((try dsimp only at hSw); go_simp; (try with_reducible rfl))); (try simp only [Act.put, List.setIfInBounds_toArray, List.set_cons_zero, List.set_cons_succ]))
      refine SeqW.nil ?_
      clear RT LF bi
      go_wp2
      go_roundw
      case rel => exact ⟨i, q, rfl, rfl, BB, hr, hi, kw⟩
      case measure => simp [intOf]; omega
  · obtain rfl : i = j := by omega
    have SO := Lib.hid (sh2_srt CC.out.swo HL.out (by rw [← HM.out]; exact HX.out) bi.out)
    clear bi hij b2
    go_wp2
    go_loopw [17] (fun vk wr => ∃ k t : Nat, k + t = m ∧ i ≤ k ∧ vk = .int .i64 (k : Int) ∧ Hid (PlRow wr g N (sh2 f m t)) ∧ Hid (I wr) ∧ Hid (Kept (OrX g X) w wr)) (fun vk _ => (intOf vk).toNat)
    case atStart => exact ⟨m, 0, rfl, b3, rfl, Lib.hid (by rw [sh2_zero]; exact hr.out), hi, kw⟩
    clear hr hi kw
    obtain ⟨k, t, hkt, hik, rfl, hr, hi, kw⟩ := hrel
    by_cases hlt : i < k
    · obtain ⟨B, rfl⟩ : ∃ B, k = B + 1 := ⟨k - 1, by omega⟩
      have hA : B + 1 < N := by omega
      have hB : B < N := by omega
      have hAB : B + 1 ≠ B := by omega
      have hsu := sh2_succ f (m := m) (t := t) (by omega)
      rw [show m - t - 1 = B by omega, show m - t = B + 1 by omega] at hsu
      have w1 : IntKind.i64.wrap (((B + 1 : Nat) : Int) - 1) = (B : Int) := by rw [show ((B + 1 : Nat) : Int) - 1 = (B : Int) by omega]; exact IntWalk.i64_in _ ⟨by omega, by omega⟩
      have hlt' : (i : Int) < ((B + 1 : Nat) : Int) := by omega
      have mt : B < B + 1 := by omega
      have hkt' : B + (t + 1) = m := by omega
      have hik' : i ≤ B := by omega
      generalize hAA : B + 1 = A at *
      generalize hFF : sh2 f m t = F at *
      (
      have hd := hr.out.kept (Kept.refl Noneof wr).drew (fun h => h)
      obtain ⟨a0, a1, f0, f1⟩ := hd.cell hA
      obtain ⟨b0, b1, f2, f3⟩ := hd.cell hB
      have SS := Lib.hid (hd.swap hA hB hAB)
      generalize F A = xa at *
      generalize F B = xb at *
      have n1 : ¬ A * 2 = B * 2 := by omega
      have n2 : ¬ B * 2 = A * 2 + 1 := by omega
      have n3 : ¬ B * 2 + 1 = A * 2 := by omega
      have ia : (A : Int) < (N : Int) := by omega
      have ib : (B : Int) < (N : Int) := by omega
      have kw' := Lib.hid (kw.out.drew)
      have hi' := Lib.hid (CC.out.drew hi.out)
      clear hd
      go_wp2_with fail
      refine wp_region_chainE 18 [15, 17] [9, 13] (fun _ => True) (by kernel_rfl) (by kernel_rfl) ?_ ?_
      · trivial
      refine SeqV.out ?_
      simp only [List.take_succ_cons, List.take_zero, List.drop_succ_cons, List.drop_zero]
      generalize wr.drew = wf at *
      iterate 9 (refine SeqV.val (v := ?_) (by rfl) (by rfl) (fun wx hSw => ?_) ?_; rotate_left; (focus ((try dsimp only at hSw); go_simp; (try with_reducible rfl))); (try simp only [Act.put, List.setIfInBounds_toArray, List.set_cons_zero, List.set_cons_succ]))
      (refine SeqV.load (v := ?_) (by rfl) (by rfl) (by rfl) ?_ ?_; rotate_left; (focus (go_simp; (try with_reducible rfl))); (try simp only [Act.put, List.setIfInBounds_toArray, List.set_cons_zero, List.set_cons_succ]))
      iterate 3 (refine SeqV.val (v := ?_) (by rfl) (by rfl) (fun wx hSw => ?_) ?_; rotate_left; (focus ((try dsimp only at hSw); go_simp; (try with_reducible rfl))); (try simp only [Act.put, List.setIfInBounds_toArray, List.set_cons_zero, List.set_cons_succ]))
      (refine SeqV.load (v := ?_) (by rfl) (by rfl) (by rfl) ?_ ?_; rotate_left; (focus (go_simp; (try with_reducible rfl))); (try simp only [Act.put, List.setIfInBounds_toArray, List.set_cons_zero, List.set_cons_succ]))
      (refine SeqV.val (v := ?_) (by rfl) (by rfl) (fun wx hSw => ?_) ?_; rotate_left; (focus ((try dsimp only at hSw); go_simp; (try with_reducible rfl))); (try simp only [Act.put, List.setIfInBounds_toArray, List.set_cons_zero, List.set_cons_succ]))
      refine SeqV.act0 (by rfl) rfl (by rfl) (fun K hK => ?_)
      go_simp
      refine hK.out _ trivial ?_
      clear K hK
      (try simp only [Act.put, List.setIfInBounds_toArray, List.set_cons_zero, List.set_cons_succ])
      (refine SeqV.val (v := ?_) (by rfl) (by rfl) (fun wx hSw => ?_) ?_; rotate_left; (focus ((try dsimp only at hSw); go_simp; (try with_reducible rfl))); (try simp only [Act.put, List.setIfInBounds_toArray, List.set_cons_zero, List.set_cons_succ]))
      refine SeqV.act0 (by rfl) rfl (by rfl) (fun K hK => ?_)
      go_simp
      refine hK.out _ trivial ?_
      clear K hK
      (try simp only [Act.put, List.setIfInBounds_toArray, List.set_cons_zero, List.set_cons_succ])
      refine SeqV.nil ?_
      have KT := Lib.hid (((((Kept.refl (fun k => k = g) wf).setCell (p := ⟨g, A * 2, none⟩) (.inl rfl) (.int .i64 xb.1)).setCell (p := ⟨g, A * 2 + 1, none⟩) (.inl rfl) (.int .i64 xb.2)).setCell (p := ⟨g, B * 2, none⟩) (.inl rfl) (.int .i64 xa.1)).setCell (p := ⟨g, B * 2 + 1, none⟩) (.inl rfl) (.int .i64 xa.2))
      generalize ((((wf.setCell _ _).setCell _ _).setCell _ _).setCell _ _) = wz at *
      have KW := Lib.hid (kw'.out.org KT.out)
      have IZ := Lib.hid (CC.out.stay _ _ hi'.out KT.out)
      clear a0 a1 b0 b1 KT f0 f1 f2 f3 n1 n2 n3 ia ib kw' hi')
      rw [hsu] at SS
      go_wp2
      go_roundw
      case rel => exact ⟨B, t + 1, hkt', hik', rfl, SS, IZ, KW⟩
      case measure => simp [intOf]; omega
    · obtain rfl : k = i := by omega
      have et : m - k = t := by omega
      rw [et] at SO
      have SW := Lib.hid (sh2_sw f (lo := a) (m := m) (b := b) (by have := HM.out; omega) t (by omega))
      have SO' := Lib.hid (show Srt' (ltC cf) plN (sh2 f m t) a b by rw [HM.out]; exact SO.out)
      clear et hkt hlt SO
      go_wp2
      refine bodyPost_ret (results_none rfl _ _ _) rfl ?_
      exact ⟨rfl, _, hr.out, SW.out, SO'.out, hi.out, kw.out⟩
end Go.Proofs.Ytaopjdjbpamhhaa
/- Proved: contract of the standard library's SymMerge. Conditions: rows in memory; the comparison answers as a plain function, and leaves the row. -/
namespace Go.Proofs.Ytaopjdjbpamhhaa
open Go Go.RowKit
set_option linter.unusedVariables false
set_option linter.unusedSimpArgs false
theorem Cross.congr {α : Type} {ix : α → Nat} {f g : Nat → α} {a m b : Nat} (h : Cross ix f a m b) (e : ∀ k, a ≤ k → g k = f k) : Cross ix g a m b := fun i j h1 h2 h3 h4 => by rw [e i h1, e j (by omega)]; exact h i j h1 h2 h3 h4

theorem Sw.stop {α : Type} {a b a' b' : Nat} {f g : Nat → α} (_ : Sw a b f g) : Sw a' b' g g := .refl

def MergeAt (fid : Nat) (cb : Array Value) (g c N : Nat) (cf : Int × Int → Int × Int → Int) (I : World → Prop) (X : Nat → Prop) (a m b : Nat) : Prop :=
  ∀ (w : World) (f : Nat → Int × Int), PlRow w g N f → I w → Srt' (ltC cf) plN f a m → Srt' (ltC cf) plN f m b → Cross plN f a m b →
    Calls Try.prog 180 #[.slice (some ⟨g, 0, none⟩) N c, .int .i64 a, .int .i64 m, .int .i64 b, .func (.func fid) #[] cb] w fun e w' => e = .returned (.tuple #[]) ∧ ∃ f', PlRow w' g N f' ∧ Sw a b f f' ∧ Srt' (ltC cf) plN f' a b ∧ I w' ∧ Kept (OrX g X) w w'
set_option maxRecDepth 100000 in
set_option maxHeartbeats 8000000 in
theorem symMerge_big {w : World} {g c N a m b fid : Nat} {cb : Array Value} {f : Nat → Int × Int} {cf : Int × Int → Int × Int → Int} {I : World → Prop} {X : Nat → Prop} (C : CmpOk fid cb g N cf I X) (h : PlRow w g N f) (hI : I w) (ham : a + 1 < m) (hmb : m + 1 < b) (hb : b ≤ N) (hN : N ≤ 1000000000)
    (hl : Srt' (ltC cf) plN f a m) (hr : Srt' (ltC cf) plN f m b) (hx : Cross plN f a m b) (ih : ∀ a' m' b', a' < m' → m' < b' → b' ≤ N → b' - a' < b - a → MergeAt fid cb g c N cf I X a' m' b') :
    Calls Try.prog 180 #[.slice (some ⟨g, 0, none⟩) N c, .int .i64 a, .int .i64 m, .int .i64 b, .func (.func fid) #[] cb] w fun e w' => e = .returned (.tuple #[]) ∧ ∃ f', PlRow w' g N f' ∧ Sw a b f f' ∧ Srt' (ltC cf) plN f' a b ∧ I w' ∧ Kept (OrX g X) w w' := by
  have H := Lib.hid h
  have HI := Lib.hid hI
  have CC := Lib.hid C
  have HL := Lib.hid hl
  have HR := Lib.hid hr
  have HX := Lib.hid hx
  have IH := Lib.hid ih
  have eg := C.enter
  have e0 := wrapS (x := m) (y := a) (by omega) (by omega)
  have e1 := wrapS (x := b) (y := m) (by omega) (by omega)
  have ne : (((m - a : Nat) : Int) == 1) = false := by rw [beq_eq_false_iff_ne]; omega
  have ne1 : (((b - m : Nat) : Int) == 1) = false := by rw [beq_eq_false_iff_ne]; omega
  obtain ⟨mid, hmid⟩ : ∃ mid, mid = (a + b) / 2 := ⟨_, rfl⟩
  have emid : ((a : Int) + (b : Int)) / 2 = (mid : Int) := by omega
  obtain ⟨nn, hnn⟩ : ∃ nn, nn = mid + m := ⟨_, rfl⟩
  have en : IntKind.i64.wrap ((mid : Int) + (m : Int)) = (nn : Int) := by rw [hnn]; exact wrapA (by omega) (by omega)
  clear h hI C hl hr hx ih
  by_cases hgt : mid < m
  · have en2 : IntKind.i64.wrap ((nn : Int) - (b : Int)) = ((nn - b : Nat) : Int) := wrapS (x := nn) (y := b) (by omega) (by omega)
    have hgt' : (mid : Int) < (m : Int) := by omega
    obtain ⟨lo, hlo⟩ : ∃ lo, lo = nn - b := ⟨_, rfl⟩
    rw [← hlo] at en2
    have MO := Lib.hid (show Mono (fun c => ltC cf (f (nn - 1 - c)) (f c)) lo mid from mono3 CC.out.swo HL.out HR.out (by omega) (by omega) (by omega) (by omega))
    have hlh : lo ≤ mid := by omega
    have EQ := Lib.hid (show mid = (a + b) / 2 ∧ nn = mid + m ∧ (lo = a ∨ lo + b = mid + m) ∧ (mid = m ∨ mid = mid) ∧ mid ≤ m ∧ mid ≤ mid ∧ a ≤ lo ∧ m + mid ≤ b + lo by omega)
    have f1 : 1 ≤ nn := by omega
    have f2 : nn ≤ 2000000000 := by omega
    have f3 : nn ≤ b + lo := by omega
    have f4 : mid + 1 ≤ nn := by omega
    have f5 : mid ≤ N := by omega
    clear hmid hnn hlo
    go_enter Try.func180, Try.ntmps180
    go_wp2_with fail
    clear e0 e1 ne ne1 emid en en2 hgt'
    (
    have p1 : IntKind.i64.wrap ((nn : Int) - 1) = ((nn - 1 : Nat) : Int) := wrapS (x := nn) (y := 1) (by omega) (by omega)
    go_wp2
    clear p1
    go_loopw [20, 21] (fun vi vj wr => ∃ i j : Nat, vi = .int .i64 i ∧ vj = .int .i64 j ∧ Hid (Bin (fun c => ltC cf (f (nn - 1 - c)) (f c)) lo mid i j) ∧ Hid (PlRow wr g N f) ∧ Hid (I wr) ∧ Hid (Kept (OrX g X) w wr)) (fun vi vj _ => (intOf vj).toNat - (intOf vi).toNat)
    case atStart => exact ⟨lo, mid, rfl, rfl, Lib.hid (Bin.start hlh), H, HI, Lib.hid (Kept.refl _ _)⟩
    obtain ⟨i, j, rfl, rfl, bi, hr, hi', kw⟩ := hrel
    have b1 := bi.out.li
    have b2 := bi.out.ij
    have b3 := bi.out.jh
    by_cases hij : i < j
    · obtain ⟨q, hq⟩ : ∃ q, q = (i + j) / 2 := ⟨_, rfl⟩
      have eq : ((i : Int) + (j : Int)) / 2 = (q : Int) := by omega
      have q1 : i ≤ q := by omega
      have q2 : q < j := by omega
      have RT := Lib.hid (show ltC cf (f (nn - 1 - q)) (f q) = false → Bin (fun c => ltC cf (f (nn - 1 - c)) (f c)) lo mid (q + 1) j from fun h => bi.out.right MO.out q1 q2 h)
      have LF := Lib.hid (show ltC cf (f (nn - 1 - q)) (f q) = true → Bin (fun c => ltC cf (f (nn - 1 - c)) (f c)) lo mid i q from fun h => bi.out.left MO.out q1 q2 h)
      have hA : nn - 1 - q < N := by omega
      have hB : q < N := by omega
      have w5 := wrapS (x := nn - 1) (y := q) (by omega) (by omega)
      have w5a : ((nn : Int) - 1 - (q : Int)) = ((nn - 1 - q : Nat) : Int) := by omega
      have w5b : IntKind.i64.wrap ((nn : Int) - 1 - (q : Int)) = ((nn - 1 - q : Nat) : Int) := by rw [w5a, ← w5]; congr 1; omega
      have OA := Lib.hid (hr.out.ok hA)
      have OB := Lib.hid (hr.out.ok hB)
      obtain ⟨a0, a1, _⟩ := hr.out.cell hA
      obtain ⟨b0, b1', _⟩ := hr.out.cell hB
      generalize f (nn - 1 - q) = xa at *
      generalize f q = xb at *
      generalize nn - 1 - q = A at *
      clear w5a
      have ia : (A : Int) < (N : Int) := by omega
      have ib : (q : Int) < (N : Int) := by omega
      clear hq
      go_wp2_with fail
      clear eq
      refine wp_region_chain 14 [11] (fun w' => w'.cell? ⟨g, A * 2, none⟩ = some (.int .i64 xa.1) ∧ w'.cell? ⟨g, A * 2 + 1, none⟩ = some (.int .i64 xa.2) ∧ w'.cell? ⟨g, q * 2, none⟩ = some (.int .i64 xb.1) ∧ w'.cell? ⟨g, q * 2 + 1, none⟩ = some (.int .i64 xb.2)) (by kernel_rfl) (by kernel_rfl) ?_ ?_
      · exact ⟨a0, a1, b0, b1'⟩
      refine SeqW.out ?_
      simp only [List.take_succ_cons, List.take_zero, List.drop_succ_cons, List.drop_zero]
      have kd := (Kept.refl Noneof wr).drew
      replace hr := Lib.hid (hr.out.kept kd fun h => h)
      replace hi' := Lib.hid (CC.out.drew hi'.out)
      replace kw := Lib.hid (kw.out.drew)
      replace a0 := kd.cell (fun h => h) a0
      replace a1 := kd.cell (fun h => h) a1
      replace b0 := kd.cell (fun h => h) b0
      replace b1' := kd.cell (fun h => h) b1'
      generalize wr.drew = wd at *
      clear kd
      iterate 11 (refine SeqW.val (v := ?_) (by rfl) (by rfl) (fun wx hSw => ?_) ?_; rotate_left; (focus ((try dsimp only at hSw); go_simp; (try with_reducible rfl))); (try simp only [Act.put, List.setIfInBounds_toArray, List.set_cons_zero, List.set_cons_succ]))
      refine SeqW.act (by rfl) rfl (by rfl) (by rfl) (fun K hK => ?_)
      go_simp
      refine (CC.out.cmp wd xa xb hi'.out OA.out OB.out).mono ?_
      rintro e we ⟨rfl, hie, ke⟩
      have hrw := CC.out.row
      refine hK.out _ _ ⟨ke.cell hrw a0, ke.cell hrw a1, ke.cell hrw b0, ke.cell hrw b1'⟩ ?_
      replace hr := Lib.hid (hr.out.kept ke hrw)
      replace hi' := Lib.hid hie
      replace kw := Lib.hid (kw.out.orx ke)
      clear K hK ke hie hrw a0 a1 b0 b1'
      (try simp only [Act.put, List.setIfInBounds_toArray, List.set_cons_zero, List.set_cons_succ])
      cases hz : decide (cf xa xb < 0)
      · have BB := Lib.hid (RT.out hz)
        generalize cf xa xb = z at *
        (refine SeqW.val (v := ?_) (by rfl) (by rfl) (fun wx hSw => ?_) ?_; rotate_left; (focus ((try dsimp only at hSw); go_simp; (try with_reducible rfl))); (try simp only [Act.put, List.setIfInBounds_toArray, List.set_cons_zero, List.set_cons_succ]))
        (refine SeqW.val (v := ?_) (by rfl) (by rfl) (fun wx hSw => ?_) ?_; rotate_left; (focus ((try dsimp only at hSw); go_simp; (try with_reducible rfl))); (try simp only [Act.put, List.setIfInBounds_toArray, List.set_cons_zero, List.set_cons_succ]))
        refine SeqW.nil ?_
        clear RT LF bi w5
        go_wp2
        go_roundw
        case rel => exact ⟨q + 1, j, by go_num, rfl, BB, hr, hi', kw⟩
        case measure => simp [intOf]; omega
      · have BB := Lib.hid (LF.out hz)
        generalize cf xa xb = z at *
        (refine SeqW.val (v := ?_) (by rfl) (by rfl) (fun wx hSw => ?_) ?_; rotate_left; (focus ((try dsimp only at hSw); go_simp; (try with_reducible rfl))); (try simp only [Act.put, List.setIfInBounds_toArray, List.set_cons_zero, List.set_cons_succ]))
        (refine SeqW.val (v := ?_) (by rfl) (by rfl) (fun wx hSw => ?_) ?_; rotate_left; (focus ((try dsimp only at hSw); go_simp; (try with_reducible rfl))); (try simp only [Act.put, List.setIfInBounds_toArray, List.set_cons_zero, List.set_cons_succ]))
        refine SeqW.nil ?_
        clear RT LF bi w5
        go_wp2
        go_roundw
        case rel => exact ⟨i, q, rfl, rfl, BB, hr, hi', kw⟩
        case measure => simp [intOf]; omega
    · obtain rfl : i = j := by omega
      have w6 := wrapS (x := nn) (y := i) (by omega) (by omega)
      have OO := Lib.hid (show Halves (ltC cf) plN (rot f i m (nn - i)) a i mid (nn - i) b ∧ i ≤ m ∧ m ≤ nn - i ∧ nn - i ≤ b ∧ i ≤ mid ∧ mid ≤ nn - i ∧ a ≤ i ∧ a < mid ∧ mid < b by
        have hb' := bi.out
        obtain ⟨z1, z2, z3, z4, z5, z6, z7, z8⟩ := EQ.out
        have hh := halves (s := i) (lo := lo) (hi := mid) CC.out.swo HL.out HR.out HX.out (by omega) (by omega) (by omega) (by omega) (by rw [← z1, ← z2]; exact hb') (by omega) (by omega) (by omega) (by omega)
        rw [← z1, ← z2] at hh
        exact ⟨hh, by omega, by omega, by omega, by omega, by omega, by omega, by omega, by omega⟩)
      obtain ⟨HH, o1, o2, o3, o4, o5, o6, o7, o8⟩ := OO.out
      replace HH := Lib.hid HH
      generalize nn - i = e at *
      clear bi hij b2 b1 b3 MO OO EQ HL HR HX H HI f1 f2 f3 f4 f5
      rcases (show (i < m ∧ m < e) ∨ ¬ i < m ∨ (i < m ∧ ¬ m < e) by omega) with ⟨r1, r2⟩ | r1 | ⟨r1, r2⟩
      focus
        have r1' : (i : Int) < (m : Int) := by omega
        have r2' : (m : Int) < (e : Int) := by omega
        go_wp2_with fail
        refine (rotate_calls hr.out r1 r2 (by omega) hN).mono ?_
        rintro er w1 ⟨rfl, p1, s1, k1⟩
        have q1 := Lib.hid (CC.out.stay _ _ hi'.out k1)
        replace p1 := Lib.hid p1
        replace k1 := Lib.hid (kw.out.org k1)
        replace s1 := Lib.hid (s1.mono (a' := a) (b' := b) (by omega) (by omega))
        generalize rot f i m e = ff at *
        clear hr hi' kw r1' r2' w6 r1 r2
      rotate_left
      focus
        have r1' : ¬ (i : Int) < (m : Int) := by omega
        rw [rot_same0 f (by omega) o1 o2] at HH
        have s1 : Hid (Sw a b f f) := Lib.hid .refl
        have p1 := hr
        have q1 := hi'
        have k1 := kw
        clear hr hi' kw
      rotate_left
      focus
        have r1' : (i : Int) < (m : Int) := by omega
        have r2' : ¬ (m : Int) < (e : Int) := by omega
        rw [rot_same0 f (by omega) o1 o2] at HH
        have s1 : Hid (Sw a b f f) := Lib.hid .refl
        have p1 := hr
        have q1 := hi'
        have k1 := kw
        clear hr hi' kw
      rotate_left
      all_goals
        rcases (show (a < i ∧ i < mid) ∨ ¬ a < i ∨ (a < i ∧ ¬ i < mid) by omega) with ⟨r3, r4⟩ | r3 | ⟨r3, r4⟩
        focus
          have r3' : (a : Int) < (i : Int) := by omega
          have r4' : (i : Int) < (mid : Int) := by omega
          go_wp2_with fail
          refine (IH.out a i mid r3 r4 (by omega) (by omega) _ _ p1.out q1.out HH.out.l1 HH.out.r1 HH.out.x1).mono ?_
          rintro er w2 ⟨rfl, fg, p2, s2, t2, q2, k2⟩
          replace p2 := Lib.hid p2
          replace s2 := Lib.hid s2
          replace t2 := Lib.hid t2
          replace q2 := Lib.hid q2
          replace k2 := Lib.hid (k1.out.trans k2 fun _ h => .inl h)
          clear p1 q1 k1 r3 r4 r3' r4'
          try clear w6
          try clear r1 r1'
          try clear r2 r2'
        rotate_left
        focus
          have r3' : ¬ (a : Int) < (i : Int) := by omega
          have s2 := Lib.hid (s1.out.stop (a' := a) (b' := mid))
          have t2 := Lib.hid (HH.out.r1.sub (a' := a) (b' := mid) (by omega) (by omega))
          have p2 := p1
          have q2 := q1
          have k2 := k1
          clear p1 q1 k1
        rotate_left
        focus
          have r3' : (a : Int) < (i : Int) := by omega
          have r4' : ¬ (i : Int) < (mid : Int) := by omega
          have s2 := Lib.hid (s1.out.stop (a' := a) (b' := mid))
          have t2 := Lib.hid (HH.out.l1.sub (a' := a) (b' := mid) (by omega) (by omega))
          have p2 := p1
          have q2 := q1
          have k2 := k1
          clear p1 q1 k1
        rotate_left
        all_goals
          rcases (show (mid < e ∧ e < b) ∨ ¬ mid < e ∨ (mid < e ∧ ¬ e < b) by omega) with ⟨r5, r6⟩ | r5 | ⟨r5, r6⟩
          focus
            have r5' : (mid : Int) < (e : Int) := by omega
            have r6' : (e : Int) < (b : Int) := by omega
            have y1 := Lib.hid (HH.out.l2.congr fun k _ _ => s2.out.out k (.inr (by omega)))
            have y2 := Lib.hid (HH.out.r2.congr fun k _ _ => s2.out.out k (.inr (by omega)))
            have y3 := Lib.hid (HH.out.x2.congr (fun k _ => s2.out.out k (.inr (by omega))))
            go_wp2_with fail
            refine (IH.out mid e b r5 r6 (by omega) (by omega) _ _ p2.out q2.out y1.out y2.out y3.out).mono ?_
            rintro er w3 ⟨rfl, fh, p3, s3, t3, q3, k3⟩
            replace p3 := Lib.hid p3
            replace t3 := Lib.hid (HH.out.join s2.out t2.out s3 t3)
            replace s3 := Lib.hid (s1.out.trans ((s2.out.mono (by omega) (by omega)).trans (s3.mono (by omega) (by omega))))
            replace q3 := Lib.hid q3
            replace k3 := Lib.hid (k2.out.trans k3 fun _ h => .inl h)
            clear HH IH
            go_wp2
            go_end0
            exact ⟨rfl, _, p3.out, s3.out, t3.out, q3.out, k3.out⟩
          focus
            have r5' : ¬ (mid : Int) < (e : Int) := by omega
            have y2 := HH.out.r2.congr fun k _ _ => s2.out.out k (.inr (by omega))
            have t3 := Lib.hid (HH.out.join s2.out t2.out .refl (y2.sub (by omega) (by omega)))
            have s3 := Lib.hid (s1.out.trans (s2.out.mono (by omega) (by omega)))
            clear HH IH y2
            go_wp2
            go_end0
            exact ⟨rfl, _, p2.out, s3.out, t3.out, q2.out, k2.out⟩
          focus
            have r5' : (mid : Int) < (e : Int) := by omega
            have r6' : ¬ (e : Int) < (b : Int) := by omega
            have y2 := HH.out.l2.congr fun k _ _ => s2.out.out k (.inr (by omega))
            have t3 := Lib.hid (HH.out.join s2.out t2.out .refl (y2.sub (by omega) (by omega)))
            have s3 := Lib.hid (s1.out.trans (s2.out.mono (by omega) (by omega)))
            clear HH IH y2
            go_wp2
            go_end0
            exact ⟨rfl, _, p2.out, s3.out, t3.out, q2.out, k2.out⟩)
  · have hgt' : ¬ (mid : Int) < (m : Int) := by omega
    have MO := Lib.hid (show Mono (fun c => ltC cf (f (nn - 1 - c)) (f c)) a m from mono3 CC.out.swo HL.out HR.out (by omega) (by omega) (by omega) (by omega))
    have hlh : a ≤ m := by omega
    have EQ := Lib.hid (show mid = (a + b) / 2 ∧ nn = mid + m ∧ (a = a ∨ a + b = mid + m) ∧ (m = m ∨ m = mid) ∧ m ≤ m ∧ m ≤ mid ∧ a ≤ a ∧ m + mid ≤ b + a by omega)
    have f1 : 1 ≤ nn := by omega
    have f2 : nn ≤ 2000000000 := by omega
    have f3 : nn ≤ b + a := by omega
    have f4 : m + 1 ≤ nn := by omega
    have f5 : m ≤ N := by omega
    clear hmid hnn
    go_enter Try.func180, Try.ntmps180
    go_wp2_with fail
    clear e0 e1 ne ne1 emid en hgt'
    (
    have p1 : IntKind.i64.wrap ((nn : Int) - 1) = ((nn - 1 : Nat) : Int) := wrapS (x := nn) (y := 1) (by omega) (by omega)
    go_wp2
    clear p1
    go_loopw [20, 21] (fun vi vj wr => ∃ i j : Nat, vi = .int .i64 i ∧ vj = .int .i64 j ∧ Hid (Bin (fun c => ltC cf (f (nn - 1 - c)) (f c)) a m i j) ∧ Hid (PlRow wr g N f) ∧ Hid (I wr) ∧ Hid (Kept (OrX g X) w wr)) (fun vi vj _ => (intOf vj).toNat - (intOf vi).toNat)
    case atStart => exact ⟨a, m, rfl, rfl, Lib.hid (Bin.start hlh), H, HI, Lib.hid (Kept.refl _ _)⟩
    obtain ⟨i, j, rfl, rfl, bi, hr, hi', kw⟩ := hrel
    have b1 := bi.out.li
    have b2 := bi.out.ij
    have b3 := bi.out.jh
    by_cases hij : i < j
    · obtain ⟨q, hq⟩ : ∃ q, q = (i + j) / 2 := ⟨_, rfl⟩
      have eq : ((i : Int) + (j : Int)) / 2 = (q : Int) := by omega
      have q1 : i ≤ q := by omega
      have q2 : q < j := by omega
      have RT := Lib.hid (show ltC cf (f (nn - 1 - q)) (f q) = false → Bin (fun c => ltC cf (f (nn - 1 - c)) (f c)) a m (q + 1) j from fun h => bi.out.right MO.out q1 q2 h)
      have LF := Lib.hid (show ltC cf (f (nn - 1 - q)) (f q) = true → Bin (fun c => ltC cf (f (nn - 1 - c)) (f c)) a m i q from fun h => bi.out.left MO.out q1 q2 h)
      have hA : nn - 1 - q < N := by omega
      have hB : q < N := by omega
      have w5 := wrapS (x := nn - 1) (y := q) (by omega) (by omega)
      have w5a : ((nn : Int) - 1 - (q : Int)) = ((nn - 1 - q : Nat) : Int) := by omega
      have w5b : IntKind.i64.wrap ((nn : Int) - 1 - (q : Int)) = ((nn - 1 - q : Nat) : Int) := by rw [w5a, ← w5]; congr 1; omega
      have OA := Lib.hid (hr.out.ok hA)
      have OB := Lib.hid (hr.out.ok hB)
      obtain ⟨a0, a1, _⟩ := hr.out.cell hA
      obtain ⟨b0, b1', _⟩ := hr.out.cell hB
      generalize f (nn - 1 - q) = xa at *
      generalize f q = xb at *
      generalize nn - 1 - q = A at *
      clear w5a
      have ia : (A : Int) < (N : Int) := by omega
      have ib : (q : Int) < (N : Int) := by omega
      clear hq
      go_wp2_with fail
      clear eq
      refine wp_region_chain 14 [11] (fun w' => w'.cell? ⟨g, A * 2, none⟩ = some (.int .i64 xa.1) ∧ w'.cell? ⟨g, A * 2 + 1, none⟩ = some (.int .i64 xa.2) ∧ w'.cell? ⟨g, q * 2, none⟩ = some (.int .i64 xb.1) ∧ w'.cell? ⟨g, q * 2 + 1, none⟩ = some (.int .i64 xb.2)) (by kernel_rfl) (by kernel_rfl) ?_ ?_
      · exact ⟨a0, a1, b0, b1'⟩
      refine SeqW.out ?_
      simp only [List.take_succ_cons, List.take_zero, List.drop_succ_cons, List.drop_zero]
      have kd := (Kept.refl Noneof wr).drew
      replace hr := Lib.hid (hr.out.kept kd fun h => h)
      replace hi' := Lib.hid (CC.out.drew hi'.out)
      replace kw := Lib.hid (kw.out.drew)
      replace a0 := kd.cell (fun h => h) a0
      replace a1 := kd.cell (fun h => h) a1
      replace b0 := kd.cell (fun h => h) b0
      replace b1' := kd.cell (fun h => h) b1'
      generalize wr.drew = wd at *
      clear kd
      iterate 11 (refine SeqW.val (v := ?_) (by rfl) (by rfl) (fun wx hSw => ?_) ?_; rotate_left; (focus ((try dsimp only at hSw); go_simp; (try with_reducible rfl))); (try simp only [Act.put, List.setIfInBounds_toArray, List.set_cons_zero, List.set_cons_succ]))
      refine SeqW.act (by rfl) rfl (by rfl) (by rfl) (fun K hK => ?_)
      go_simp
      refine (CC.out.cmp wd xa xb hi'.out OA.out OB.out).mono ?_
      rintro e we ⟨rfl, hie, ke⟩
      have hrw := CC.out.row
      refine hK.out _ _ ⟨ke.cell hrw a0, ke.cell hrw a1, ke.cell hrw b0, ke.cell hrw b1'⟩ ?_
      replace hr := Lib.hid (hr.out.kept ke hrw)
      replace hi' := Lib.hid hie
      replace kw := Lib.hid (kw.out.orx ke)
      clear K hK ke hie hrw a0 a1 b0 b1'
      (try simp only [Act.put, List.setIfInBounds_toArray, List.set_cons_zero, List.set_cons_succ])
      cases hz : decide (cf xa xb < 0)
      · have BB := Lib.hid (RT.out hz)
        generalize cf xa xb = z at *
        (refine SeqW.val (v := ?_) (by rfl) (by rfl) (fun wx hSw => ?_) ?_; rotate_left; (focus ((try dsimp only at hSw); go_simp; (try with_reducible rfl))); (try simp only [Act.put, List.setIfInBounds_toArray, List.set_cons_zero, List.set_cons_succ]))
        (refine SeqW.val (v := ?_) (by rfl) (by rfl) (fun wx hSw => ?_) ?_; rotate_left; (focus ((try dsimp only at hSw); go_simp; (try with_reducible rfl))); (try simp only [Act.put, List.setIfInBounds_toArray, List.set_cons_zero, List.set_cons_succ]))
        refine SeqW.nil ?_
        clear RT LF bi w5
        go_wp2
        go_roundw
        case rel => exact ⟨q + 1, j, by go_num, rfl, BB, hr, hi', kw⟩
        case measure => simp [intOf]; omega
      · have BB := Lib.hid (LF.out hz)
        generalize cf xa xb = z at *
        (refine SeqW.val (v := ?_) (by rfl) (by rfl) (fun wx hSw => ?_) ?_; rotate_left; (focus ((try dsimp only at hSw); go_simp; (try with_reducible rfl))); (try simp only [Act.put, List.setIfInBounds_toArray, List.set_cons_zero, List.set_cons_succ]))
        (refine SeqW.val (v := ?_) (by rfl) (by rfl) (fun wx hSw => ?_) ?_; rotate_left; (focus ((try dsimp only at hSw); go_simp; (try with_reducible rfl))); (try simp only [Act.put, List.setIfInBounds_toArray, List.set_cons_zero, List.set_cons_succ]))
        refine SeqW.nil ?_
        clear RT LF bi w5
        go_wp2
        go_roundw
        case rel => exact ⟨i, q, rfl, rfl, BB, hr, hi', kw⟩
        case measure => simp [intOf]; omega
    · obtain rfl : i = j := by omega
      have w6 := wrapS (x := nn) (y := i) (by omega) (by omega)
      have OO := Lib.hid (show Halves (ltC cf) plN (rot f i m (nn - i)) a i mid (nn - i) b ∧ i ≤ m ∧ m ≤ nn - i ∧ nn - i ≤ b ∧ i ≤ mid ∧ mid ≤ nn - i ∧ a ≤ i ∧ a < mid ∧ mid < b by
        have hb' := bi.out
        obtain ⟨z1, z2, z3, z4, z5, z6, z7, z8⟩ := EQ.out
        have hh := halves (s := i) (lo := a) (hi := m) CC.out.swo HL.out HR.out HX.out (by omega) (by omega) (by omega) (by omega) (by rw [← z1, ← z2]; exact hb') (by omega) (by omega) (by omega) (by omega)
        rw [← z1, ← z2] at hh
        exact ⟨hh, by omega, by omega, by omega, by omega, by omega, by omega, by omega, by omega⟩)
      obtain ⟨HH, o1, o2, o3, o4, o5, o6, o7, o8⟩ := OO.out
      replace HH := Lib.hid HH
      generalize nn - i = e at *
      clear bi hij b2 b1 b3 MO OO EQ HL HR HX H HI f1 f2 f3 f4 f5
      rcases (show (i < m ∧ m < e) ∨ ¬ i < m ∨ (i < m ∧ ¬ m < e) by omega) with ⟨r1, r2⟩ | r1 | ⟨r1, r2⟩
      focus
        have r1' : (i : Int) < (m : Int) := by omega
        have r2' : (m : Int) < (e : Int) := by omega
        go_wp2_with fail
        refine (rotate_calls hr.out r1 r2 (by omega) hN).mono ?_
        rintro er w1 ⟨rfl, p1, s1, k1⟩
        have q1 := Lib.hid (CC.out.stay _ _ hi'.out k1)
        replace p1 := Lib.hid p1
        replace k1 := Lib.hid (kw.out.org k1)
        replace s1 := Lib.hid (s1.mono (a' := a) (b' := b) (by omega) (by omega))
        generalize rot f i m e = ff at *
        clear hr hi' kw r1' r2' w6 r1 r2
      rotate_left
      focus
        have r1' : ¬ (i : Int) < (m : Int) := by omega
        rw [rot_same0 f (by omega) o1 o2] at HH
        have s1 : Hid (Sw a b f f) := Lib.hid .refl
        have p1 := hr
        have q1 := hi'
        have k1 := kw
        clear hr hi' kw
      rotate_left
      focus
        have r1' : (i : Int) < (m : Int) := by omega
        have r2' : ¬ (m : Int) < (e : Int) := by omega
        rw [rot_same0 f (by omega) o1 o2] at HH
        have s1 : Hid (Sw a b f f) := Lib.hid .refl
        have p1 := hr
        have q1 := hi'
        have k1 := kw
        clear hr hi' kw
      rotate_left
      all_goals
        rcases (show (a < i ∧ i < mid) ∨ ¬ a < i ∨ (a < i ∧ ¬ i < mid) by omega) with ⟨r3, r4⟩ | r3 | ⟨r3, r4⟩
        focus
          have r3' : (a : Int) < (i : Int) := by omega
          have r4' : (i : Int) < (mid : Int) := by omega
          go_wp2_with fail
          refine (IH.out a i mid r3 r4 (by omega) (by omega) _ _ p1.out q1.out HH.out.l1 HH.out.r1 HH.out.x1).mono ?_
          rintro er w2 ⟨rfl, fg, p2, s2, t2, q2, k2⟩
          replace p2 := Lib.hid p2
          replace s2 := Lib.hid s2
          replace t2 := Lib.hid t2
          replace q2 := Lib.hid q2
          replace k2 := Lib.hid (k1.out.trans k2 fun _ h => .inl h)
          clear p1 q1 k1 r3 r4 r3' r4'
          try clear w6
          try clear r1 r1'
          try clear r2 r2'
        rotate_left
        focus
          have r3' : ¬ (a : Int) < (i : Int) := by omega
          have s2 := Lib.hid (s1.out.stop (a' := a) (b' := mid))
          have t2 := Lib.hid (HH.out.r1.sub (a' := a) (b' := mid) (by omega) (by omega))
          have p2 := p1
          have q2 := q1
          have k2 := k1
          clear p1 q1 k1
        rotate_left
        focus
          have r3' : (a : Int) < (i : Int) := by omega
          have r4' : ¬ (i : Int) < (mid : Int) := by omega
          have s2 := Lib.hid (s1.out.stop (a' := a) (b' := mid))
          have t2 := Lib.hid (HH.out.l1.sub (a' := a) (b' := mid) (by omega) (by omega))
          have p2 := p1
          have q2 := q1
          have k2 := k1
          clear p1 q1 k1
        rotate_left
        all_goals
          rcases (show (mid < e ∧ e < b) ∨ ¬ mid < e ∨ (mid < e ∧ ¬ e < b) by omega) with ⟨r5, r6⟩ | r5 | ⟨r5, r6⟩
          focus
            have r5' : (mid : Int) < (e : Int) := by omega
            have r6' : (e : Int) < (b : Int) := by omega
            have y1 := Lib.hid (HH.out.l2.congr fun k _ _ => s2.out.out k (.inr (by omega)))
            have y2 := Lib.hid (HH.out.r2.congr fun k _ _ => s2.out.out k (.inr (by omega)))
            have y3 := Lib.hid (HH.out.x2.congr (fun k _ => s2.out.out k (.inr (by omega))))
            go_wp2_with fail
            refine (IH.out mid e b r5 r6 (by omega) (by omega) _ _ p2.out q2.out y1.out y2.out y3.out).mono ?_
            rintro er w3 ⟨rfl, fh, p3, s3, t3, q3, k3⟩
            replace p3 := Lib.hid p3
            replace t3 := Lib.hid (HH.out.join s2.out t2.out s3 t3)
            replace s3 := Lib.hid (s1.out.trans ((s2.out.mono (by omega) (by omega)).trans (s3.mono (by omega) (by omega))))
            replace q3 := Lib.hid q3
            replace k3 := Lib.hid (k2.out.trans k3 fun _ h => .inl h)
            clear HH IH
            go_wp2
            go_end0
            exact ⟨rfl, _, p3.out, s3.out, t3.out, q3.out, k3.out⟩
          focus
            have r5' : ¬ (mid : Int) < (e : Int) := by omega
            have y2 := HH.out.r2.congr fun k _ _ => s2.out.out k (.inr (by omega))
            have t3 := Lib.hid (HH.out.join s2.out t2.out .refl (y2.sub (by omega) (by omega)))
            have s3 := Lib.hid (s1.out.trans (s2.out.mono (by omega) (by omega)))
            clear HH IH y2
            go_wp2
            go_end0
            exact ⟨rfl, _, p2.out, s3.out, t3.out, q2.out, k2.out⟩
          focus
            have r5' : (mid : Int) < (e : Int) := by omega
            have r6' : ¬ (e : Int) < (b : Int) := by omega
            have y2 := HH.out.l2.congr fun k _ _ => s2.out.out k (.inr (by omega))
            have t3 := Lib.hid (HH.out.join s2.out t2.out .refl (y2.sub (by omega) (by omega)))
            have s3 := Lib.hid (s1.out.trans (s2.out.mono (by omega) (by omega)))
            clear HH IH y2
            go_wp2
            go_end0
            exact ⟨rfl, _, p2.out, s3.out, t3.out, q2.out, k2.out⟩)
end Go.Proofs.Ytaopjdjbpamhhaa
/- Proved: contract of the standard library's SymMerge at every length. Conditions: rows in memory; the comparison answers as a plain function, and leaves the row. -/
namespace Go.Proofs.Ytaopjdjbpamhhaa
open Go Go.RowKit
set_option linter.unusedVariables false
set_option linter.unusedSimpArgs false
theorem symMerge_fuel {g c N fid : Nat} {cb : Array Value} {cf : Int × Int → Int × Int → Int} {I : World → Prop} {X : Nat → Prop} (C : CmpOk fid cb g N cf I X) (hN : N ≤ 1000000000) :
    ∀ d a m b, b - a ≤ d → a < m → m < b → b ≤ N → MergeAt fid cb g c N cf I X a m b := by
  intro d
  induction d with
  | zero => intro a m b h h1 h2; omega
  | succ d ih =>
    intro a m b h h1 h2 h3 w f hr hI hl hrr hx
    by_cases k1 : m = a + 1
    · exact symMerge_one C hr hI k1 h2 h3 hN hrr hx
    · by_cases k2 : b = m + 1
      · exact symMerge_last C hr hI k2 (by omega) h3 hN hl hx
      · exact symMerge_big C hr hI (by omega) (by omega) h3 hN hl hrr hx fun a' m' b' g1 g2 g3 g4 => ih a' m' b' (by omega) g1 g2 g3

/-- SymMerge of two neighbouring runs that are in order is in order. -/
theorem symMerge_calls {w : World} {g c N a m b fid : Nat} {cb : Array Value} {f : Nat → Int × Int} {cf : Int × Int → Int × Int → Int} {I : World → Prop} {X : Nat → Prop} (C : CmpOk fid cb g N cf I X) (h : PlRow w g N f) (hI : I w) (ham : a < m) (hmb : m < b) (hb : b ≤ N) (hN : N ≤ 1000000000)
    (hl : Srt' (ltC cf) plN f a m) (hr : Srt' (ltC cf) plN f m b) (hx : Cross plN f a m b) :
    Calls Try.prog 180 #[.slice (some ⟨g, 0, none⟩) N c, .int .i64 a, .int .i64 m, .int .i64 b, .func (.func fid) #[] cb] w fun e w' => e = .returned (.tuple #[]) ∧ ∃ f', PlRow w' g N f' ∧ Sw a b f f' ∧ Srt' (ltC cf) plN f' a b ∧ I w' ∧ Kept (OrX g X) w w' :=
  symMerge_fuel C hN (b - a) a m b (Nat.le_refl _) ham hmb hb w f h hI hl hr hx
end Go.Proofs.Ytaopjdjbpamhhaa
/- Proved: plain: the passes of Go's stable sort: blocks of one length in order, and twice that length after a pass. Conditions: none. -/
namespace Go.Proofs.Ytaopjdjbpamhhaa
set_option linter.unusedVariables false
set_option linter.unusedSimpArgs false
variable {α : Type} {lt : α → α → Bool} {ix : α → Nat}
/-- What stands at the places under a is in order in blocks of `2 * s`, the rest in blocks of s; between blocks the numbers rise. -/
structure Pass (lt : α → α → Bool) (ix : α → Nat) (f : Nat → α) (n s a : Nat) : Prop where
  done : ∀ i j, i < j → j < a → j < n → i / (2 * s) = j / (2 * s) → Lt' lt ix (f i) (f j)
  rest : ∀ i j, i < j → a ≤ i → j < n → i / s = j / s → Lt' lt ix (f i) (f j)
  upD : ∀ i j, i < j → j < a → j < n → i / (2 * s) < j / (2 * s) → ix (f i) < ix (f j)
  upR : ∀ i j, i < j → a ≤ i → j < n → i / s < j / s → ix (f i) < ix (f j)
  upX : ∀ i j, i < a → a ≤ j → j < n → ix (f i) < ix (f j)
/-- Blocks of s are in order, and between blocks the numbers rise. -/
structure Blocks (lt : α → α → Bool) (ix : α → Nat) (f : Nat → α) (n s : Nat) : Prop where
  blk : ∀ i j, i < j → j < n → i / s = j / s → Lt' lt ix (f i) (f j)
  up : ∀ i j, i < j → j < n → i / s < j / s → ix (f i) < ix (f j)
theorem Blocks.start {f : Nat → α} {n s : Nat} (h : Blocks lt ix f n s) : Pass lt ix f n s 0 :=
  ⟨fun _ _ _ h => by omega, fun i j h1 _ h2 h3 => h.blk i j h1 h2 h3, fun _ _ _ h => by omega, fun i j h1 _ h2 h3 => h.up i j h1 h2 h3, fun _ _ h => by omega⟩
theorem Pass.stop {f : Nat → α} {n s : Nat} (h : Pass lt ix f n s n) : Blocks lt ix f n (2 * s) :=
  ⟨fun i j h1 h2 h3 => h.done i j h1 h2 h2 h3, fun i j h1 h2 h3 => h.upD i j h1 h2 h2 h3⟩
theorem Blocks.all {f : Nat → α} {n s : Nat} (h : Blocks lt ix f n s) (hn : n ≤ s) : Srt' lt ix f 0 n := fun i j _ h2 h3 =>
  h.blk i j h2 h3 (by rw [Nat.div_eq_of_lt (by omega), Nat.div_eq_of_lt (by omega)])
theorem div_at {s k i : Nat} (h : k * s ≤ i) (h' : i < k * s + s) : i / s = k :=
  Nat.div_eq_of_lt_le h (by rw [Nat.add_mul, Nat.one_mul]; exact h')
theorem div_lo {s k i : Nat} (h : i < k * s) : i / s < k := Nat.div_lt_of_lt_mul (by rw [Nat.mul_comm]; exact h)
theorem div_hi {s k i : Nat} (hs : 0 < s) (h : k * s ≤ i) : k ≤ i / s := (Nat.le_div_iff_mul_le hs).mpr h

theorem Pass.step {f f' : Nat → α} {n s a b k : Nat} (h : Pass lt ix f n s a) (hs : 0 < s) (ha : a = k * (2 * s)) (hab : a ≤ b) (hbn : b ≤ n) (hb : b = a + 2 * s ∨ (b = n ∧ b ≤ a + 2 * s)) (k1 : Sw a b f f') (k2 : Srt' lt ix f' a b) : Pass lt ix f' n s b := by
  have hlo : ∀ i, i < a → i / (2 * s) < k := fun i hi => div_lo (by omega)
  have hhi : ∀ i, a ≤ i → k ≤ i / (2 * s) := fun i hi => div_hi (by omega) (by omega)
  have hin : ∀ i, a ≤ i → i < b → i / (2 * s) = k := fun i h1 h2 => div_at (by omega) (by omega)
  refine ⟨fun i j h1 h2 h3 h4 => ?_, fun i j h1 h2 h3 h4 => ?_, fun i j h1 h2 h3 h4 => ?_, fun i j h1 h2 h3 h4 => ?_, fun i j h1 h2 h3 => ?_⟩
  · by_cases c1 : j < a
    · rw [k1.out i (.inl (by omega)), k1.out j (.inl c1)]; exact h.done i j h1 c1 h3 h4
    · by_cases c2 : a ≤ i
      · exact k2 i j c2 h1 h2
      · have := hlo i (by omega); have := hhi j (by omega); omega
  · rw [k1.out i (.inr h2), k1.out j (.inr (by omega))]; exact h.rest i j h1 (by omega) h3 h4
  · by_cases c1 : j < a
    · rw [k1.out i (.inl (by omega)), k1.out j (.inl c1)]; exact h.upD i j h1 c1 h3 h4
    · by_cases c2 : a ≤ i
      · have := hin i c2 (by omega); have := hin j (by omega) h2; omega
      · obtain ⟨q, q1, q2, q3⟩ := k1.mem j (by omega) h2
        rw [k1.out i (.inl (by omega)), q3]; exact h.upX i q (by omega) q1 (by omega)
  · rw [k1.out i (.inr h2), k1.out j (.inr (by omega))]; exact h.upR i j h1 (by omega) h3 h4
  · rw [k1.out j (.inr h2)]
    by_cases c1 : i < a
    · rw [k1.out i (.inl c1)]; exact h.upX i j c1 (by omega) h3
    · obtain ⟨q, q1, q2, q3⟩ := k1.mem i (by omega) h1
      rw [q3]
      rcases hb with hb | ⟨hb, _⟩
      · have e : b = (2 * k + 2) * s := by rw [hb, ha, Nat.add_mul, Nat.mul_assoc, Nat.mul_left_comm]
        exact h.upR q j (by omega) q1 h3 (Nat.lt_of_lt_of_le (div_lo (by omega)) (div_hi (k := 2 * k + 2) hs (by omega)))
      · omega
theorem Pass.left {f : Nat → α} {n s a b k : Nat} (h : Pass lt ix f n s a) (ha : a = k * (2 * s)) (hb : b ≤ a + s) (hbn : b ≤ n) : Srt' lt ix f a b := fun i j h1 h2 h3 => by
  have e : a = (2 * k) * s := by rw [ha, Nat.mul_assoc, Nat.mul_left_comm]
  exact h.rest i j h2 h1 (by omega) (by rw [div_at (k := 2 * k) (by omega) (by omega), div_at (k := 2 * k) (by omega) (by omega)])
theorem Pass.right {f : Nat → α} {n s a b k : Nat} (h : Pass lt ix f n s a) (ha : a = k * (2 * s)) (hb : b ≤ a + 2 * s) (hbn : b ≤ n) : Srt' lt ix f (a + s) b := fun i j h1 h2 h3 => by
  have e : a + s = (2 * k + 1) * s := by rw [ha, Nat.add_mul, Nat.one_mul, Nat.mul_assoc, Nat.mul_left_comm]
  exact h.rest i j h2 (by omega) (by omega) (by rw [div_at (k := 2 * k + 1) (by omega) (by omega), div_at (k := 2 * k + 1) (by omega) (by omega)])
theorem Pass.cross {f : Nat → α} {n s a b k : Nat} (h : Pass lt ix f n s a) (hs : 0 < s) (ha : a = k * (2 * s)) (hbn : b ≤ n) : Cross ix f a (a + s) b := fun i j h1 h2 h3 h4 => by
  have e : a + s = (2 * k + 1) * s := by rw [ha, Nat.add_mul, Nat.one_mul, Nat.mul_assoc, Nat.mul_left_comm]
  exact h.upR i j (by omega) h1 (by omega) (Nat.lt_of_lt_of_le (div_lo (k := 2 * k + 1) (by omega)) (div_hi hs (by omega)))

/-- Blocks of s under a are in order, the rest stands as it came. -/
structure Inss (lt : α → α → Bool) (ix : α → Nat) (f : Nat → α) (n s a : Nat) : Prop where
  blk : ∀ i j, i < j → j < a → j < n → i / s = j / s → Lt' lt ix (f i) (f j)
  up : ∀ i j, i < j → j < n → i / s < j / s → ix (f i) < ix (f j)
  raw : ∀ i j, a ≤ i → i < j → j < n → ix (f i) < ix (f j)
theorem Inss.start {f : Nat → α} {n s : Nat} (h : ∀ i j, i < j → j < n → ix (f i) < ix (f j)) : Inss lt ix f n s 0 :=
  ⟨fun _ _ _ h => by omega, fun i j h1 h2 _ => h i j h1 h2, fun i j _ h1 h2 => h i j h1 h2⟩
theorem Inss.stop {f : Nat → α} {n s : Nat} (h : Inss lt ix f n s n) : Blocks lt ix f n s := ⟨fun i j h1 h2 h3 => h.blk i j h1 h2 h2 h3, h.up⟩
theorem Inss.step {f f' : Nat → α} {n s a b k : Nat} (h : Inss lt ix f n s a) (hs : 0 < s) (ha : a = k * s) (hab : a ≤ b) (hbn : b ≤ n) (hb : b = a + s ∨ (b = n ∧ b ≤ a + s)) (k1 : Sw a b f f') (k2 : Srt' lt ix f' a b) : Inss lt ix f' n s b := by
  have hlo : ∀ i, i < a → i / s < k := fun i hi => div_lo (by omega)
  have hhi : ∀ i, a ≤ i → k ≤ i / s := fun i hi => div_hi hs (by omega)
  have hin : ∀ i, a ≤ i → i < b → i / s = k := fun i h1 h2 => div_at (by omega) (by omega)
  have hup : ∀ i, b ≤ i → i < n → k + 1 ≤ i / s := fun i h1 h2 => by
    rcases hb with hb | ⟨hb, _⟩
    · exact div_hi hs (by rw [Nat.add_mul, Nat.one_mul]; omega)
    · omega
  refine ⟨fun i j h1 h2 h3 h4 => ?_, fun i j h1 h2 h3 => ?_, fun i j h1 h2 h3 => ?_⟩
  · by_cases c1 : j < a
    · rw [k1.out i (.inl (by omega)), k1.out j (.inl c1)]; exact h.blk i j h1 c1 h3 h4
    · by_cases c2 : a ≤ i
      · exact k2 i j c2 h1 h2
      · have := hlo i (by omega); have := hhi j (by omega); omega
  · have gi : ∃ q, f' i = f q ∧ q < n ∧ q / s = i / s ∧ (i < a ∨ b ≤ i → q = i) ∧ (a ≤ i → i < b → a ≤ q ∧ q < b) := by
      by_cases c : a ≤ i ∧ i < b
      · obtain ⟨q, q1, q2, q3⟩ := k1.mem i c.1 c.2
        exact ⟨q, q3, by omega, by rw [hin q q1 q2, hin i c.1 c.2], by omega, fun _ _ => ⟨q1, q2⟩⟩
      · exact ⟨i, k1.out i (by omega), by omega, rfl, fun _ => rfl, by omega⟩
    have gj : ∃ q, f' j = f q ∧ q < n ∧ q / s = j / s ∧ (j < a ∨ b ≤ j → q = j) ∧ (a ≤ j → j < b → a ≤ q ∧ q < b) := by
      by_cases c : a ≤ j ∧ j < b
      · obtain ⟨q, q1, q2, q3⟩ := k1.mem j c.1 c.2
        exact ⟨q, q3, by omega, by rw [hin q q1 q2, hin j c.1 c.2], by omega, fun _ _ => ⟨q1, q2⟩⟩
      · exact ⟨j, k1.out j (by omega), by omega, rfl, fun _ => rfl, by omega⟩
    obtain ⟨p, p1, p2, p3, _, _⟩ := gi
    obtain ⟨q, q1, q2, q3, _, _⟩ := gj
    rw [p1, q1]
    have hlt : p / s < q / s := by rw [p3, q3]; exact h3
    have hpq : p < q := by
      rcases Nat.lt_or_ge p q with c | c
      · exact c
      · have := Nat.div_le_div_right (c := s) c; omega
    exact h.up p q hpq q2 hlt
  · rw [k1.out i (.inr h1), k1.out j (.inr (by omega))]; exact h.raw i j (by omega) h2 h3
end Go.Proofs.Ytaopjdjbpamhhaa
/- Proved: contract of the standard library's stable sort on rows of places. Conditions: rows in memory, numbers that rise; the comparison answers as a plain function, and leaves the row. -/
namespace Go.Proofs.Ytaopjdjbpamhhaa
open Go Go.RowKit
set_option linter.unusedVariables false
set_option linter.unusedSimpArgs false
set_option maxRecDepth 100000 in
set_option maxHeartbeats 4000000 in
theorem stable_calls {w : World} {g c N fid : Nat} {cb : Array Value} {f : Nat → Int × Int} {cf : Int × Int → Int × Int → Int} {I : World → Prop} {X : Nat → Prop} (C : CmpOk fid cb g N cf I X) (h : PlRow w g N f) (hI : I w) (hN : N ≤ 1000000000)
    (hn : ∀ p q, p < q → q < N → plN (f p) < plN (f q)) :
    Calls Try.prog 150 #[.slice (some ⟨g, 0, none⟩) N c, .int .i64 N, .func (.func fid) #[] cb] w fun e w' => e = .returned (.tuple #[]) ∧ ∃ f', PlRow w' g N f' ∧ Sw 0 N f f' ∧ Srt' (ltC cf) plN f' 0 N ∧ I w' ∧ Kept (OrX g X) w w' := by
  have H := Lib.hid h
  have HI := Lib.hid hI
  have CC := Lib.hid C
  have HN := Lib.hid hn
  have eg := C.enter
  clear h hI C hn
  go_enter Try.func150, Try.ntmps150
  go_wp2
  go_loopw [7, 8] (fun va vb wr => ∃ (a b : Nat) (f1 : Nat → Int × Int), va = .int .i64 a ∧ vb = .int .i64 b ∧ Hid (b = a + 20 ∧ a ≤ N ∧ ∃ k, a = k * 20) ∧ Hid (PlRow wr g N f1) ∧ Hid (Sw 0 N f f1) ∧ Hid (Inss (ltC cf) plN f1 N 20 a) ∧ Hid (I wr) ∧ Hid (Kept (OrX g X) w wr)) (fun va _ _ => N + 1 - (intOf va).toNat)
  case atStart => exact ⟨0, 20, f, rfl, rfl, Lib.hid ⟨rfl, Nat.zero_le _, 0, rfl⟩, H, Lib.hid .refl, Lib.hid (Inss.start HN.out), HI, Lib.hid (Kept.refl _ _)⟩
  clear H HI HN
  obtain ⟨a, b, f1, rfl, rfl, ab, hr, hs, hp, hi, kw⟩ := hrel
  obtain ⟨ab1, ab2, ab3⟩ := ab.out
  by_cases hbn : b ≤ N
  · have hbn' : (b : Int) ≤ (N : Int) := by omega
    have wb : IntKind.i64.wrap ((b : Int) + 20) = ((b + 20 : Nat) : Int) := wrapA (x := b) (y := 20) (by omega) (by omega)
    have NX := Lib.hid (show b + 20 = b + 20 ∧ b ≤ N ∧ ∃ k, b = k * 20 from ⟨rfl, hbn, by obtain ⟨k, hk⟩ := ab3; exact ⟨k + 1, by omega⟩⟩)
    have ms : N + 1 - b < N + 1 - a := by omega
    have AB := Lib.hid ab.out
    generalize hB : b + 20 = B at wb
    replace hB := Lib.hid hB
    clear ab ab1 ab2 ab3
    go_wp2_with fail
    refine (ins_calls CC.out hr.out hi.out (a := a) (b := b) hbn AB.out.2.1 hN fun p q h1 h2 h3 => hp.out.raw p q h1 h2 (by omega)).mono ?_
    rintro er w1 ⟨rfl, f2, p1, s1, t1, q1, k1⟩
    have hp1 := Lib.hid (show Inss (ltC cf) plN f2 N 20 b by
      obtain ⟨e1, e2, k, e3⟩ := AB.out
      exact hp.out.step (by omega) e3 (by omega) hbn (.inl e1) s1 t1)
    replace p1 := Lib.hid p1
    replace s1 := Lib.hid (hs.out.trans (s1.mono (by omega) hbn))
    replace q1 := Lib.hid q1
    replace k1 := Lib.hid (kw.out.trans k1 fun _ h => .inl h)
    clear t1 hr hs hp hi kw hbn' AB
    go_wp2
    go_roundw
    case rel => exact ⟨b, B, f2, rfl, rfl, Lib.hid ⟨hB.out.symm, NX.out.2⟩, p1, s1, hp1, q1, k1⟩
    case measure => simp [intOf]; omega
  · have hbn' : ¬ (b : Int) ≤ (N : Int) := by omega
    have AB := Lib.hid ab.out
    clear ab ab1 ab2 ab3
    go_wp2_with fail
    refine (ins_calls CC.out hr.out hi.out (a := a) (b := N) (Nat.le_refl _) AB.out.2.1 hN fun p q h1 h2 h3 => hp.out.raw p q h1 h2 (by omega)).mono ?_
    rintro er w1 ⟨rfl, f2, p1, s1, t1, q1, k1⟩
    have hp1 := Lib.hid (show Blocks (ltC cf) plN f2 N 20 by
      obtain ⟨e1, e2, k, e3⟩ := AB.out
      exact (hp.out.step (by omega) e3 (by omega) (Nat.le_refl _) (.inr ⟨rfl, by omega⟩) s1 t1).stop)
    replace p1 := Lib.hid p1
    replace s1 := Lib.hid (hs.out.trans (s1.mono (by omega) (Nat.le_refl _)))
    replace q1 := Lib.hid q1
    replace k1 := Lib.hid (kw.out.trans k1 fun _ h => .inl h)
    clear t1 hr hs hp hi kw hbn' AB hbn
    go_wp2
    go_loopw [6] (fun vs wr => ∃ (s : Nat) (f1 : Nat → Int × Int), vs = .int .i64 s ∧ Hid (20 ≤ s ∧ s ≤ 2 * N + 20) ∧ Hid (PlRow wr g N f1) ∧ Hid (Sw 0 N f f1) ∧ Hid (Blocks (ltC cf) plN f1 N s) ∧ Hid (I wr) ∧ Hid (Kept (OrX g X) w wr)) (fun vs _ => N - (intOf vs).toNat)
    case atStart => exact ⟨20, f2, rfl, Lib.hid ⟨Nat.le_refl _, by omega⟩, p1, s1, hp1, q1, k1⟩
    clear p1 s1 hp1 q1 k1
    obtain ⟨s, f3, rfl, ss, hr, hs, hp, hi, kw⟩ := hrel
    obtain ⟨z1, z2⟩ := ss.out
    by_cases hsn : s < N
    · have hsn' : (s : Int) < (N : Int) := by omega
      have wS : IntKind.i64.wrap (2 * (s : Int)) = ((2 * s : Nat) : Int) := by rw [show 2 * (s : Int) = ((2 * s : Nat) : Int) by omega]; exact IntWalk.i64_in _ ⟨by omega, by omega⟩
      have wT : IntKind.i64.wrap ((s : Int) * 2) = ((2 * s : Nat) : Int) := by rw [show (s : Int) * 2 = ((2 * s : Nat) : Int) by omega]; exact IntWalk.i64_in _ ⟨by omega, by omega⟩
      have SS := Lib.hid (show 2 * s ≤ 2 * N + 20 ∧ 20 ≤ 2 * s ∧ N - 2 * s < N - s by omega)
      generalize hS : 2 * s = S at wS wT SS
      replace hS := Lib.hid hS
      clear ss z1 z2
      go_wp2
      go_loopw [7, 8] (fun va vb wx => ∃ (a b : Nat) (f4 : Nat → Int × Int), va = .int .i64 a ∧ vb = .int .i64 b ∧ Hid (b = a + S ∧ a ≤ N ∧ ∃ k, a = k * S) ∧ Hid (PlRow wx g N f4) ∧ Hid (Sw 0 N f f4) ∧ Hid (Pass (ltC cf) plN f4 N s a) ∧ Hid (I wx) ∧ Hid (Kept (OrX g X) w wx)) (fun va _ _ => N + 1 - (intOf va).toNat)
      case atStart => exact ⟨0, S, f3, rfl, rfl, Lib.hid ⟨by omega, Nat.zero_le _, 0, by omega⟩, hr, hs, Lib.hid hp.out.start, hi, kw⟩
      case round =>
        clear hr hs hp hi kw
        obtain ⟨a, b, f4, rfl, rfl, ab, hr, hs, hp, hi, kw⟩ := hrel
        obtain ⟨ab1, ab2, ab3⟩ := ab.out
        have hSS := hS.out
        have hs2 := SS.out
        have wM : IntKind.i64.wrap ((a : Int) + (s : Int)) = ((a + s : Nat) : Int) := wrapA (x := a) (y := s) (by omega) (by omega)
        have AB := Lib.hid (show b = a + 2 * s ∧ a ≤ N ∧ (∃ k, a = k * (2 * s)) ∧ 0 < s from ⟨by omega, ab2, by rw [hSS]; exact ab3, by omega⟩)
        by_cases hbn : b ≤ N
        · have hbn' : (b : Int) ≤ (N : Int) := by omega
          have wb : IntKind.i64.wrap ((b : Int) + (S : Int)) = ((b + S : Nat) : Int) := wrapA (x := b) (y := S) (by omega) (by omega)
          have NX := Lib.hid (show b ≤ N ∧ ∃ k, b = k * S from ⟨hbn, by obtain ⟨k, hk⟩ := ab3; exact ⟨k + 1, by rw [Nat.add_mul, Nat.one_mul]; omega⟩⟩)
          have ms : N + 1 - b < N + 1 - a := by omega
          have m1 : a < a + s := by omega
          have m2 : a + s < b := by omega
          have L1 := Lib.hid (show Srt' (ltC cf) plN f4 a (a + s) from by obtain ⟨_, _, ⟨k, e⟩, _⟩ := AB.out; exact hp.out.left e (Nat.le_refl _) (by omega))
          have R1 := Lib.hid (show Srt' (ltC cf) plN f4 (a + s) b from by obtain ⟨_, _, ⟨k, e⟩, _⟩ := AB.out; exact hp.out.right e (by omega) hbn)
          have X1 := Lib.hid (show Cross plN f4 a (a + s) b from by obtain ⟨_, _, ⟨k, e⟩, _⟩ := AB.out; exact hp.out.cross (by omega) e hbn)
          generalize hB : b + S = B at wb
          replace hB := Lib.hid hB
          generalize a + s = m at *
          clear ab ab1 ab2 ab3 hSS hs2
          go_wp2_with fail
          refine (symMerge_calls CC.out hr.out hi.out m1 m2 hbn hN L1.out R1.out X1.out).mono ?_
          rintro er w2 ⟨rfl, f5, p2, s2, t2, q2, k2⟩
          have hp2 := Lib.hid (show Pass (ltC cf) plN f5 N s b by
            obtain ⟨e1, e2, ⟨k, e3⟩, e4⟩ := AB.out
            exact hp.out.step e4 e3 (by omega) hbn (.inl e1) s2 t2)
          replace p2 := Lib.hid p2
          replace s2 := Lib.hid (hs.out.trans (s2.mono (by omega) hbn))
          replace q2 := Lib.hid q2
          replace k2 := Lib.hid (kw.out.trans k2 fun _ h => .inl h)
          clear t2 hr hs hp hi kw hbn' AB L1 R1 X1 wM m1 m2
          go_wp2
          go_roundw
          case rel => exact ⟨b, B, f5, rfl, rfl, Lib.hid ⟨hB.out.symm, NX.out⟩, p2, s2, hp2, q2, k2⟩
          case measure => simp [intOf]; omega
        · have hbn' : ¬ (b : Int) ≤ (N : Int) := by omega
          rcases Nat.lt_or_ge (a + s) N with hm | hm
          focus
            have m1 : a < a + s := by omega
            have L1 := Lib.hid (show Srt' (ltC cf) plN f4 a (a + s) from by obtain ⟨_, _, ⟨k, e⟩, _⟩ := AB.out; exact hp.out.left e (Nat.le_refl _) (by omega))
            have R1 := Lib.hid (show Srt' (ltC cf) plN f4 (a + s) N from by obtain ⟨_, _, ⟨k, e⟩, _⟩ := AB.out; exact hp.out.right e (by omega) (Nat.le_refl _))
            have X1 := Lib.hid (show Cross plN f4 a (a + s) N from by obtain ⟨_, _, ⟨k, e⟩, _⟩ := AB.out; exact hp.out.cross (by omega) e (Nat.le_refl _))
            generalize a + s = m at *
            have hm' : (m : Int) < (N : Int) := by omega
            clear ab ab1 ab2 ab3 hSS hs2
            go_wp2_with fail
            refine (symMerge_calls CC.out hr.out hi.out m1 hm (Nat.le_refl _) hN L1.out R1.out X1.out).mono ?_
            rintro er w2 ⟨rfl, f5, p2, s2, t2, q2, k2⟩
            have hp2 := Lib.hid (show Blocks (ltC cf) plN f5 N S by
              obtain ⟨e1, e2, ⟨k, e3⟩, e4⟩ := AB.out
              rw [← hS.out]
              exact (hp.out.step e4 e3 (by omega) (Nat.le_refl _) (.inr ⟨rfl, by omega⟩) s2 t2).stop)
            replace p2 := Lib.hid p2
            replace s2 := Lib.hid (hs.out.trans (s2.mono (by omega) (Nat.le_refl _)))
            replace q2 := Lib.hid q2
            replace k2 := Lib.hid (kw.out.trans k2 fun _ h => .inl h)
            clear t2 hr hs hp hi kw hbn' AB L1 R1 X1 wM m1 hm'
          rotate_left
          focus
            have hp2 := Lib.hid (show Blocks (ltC cf) plN f4 N S by
              obtain ⟨e1, e2, ⟨k, e3⟩, e4⟩ := AB.out
              rw [← hS.out]
              exact (hp.out.step e4 e3 e2 (Nat.le_refl _) (.inr ⟨rfl, by omega⟩) .refl (hp.out.left e3 (by omega) (Nat.le_refl _))).stop)
            generalize a + s = m at *
            have hm' : ¬ (m : Int) < (N : Int) := by omega
            have p2 := hr
            have s2 := hs
            have q2 := hi
            have k2 := kw
            clear ab ab1 ab2 ab3 hSS hs2 hr hs hi kw AB
          rotate_left
          all_goals
            clear hsn'
            go_wp2
            go_roundw
            case rel => exact ⟨S, _, rfl, Lib.hid ⟨SS.out.2.1, SS.out.1⟩, p2, s2, hp2, q2, k2⟩
            case measure => have := SS.out; simp [intOf]; omega
    · have hsn' : ¬ (s : Int) < (N : Int) := by omega
      have FIN := Lib.hid (hp.out.all (by omega))
      clear ss z1 z2 hp
      go_wp2
      go_end0
      exact ⟨rfl, _, hr.out, hs.out, FIN.out, hi.out, kw.out⟩
end Go.Proofs.Ytaopjdjbpamhhaa
/- Proved: contract of slices.SortStableFunc on rows of places. Conditions: rows in memory, numbers that rise; the comparison answers as a plain function, and leaves the row. -/
namespace Go.Proofs.Ytaopjdjbpamhhaa
open Go Go.RowKit
set_option linter.unusedVariables false
set_option linter.unusedSimpArgs false
set_option maxRecDepth 100000 in
set_option maxHeartbeats 4000000 in
theorem sortStable_calls {w : World} {g c N fid : Nat} {cb : Array Value} {f : Nat → Int × Int} {cf : Int × Int → Int × Int → Int} {I : World → Prop} {X : Nat → Prop} (C : CmpOk fid cb g N cf I X) (h : PlRow w g N f) (hI : I w) (hN : N ≤ 1000000000)
    (hn : ∀ p q, p < q → q < N → plN (f p) < plN (f q)) :
    Calls Try.prog 97 #[.slice (some ⟨g, 0, none⟩) N c, .func (.func fid) #[] cb] w fun e w' => e = .returned (.tuple #[]) ∧ ∃ f', PlRow w' g N f' ∧ Sw 0 N f f' ∧ Srt' (ltC cf) plN f' 0 N ∧ I w' ∧ Kept (OrX g X) w w' := by
  have H := Lib.hid h
  have HI := Lib.hid hI
  have CC := Lib.hid C
  have HN := Lib.hid hn
  clear h hI C hn
  go_enter Try.func97, Try.ntmps97
  go_wp2_with fail
  refine (stable_calls CC.out H.out HI.out hN HN.out).mono ?_
  rintro er w1 ⟨rfl, f1, p1, s1, t1, q1, k1⟩
  go_wp2
  go_end0
  exact ⟨rfl, f1, p1, s1, t1, q1, k1⟩
end Go.Proofs.Ytaopjdjbpamhhaa
