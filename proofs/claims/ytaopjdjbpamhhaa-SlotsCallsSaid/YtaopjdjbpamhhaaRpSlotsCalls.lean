/- Proved: the law SlotsCalls returns true for all its arguments, and each argument reads afterwards as it read before. No condition beyond the statement's own. -/
import Derived.Test.YtaopjdjbpamhhaaPkK
import Derived.Test.YtaopjdjbpamhhaaPkM
import Derived.Deep.DeepCutAuto
import Derived.Test.YtaopjdjbpamhhaaPkN
import Derived.Test.YtaopjdjbpamhhaaPkA
import Derived.Test.YtaopjdjbpamhhaaRows
import Derived.Test.YtaopjdjbpamhhaaFacts
import Derived.ProofKit
import Derived.OpenShut
import Derived.ShutString
import Derived.ChangeOld
import Derived.ChangeMaps5
import Derived.SizedLaws
import Derived.Carry
/- Proved: contracts of the two closures of the law function SlotsCalls. Conditions: boxes and rows in memory. -/
namespace Go.Proofs.Ytaopjdjbpamhhaa
open Go Go.RowKit
set_option linter.unusedVariables false
set_option linter.unusedSimpArgs false

/-! ### Boxes -/
/-- Block b is a box that holds v. -/
def Bx (b : Nat) (v : Value) (w : World) : Prop := ∃ ty, w.heap[b]? = some (.cells #[v] ty)
theorem Bx.cell {b : Nat} {v : Value} {w : World} (h : Bx b v w) : w.cell? ⟨b, 0, none⟩ = some v := by
  obtain ⟨ty, h⟩ := h
  simp [World.cell?, h]
theorem Bx.frozen {b : Nat} {v : Value} {w : World} (h : Bx b v w) : w.frozen? ⟨b, 0, none⟩ = false := by
  obtain ⟨ty, h⟩ := h
  simp [World.frozen?, h]
theorem Bx.lt {b : Nat} {v : Value} {w : World} (h : Bx b v w) : b < w.heap.size := by
  obtain ⟨ty, h⟩ := h
  exact block_lt h
theorem Bx.kept {b : Nat} {v : Value} {S : Nat → Prop} {w w' : World} (h : Bx b v w) (k : Kept S w w') (hS : ¬ S b) : Bx b v w' := by
  obtain ⟨ty, h⟩ := h
  exact ⟨ty, k.obj hS h⟩
theorem Bx.set {b : Nat} {v : Value} {w : World} (h : Bx b v w) (u : Value) : Bx b u (w.setCell ⟨b, 0, none⟩ u) := by
  obtain ⟨ty, h⟩ := h
  exact ⟨ty, setCell_obj h u⟩
theorem Bx.new (w : World) (v : Value) (ty : TypeId) : Bx w.heap.size v (w.alloc (.cells #[v] ty)) := ⟨ty, heap_alloc_new _ _⟩

/-! ### What the first closure counts -/
/-- After i calls and k rounds of the next one. -/
def seenL (l : List Int) (i k : Nat) : List Int := (List.range l.length).map fun p => (((l.take i).count (l.getD p 0) + if p < k ∧ l.getD p 0 = l.getD i 0 then 1 else 0 : Nat) : Int)
theorem seenL_len (l : List Int) (i k : Nat) : (seenL l i k).length = l.length := by simp [seenL]
theorem seenL_zero (l : List Int) : seenL l 0 0 = List.replicate l.length 0 := by
  refine List.eq_replicate_iff.2 ⟨seenL_len _ _ _, fun x hx => ?_⟩
  obtain ⟨p, _, rfl⟩ := List.mem_map.1 hx
  simp
theorem seenL_next {l : List Int} {i : Nat} (hi : i < l.length) : seenL l i l.length = seenL l (i + 1) 0 := by
  unfold seenL
  refine List.map_congr_left fun p hp => ?_
  have hp := List.mem_range.1 hp
  rw [List.take_add_one, List.getElem?_eq_getElem hi, List.count_append]
  congr 1
  have e : l.getD i 0 = l[i] := by simp [List.getD_eq_getElem?_getD, hi]
  rw [e]
  simp only [Option.toList_some, List.count_cons, List.count_nil, Nat.zero_add, Nat.not_lt_zero, false_and, if_false, Nat.add_zero, hp, true_and]
  generalize l.getD p 0 = y
  generalize l[i] = z
  by_cases h : z = y
  · subst h; simp
  · rw [if_neg fun h' => h h'.symm, if_neg (by simpa using h)]
theorem seenL_at {l : List Int} {i k p : Nat} (hp : p < l.length) : (seenL l i k)[p]'(by rw [seenL_len]; exact hp) = (((l.take i).count l[p] + if p < k ∧ l[p] = l.getD i 0 then 1 else 0 : Nat) : Int) := by
  simp [seenL, List.getD_eq_getElem?_getD, hp]
theorem seenL_miss {l : List Int} {i k : Nat} (hk : k < l.length) (h : ¬ l[k] = l.getD i 0) : seenL l i k = seenL l i (k + 1) := by
  refine List.ext_getElem (by simp [seenL_len]) fun p h1 h2 => ?_
  have hp : p < l.length := by rw [seenL_len] at h1; exact h1
  rw [seenL_at hp, seenL_at hp]
  congr 2
  by_cases e : p = k
  · subst e
    simp only [h, and_false, if_false]
  · have : (p < k ∧ l[p] = l.getD i 0) ↔ (p < k + 1 ∧ l[p] = l.getD i 0) := ⟨fun h => ⟨by omega, h.2⟩, fun h => ⟨by omega, h.2⟩⟩
    simp only [this]
theorem seenL_hit {l : List Int} {i k : Nat} (hk : k < l.length) (h : l[k] = l.getD i 0) : (seenL l i k).set k ((seenL l i k)[k]'(by rw [seenL_len]; exact hk) + 1) = seenL l i (k + 1) := by
  refine List.ext_getElem (by simp [seenL_len]) fun p h1 h2 => ?_
  have hp : p < l.length := by rw [seenL_len] at h2; exact h2
  have ek := seenL_at (i := i) (k := k) hk
  rw [List.getElem_set, seenL_at (k := k + 1) hp]
  by_cases e : k = p
  · subst e
    rw [if_pos rfl, ek]
    simp [h]
  · rw [if_neg e, seenL_at (k := k) hp]
    congr 2
    have : (p < k ∧ l[p] = l.getD i 0) ↔ (p < k + 1 ∧ l[p] = l.getD i 0) := ⟨fun h => ⟨by omega, h.2⟩, fun h => ⟨by omega, h.2⟩⟩
    simp only [this]
theorem seenL_le {l : List Int} {i k p : Nat} (hp : p < l.length) : 0 ≤ (seenL l i k)[p]'(by rw [seenL_len]; exact hp) ∧ (seenL l i k)[p]'(by rw [seenL_len]; exact hp) ≤ l.length + 1 := by
  rw [seenL_at hp]
  have h1 : (l.take i).count l[p] ≤ l.length := Nat.le_trans List.count_le_length (by rw [List.length_take]; omega)
  split <;> constructor <;> omega
def ltB (x y : Int) : Bool := decide (x < y)
theorem ltB_swo : Swo ltB where
  irrefl x := by simp [ltB]
  trans x y z h k := by simp only [ltB, decide_eq_true_eq] at *; omega
  ntrans x y z h k := by simp only [ltB, decide_eq_false_iff_not] at *; omega

theorem cal2_calls {w : World} {x y : Int} {b6 : Nat} {v : Value} (h : Bx b6 v w) : Calls Try.prog 34 #[.int .i64 x, .int .i64 y, bp b6] w fun e w' => e = .returned (.bool (ltB x y)) ∧ Bx b6 (.bool true) w' ∧ Kept (fun b => b = b6) w w' := by
  have O := Lib.hid (show decide (x < y) = ltB x y from rfl)
  generalize ltB x y = r at *
  have f := h.frozen
  have c := h.cell
  have H := Lib.hid h
  clear h
  unfold bp
  go_enter Try.func34, Try.ntmps34
  go_wp2
  go_ret
  exact ⟨by rw [← O.out]; rfl, H.out.set _, (Kept.refl (fun b => b = b6) w).setCell (p := ⟨b6, 0, none⟩) (.inl rfl) _⟩

set_option maxRecDepth 100000 in
set_option maxHeartbeats 4000000 in
theorem cal1_calls {w : World} {b7 b6 b3 b5 g n c i B : Nat} {a : Option Addr} {l : List Int} {D : Nat → Prop} (hs : SV intEl D w (.slice a n c) l) (hn : l.length = n) (h200 : n ≤ 200) (hi : i < l.length)
    (x7 : Bx b7 (.bool false) w) (x6 : Bx b6 (.bool false) w) (x3 : Bx b3 (.slice a n c) w) (x5 : Bx b5 (.slice (some ⟨g, 0, none⟩) n n) w) (ho : Own 3 intEl Noneof B w (.slice (some ⟨g, 0, none⟩) n n) (seenL l i 0))
    (d : b7 ≠ b3 ∧ b7 ≠ b5 ∧ b7 ≠ g ∧ b3 ≠ g ∧ b5 ≠ g) (hD : ∀ b, D b → b ≠ b7 ∧ b ≠ g) :
    Calls Try.prog 33 #[.int .i64 l[i], bp b7, bp b6, bp b3, bp b5] w fun e w' => e = .returned (.int .i64 l[i]) ∧ Bx b7 (.bool false) w' ∧ Own 3 intEl Noneof B w' (.slice (some ⟨g, 0, none⟩) n n) (seenL l (i + 1) 0) ∧ Kept (fun b => b = b7 ∨ b = g) w w' := by
  have HS := Lib.hid hs
  have X7 := Lib.hid x7
  have X3 := Lib.hid x3
  have X5 := Lib.hid x5
  have DD := Lib.hid d
  have HD := Lib.hid hD
  have NX := Lib.hid (seenL_next hi)
  have gi : l.getD i 0 = l[i] := by simp [List.getD_eq_getElem?_getD, hi]
  have GI := Lib.hid gi
  generalize l[i] = x at *
  have c7 := x7.cell
  have f7 := x7.frozen
  have c6 := x6.cell
  have HO := Lib.hid (ho.kept ((Kept.refl (fun b => b = b7) w).setCell (p := ⟨b7, 0, none⟩) (.inl rfl) (.bool false)) fun b h _ => ⟨fun h => h, fun e => by
    subst h
    simp [Value.ownBlock] at e
    have := d.2.2.1
    omega⟩)
  have KW := Lib.hid ((Kept.refl (fun b => b = b7 ∨ b = g) w).setCell (p := ⟨b7, 0, none⟩) (.inl (.inl rfl)) (.bool false))
  replace X7 := Lib.hid (x7.set (.bool false))
  clear hs x7 x6 x3 x5 ho d hD gi
  replace hn := Lib.hid hn
  unfold bp
  go_enter Try.func33, Try.ntmps33
  go_upto_region 2 with (fail)
  clear c7 f7 c6
  generalize w.setCell ⟨b7, 0, none⟩ (.bool false) = w1 at *
  go_wp2_with fail
  go_loopw [7] (fun kv wr => ∃ k : Nat, k ≤ n ∧ kv = .int .i64 k ∧ Hid (Own 3 intEl Noneof B wr (.slice (some ⟨g, 0, none⟩) n n) (seenL l i k)) ∧ Hid (Bx b7 (.bool false) wr) ∧ Hid (Kept (fun b => b = b7 ∨ b = g) w wr)) (fun kv _ => n - (intOf kv).toNat)
  case atStart => exact ⟨0, Nat.zero_le _, rfl, HO, X7, KW⟩
  clear HO X7 KW
  obtain ⟨k, hk, rfl, HO, X7, KW⟩ := hrel
  have c3 := (X3.out.kept KW.out (fun h => by have := DD.out; omega)).cell
  by_cases hlt : k < n
  · have hlt' : (k : Int) < (n : Int) := by omega
    have hkl : k < l.length := by rw [hn.out]; exact hlt
    obtain ⟨_, _, hsl, _, _, rd⟩ := HS.out.kept intEl_k KW.out fun b h _ e => by have := HD.out b h; omega
    simp only [Value.slice.injEq] at hsl
    obtain ⟨rfl, -, rfl⟩ := hsl
    obtain ⟨b, o, rfl, db, e0⟩ := Rd.int rd hkl
    have MS := Lib.hid (seenL_miss (l := l) (i := i) (k := k) hkl)
    have HT := Lib.hid (seenL_hit (l := l) (i := i) (k := k) hkl)
    rw [GI.out] at MS HT
    clear rd db
    by_cases he : l[k] = x
    · have hb : (l[k] == x) = true := by simpa using he
      have SN := Lib.hid (HT.out he)
      have hks : k < (seenL l i k).length := by rw [seenL_len]; exact hkl
      have LE := seenL_le (l := l) (i := i) (k := k) hkl
      have es := HO.out.islot hks
      have c5 := (X5.out.kept KW.out (fun h => by have := DD.out; omega)).cell
      obtain ⟨v, hv⟩ : ∃ v, (seenL l i k)[k] = v := ⟨_, rfl⟩
      have PT := Lib.hid (HO.out.iput hks (v + 1))
      rw [hv] at es LE SN
      rw [SN.out] at PT
      have X7' := Lib.hid (X7.out.kept ((Kept.refl (fun b => b = g) wr).setCell (p := ⟨g, k, none⟩) (.inl rfl) (.int .i64 (v + 1))) (fun h => by have := DD.out; omega))
      have KW' := Lib.hid (KW.out.setCell (p := ⟨g, k, none⟩) (.inl (.inr rfl)) (.int .i64 (v + 1)))
      obtain ⟨es1, es2, _, _⟩ := es
      obtain ⟨le1, le2⟩ := LE
      have le3 : v ≤ 201 := by have := hn.out; omega
      clear le2
      generalize l[k] = y at *
      clear he HO X7 KW MS HT hv
      go_wp2
      go_roundw
      case rel => exact ⟨k + 1, by omega, by go_num, PT, X7', KW'⟩
      case measure => simp [intOf]; omega
    · have hb : (l[k] == x) = false := by simpa using he
      have HO2 := HO
      rw [MS.out he] at HO2
      generalize l[k] = y at *
      clear he MS HT HO
      go_wp2
      go_roundw
      case rel => exact ⟨k + 1, by omega, by go_num, HO2, X7, KW⟩
      case measure => simp [intOf]; omega
  · obtain rfl : n = k := by omega
    have HE := Lib.hid (show Own 3 intEl Noneof B wr (.slice (some ⟨g, 0, none⟩) n n) (seenL l (i + 1) 0) by
      have := HO.out
      rw [← NX.out, hn.out]
      exact this)
    clear hlt HO
    go_wp2
    go_ret
    exact ⟨rfl, X7.out, HE.out, KW.out⟩
end Go.Proofs.Ytaopjdjbpamhhaa
/- Proved: the law function SlotsLays returns true for all its arguments. Conditions: items and numbers in memory. -/
namespace Go.Proofs.Ytaopjdjbpamhhaa
open Go Go.RowKit
set_option linter.unusedVariables false
set_option linter.unusedSimpArgs false

theorem l1lay_any {w : World} {cells : Int} {items : Value} {l : List ItemK} {D : Nat → Prop} (hs : SV itemEl D w items l) (hD : ∀ b, D b → b < w.heap.size) :
    Calls Try.prog 41 #[.int .i64 cells, items] w fun e w' => ∃ v L, e = .returned v ∧ IV (fun b => w.heap.size ≤ b) w' v L ∧ LayIs cells l L ∧ Kept Noneof w w' := by
  by_cases h : cells < 1 ∨ 1048576 < cells ∨ cells < (l.length : Int)
  · obtain ⟨a, c, rfl, _⟩ := hs
    refine (l1lay_bad h).mono ?_
    rintro e w' ⟨rfl, k⟩
    exact ⟨_, [], rfl, IV.nil _ _, .inl ⟨h, rfl⟩, k⟩
  · obtain ⟨n, rfl⟩ : ∃ n : Nat, cells = n := ⟨cells.toNat, by omega⟩
    refine (l1lay_calls hs (by omega) (by omega) (by omega) hD).mono ?_
    rintro e w' ⟨g, ord, rfl, ho, hown, k⟩
    have hlen : (layI n l ord).length = n := layF_length _ _ _
    have sv := hown.sv
    refine ⟨_, layI n l ord, rfl, sv.wide intEl_k fun b hb _ => hb.elim (fun h => h.elim) id, .inr ⟨by omega, by omega, by omega, ord, ho, by rw [Int.toNat_natCast]⟩, k⟩
theorem r1Lay_any {w : World} {cells : Int} {items : Value} {l : List ItemK} {D : Nat → Prop} (hs : SV itemEl D w items l) (hD : ∀ b, D b → b < w.heap.size) :
    Calls Try.prog 42 #[.int .i64 cells, items] w fun e w' => ∃ v L, e = .returned v ∧ IV (fun b => w.heap.size ≤ b) w' v L ∧ LayIs cells l L ∧ Kept Noneof w w' := by
  by_cases h : cells < 1 ∨ 1048576 < cells ∨ cells < (l.length : Int)
  · obtain ⟨a, c, rfl, _⟩ := hs
    refine (r1Lay_bad h).mono ?_
    rintro e w' ⟨rfl, rfl⟩
    exact ⟨_, [], rfl, IV.nil _ _, .inl ⟨h, rfl⟩, Kept.refl _ _⟩
  · obtain ⟨n, rfl⟩ : ∃ n : Nat, cells = n := ⟨cells.toNat, by omega⟩
    refine (r1Lay_calls hs (by omega) (by omega) (by omega) hD).mono ?_
    rintro e w' ⟨g, ord, rfl, ho, hown, k⟩
    have sv := hown.sv
    refine ⟨_, layI n l ord, rfl, sv.wide intEl_k fun b hb _ => hb.elim (fun h => h.elim) id, .inr ⟨by omega, by omega, by omega, ord, ho, by rw [Int.toNat_natCast]⟩, k⟩
theorem lys1_calls {w : World} {x : Int} : Calls Try.prog 43 #[.int .i64 x] w fun e w' => e = .returned (.int .i64 x) ∧ Kept Noneof w w' := by
  go_enter Try.func43, Try.ntmps43
  go_wp2
  go_ret
  exact ⟨rfl, Kept.refl _ _⟩
theorem lys2_calls {w : World} {x y : Int} : Calls Try.prog 44 #[.int .i64 x, .int .i64 y] w fun e w' => e = .returned (.bool (gtB x y)) ∧ Kept Noneof w w' := by
  have O := Lib.hid (show decide (y < x) = gtB x y from rfl)
  generalize gtB x y = r at *
  go_enter Try.func44, Try.ntmps44
  go_wp2
  go_ret
  exact ⟨by rw [← O.out]; rfl, Kept.refl _ _⟩
/-- The layout of numbers by the law's functions. -/
theorem lysN_any {w : World} {cells : Int} {items : Value} {l : List Int} {D : Nat → Prop} (hs : IV D w items l) (hr : i64s l) (hD : ∀ b, D b → b < w.heap.size) :
    Calls Try.prog 32 #[.int .i64 cells, items, .func (.func 43) #[] #[], .func (.func 44) #[] #[]] w fun e w' => ∃ v L, e = .returned v ∧ IV (fun b => w.heap.size ≤ b) w' v L ∧ LayIs cells (l.map plainK) L ∧ Kept Noneof w w' := by
  by_cases h : cells < 1 ∨ 1048576 < cells ∨ cells < (l.length : Int)
  · obtain ⟨a, c, rfl, _⟩ := hs
    refine (slLayout_int_bad h).mono ?_
    rintro e w' ⟨rfl, k⟩
    exact ⟨_, [], rfl, IV.nil _ _, .inl ⟨by rw [List.length_map]; exact h, rfl⟩, k⟩
  · obtain ⟨n, rfl⟩ : ∃ n : Nat, cells = n := ⟨cells.toNat, by omega⟩
    refine (slLayout_int_calls (w := w) (cells := n) (sf := 43) (bf := 44) (scb := #[]) (bcb := #[]) (items := items) (l := l) (st := fun x => x) (bef := gtB) (D := D) (X := Noneof) (J := fun _ _ => True) (I := fun _ => True) hs
      ⟨fun args w => enters_of Try.func43 (by kernel_rfl) rfl args w, fun i hi wx cs _ hr => by
        obtain rfl : cs = [.int .i64 l[i]] := hr
        refine (lys1_calls (x := l[i])).mono ?_
        rintro e w' ⟨rfl, kk⟩
        exact ⟨rfl, trivial, kk⟩, fun _ _ _ _ _ => trivial⟩
      ⟨fun args w => enters_of Try.func44 (by kernel_rfl) rfl args w, fun wx cs ds x y _ hr hr' => by
        obtain rfl : cs = [.int .i64 x] := hr
        obtain rfl : ds = [.int .i64 y] := hr'
        refine (lys2_calls (x := x) (y := y)).mono ?_
        rintro e w' ⟨rfl, kk⟩
        exact ⟨rfl, trivial, kk⟩, gtB_swo, fun _ _ _ _ => trivial⟩
      trivial (fun _ _ => trivial) (by omega) (by omega) (by omega) (fun _ h => h.elim) (fun _ _ h => h) hD).mono ?_
    rintro e w' ⟨g, ord, rfl, ho, hown, _, k⟩
    have sv := hown.sv
    exact ⟨_, _, rfl, sv.wide intEl_k fun b hb _ => hb.elim (fun h => h.elim) id, layIs_plain hr (by omega) (by omega) (by omega) ho, k⟩
theorem tItems : SlT Try.prog 57 61 3 40 (.agg #[.int .i64 0, .int .u64 0, .slice none 0 0]) := SlT.of (by kernel_rfl) (by kernel_rfl) rfl (by decide)

set_option maxRecDepth 100000 in
set_option maxHeartbeats 8000000 in
theorem slotsLays_walk {w : World} {cells : Int} {items nums : Value} {l : List ItemK} {ns : List Int} {D1 D2 : Nat → Prop} (h1 : SV itemEl D1 w items l) (h2 : IV D2 w nums ns) (hr : i64s ns) :
    Calls Try.prog 7 #[.int .i64 cells, items, nums] w fun e w' => e = .returned (.bool true) ∧ Kept Noneof w w' := by
  have H1 := Lib.hid (h1.bd itemEl_k)
  have H2 := Lib.hid (h2.bd intEl_k)
  have RN := Lib.hid hr
  obtain ⟨a, c, rfl, ⟨hc, _⟩, hm, _⟩ := h1
  obtain ⟨a', c', rfl, ⟨hc', _⟩, hm', _⟩ := h2
  clear hr
  by_cases b1 : 400 < l.length
  · have b1' : (400 : Int) < (l.length : Int) := by omega
    go_enter Try.func7, Try.ntmps7
    go_wp2_with fail
    refine (l1awake_calls _).mono ?_
    rintro e w1 ⟨rfl, k1⟩
    have K := Lib.hid k1
    clear k1
    go_wp2
    go_ret
    exact ⟨rfl, K.out⟩
  · by_cases b2 : 400 < ns.length
    · have b1' : ¬ (400 : Int) < (l.length : Int) := by omega
      have b2' : (400 : Int) < (ns.length : Int) := by omega
      go_enter Try.func7, Try.ntmps7
      go_wp2_with fail
      refine (l1awake_calls _).mono ?_
      rintro e w1 ⟨rfl, k1⟩
      have K := Lib.hid k1
      clear k1
      go_wp2
      go_ret
      exact ⟨rfl, K.out⟩
    · by_cases b3 : 2000 < cells ∧ cells ≤ 1048576
      · have b1' : ¬ (400 : Int) < (l.length : Int) := by omega
        have b2' : ¬ (400 : Int) < (ns.length : Int) := by omega
        obtain ⟨b3', b4⟩ := b3
        have b4' : decide (cells ≤ 1048576) = true := decide_eq_true b4
        clear b4
        go_enter Try.func7, Try.ntmps7
        go_wp2_with fail
        refine (l1awake_calls _).mono ?_
        rintro e w1 ⟨rfl, k1⟩
        have K := Lib.hid k1
        clear k1
        go_wp2
        go_ret
        exact ⟨rfl, K.out⟩
      · have b1' : ¬ (400 : Int) < (l.length : Int) := by omega
        have b2' : ¬ (400 : Int) < (ns.length : Int) := by omega
        have b2n : ns.length ≤ 400 := by omega
        by_cases c1 : 2000 < cells
        focus
          have c2 : decide (cells ≤ 1048576) = false := decide_eq_false (by omega)
          clear b3
          go_enter Try.func7, Try.ntmps7
          go_wp2_with fail
        rotate_left
        focus
          clear b3
          go_enter Try.func7, Try.ntmps7
          go_wp2_with fail
        rotate_left
        all_goals
          try clear c2
          try clear b1 b1' b2'
          refine (l1lay_any H1.out fun b h => h.2).mono ?_
          rintro e w1 ⟨v1, L1, rfl, i1, y1, k1⟩
          have I1 := Lib.hid i1
          have Y1 := Lib.hid y1
          have K1 := Lib.hid k1
          clear i1 y1 k1
          go_wp2_with fail
          refine (r1Lay_any (H1.out.still' K1.out itemEl_k) fun b h => Nat.lt_of_lt_of_le h.2 K1.out.size).mono ?_
          rintro e w2 ⟨v2, L2, rfl, i2, y2, k2⟩
          obtain rfl := Y1.out.uniq y2
          have I2 := Lib.hid i2
          have K2 := Lib.hid (K1.out.tr k2)
          replace I1 := Lib.hid (I1.out.still' k2 intEl_k)
          clear i2 y2 k2 K1 Y1
          go_wp2_with fail
          refine (l1same_calls I1.out I2.out).mono ?_
          rintro e w3 ⟨rfl, d3⟩
          rw [decide_eq_true (show L1 = L1 from rfl)]
          have K3 := Lib.hid (K2.out.drewn d3)
          clear d3 K2 I1 I2
          go_wp2_with fail
          have ol := Own.lit0 61 itemEl Noneof w3
          have k4 := (Kept.refl Noneof w3).alloc (.cells #[] 61)
          have OL := Lib.hid (show Own 61 itemEl Noneof w3.heap.size (w3.alloc (.cells #[] 61)) (.slice (some ⟨w3.heap.size, 0, none⟩) 0 0) ((ns.take 0).map plainK) from ol)
          have K4 := Lib.hid (K3.out.tr k4)
          have S4 := Lib.hid k4.size
          clear ol k4
          go_loopw [7, 8] (fun v kv wr => ∃ k : Nat, k ≤ ns.length ∧ kv = .int .i64 k ∧ Hid (Own 61 itemEl Noneof w3.heap.size wr v ((ns.take k).map plainK)) ∧ Hid (Kept Noneof w wr) ∧ Hid (w3.heap.size ≤ wr.heap.size)) (fun _ kv _ => ns.length - (intOf kv).toNat)
          case atStart => exact ⟨0, Nat.zero_le _, rfl, OL, K4, S4⟩
          clear OL K4 S4
          obtain ⟨k, hk, rfl, O, KW, SZ⟩ := hrel
          obtain ⟨oa, on, oc, rfl⟩ := O.out.slice'
          by_cases hlt : k < ns.length
          · have hlt' : (k : Int) < (ns.length : Int) := by omega
            obtain ⟨_, _, hsl, _, _, rd⟩ := H2.out.still' KW.out intEl_k
            simp only [Value.slice.injEq] at hsl
            obtain ⟨rfl, -, rfl⟩ := hsl
            obtain ⟨b, o, rfl, db, e0⟩ := Rd.int rd hlt
            have SN := Lib.hid (show (ns.take k).map plainK ++ [plainK ns[k]] = (ns.take (k + 1)).map plainK by rw [List.take_add_one, List.getElem?_eq_getElem hlt, List.map_append]; rfl)
            have LE := Lib.hid (show ((ns.take k).map plainK).length ≤ 400 by rw [List.length_map, List.length_take]; omega)
            have RK := Lib.hid (show bits .xor .u64 (IntKind.u64.wrap ns[k]) 9223372036854775808 = rankN ns[k] from rfl)
            have GB := Lib.hid O.out.lt
            generalize ns[k] = x at *
            have DB := Lib.hid db.2
            clear rd db
            go_wp2_with fail
            refine wp_region_chain 14 [12, 13] (fun w' => w'.cell? ⟨b, o + k, none⟩ = some (.int .i64 x)) (by kernel_rfl) (by kernel_rfl) ?_ ?_
            · exact e0
            refine SeqW.out ?_
            simp only [List.take_succ_cons, List.take_zero, List.drop_succ_cons, List.drop_zero]
            have kd := (Kept.refl Noneof wr).drew
            replace e0 := kd.cell (p := ⟨b, o + k, none⟩) (fun h => h) e0
            replace O := Lib.hid (O.out.kept kd fun _ h => h.elim)
            replace KW := Lib.hid (KW.out.tr kd)
            replace SZ := Lib.hid (Nat.le_trans SZ.out kd.size)
            generalize wr.drew = wd at *
            clear kd
            iterate 12 (refine SeqW.val (v := ?_) (by rfl) (by rfl) (fun wx hSw => ?_) ?_; rotate_left; (focus ((try dsimp only at hSw); go_simp; (try with_reducible rfl))); (try simp only [Act.put, List.setIfInBounds_toArray, List.set_cons_zero, List.set_cons_succ]))
            rw [RK.out]
            refine SeqW.act (by rfl) rfl (by rfl) (by rfl) (fun K hK => ?_)
            go_simp
            have kA := (Kept.refl Noneof wd).alloc (.cells #[.int .i64 x, .int .u64 (rankN x), .slice none 0 0] 61)
            have qA := heap_alloc_new wd (.cells #[.int .i64 x, .int .u64 (rankN x), .slice none 0 0] 61)
            have sA : (wd.alloc (.cells #[.int .i64 x, .int .u64 (rankN x), .slice none 0 0] 61)).heap.size = wd.heap.size + 1 := by simp
            refine hK.out _ _ (kA.cell (p := ⟨b, o + k, none⟩) (fun h => h) e0) ?_
            replace e0 := kA.cell (p := ⟨b, o + k, none⟩) (fun h => h) e0
            have GB2 := Lib.hid O.out.lt
            replace O := Lib.hid (O.out.kept kA fun _ h => h.elim)
            replace KW := Lib.hid (KW.out.tr kA)
            replace SZ := Lib.hid (Nat.le_trans SZ.out kA.size)
            generalize wd.alloc (.cells #[.int .i64 x, .int .u64 (rankN x), .slice none 0 0] 61) = wa at *
            clear K hK kA
            (try simp only [Act.put, List.setIfInBounds_toArray, List.set_cons_zero, List.set_cons_succ])
            refine SeqW.act (by rfl) rfl (by rfl) (by rfl) (fun K hK => ?_)
            refine wp_app_one (E := itemEl) (D := Noneof) (D' := Noneof) (.tmp 42) (.tmp 54) _ rfl tItems _ _ rfl O.out wd.heap.size [.int .i64 x, .int .u64 (rankN x), .slice none 0 0] (plainK x) rfl ⟨_, _, qA⟩ ⟨_, rfl, BV.nil _ _⟩ (fun _ h => h.elim) (by have := LE.out; omega) (by omega) SZ.out ?_
            intro v5 w5 ho5 k5 b5
            rw [SN.out] at ho5
            have O5 := Lib.hid ho5
            have hbw : ¬ (Value.slice oa on oc).ownBlock = some b := fun e => by have := (O.out.lt b e).1; have := DB.out; have := K3.out.size; omega
            have K5 := Lib.hid (KW.out.trans k5 fun b e => .inr (by have := (O.out.lt b e).1; have := K3.out.size; omega))
            have S5 := Lib.hid (Nat.le_trans SZ.out k5.size)
            refine hK.out _ _ (k5.cell (p := ⟨b, o + k, none⟩) hbw e0) ?_
            clear K hK ho5 k5 b5 hbw O KW SZ e0
            (try simp only [Act.put, List.setIfInBounds_toArray, List.set_cons_zero, List.set_cons_succ])
            refine SeqW.nil ?_
            go_wp2
            go_roundw
            case rel => exact ⟨k + 1, by omega, by go_num, O5, K5, S5⟩
            case measure => simp [intOf]; omega
          · obtain rfl : k = ns.length := by omega
            have OP := Lib.hid (show Own 61 itemEl Noneof w3.heap.size wr (.slice oa on oc) (ns.map plainK) by
              have := O.out
              rwa [List.take_of_length_le (Nat.le_refl _)] at this)
            clear O hlt
            go_wp2_with fail
            refine (lysN_any (H2.out.still' KW.out intEl_k) RN.out fun b h => Nat.lt_of_lt_of_le h.2 KW.out.size).mono ?_
            rintro e w5 ⟨v5, L5, rfl, i5, y5, k5⟩
            have I5 := Lib.hid i5
            have Y5 := Lib.hid y5
            have K5 := Lib.hid (KW.out.tr k5)
            replace OP := Lib.hid (OP.out.kept k5 fun _ h => h.elim)
            clear i5 y5 k5 KW
            go_wp2_with fail
            refine (r1Lay_any (OP.out.sv.bd itemEl_k) fun b h => h.2).mono ?_
            rintro e w6 ⟨v6, L6, rfl, i6, y6, k6⟩
            obtain rfl := Y5.out.uniq y6
            have I6 := Lib.hid i6
            have K6 := Lib.hid (K5.out.tr k6)
            replace I5 := Lib.hid (I5.out.still' k6 intEl_k)
            clear i6 y6 k6 K5 Y5 OP
            go_wp2_with fail
            refine (l1same_calls I5.out I6.out).mono ?_
            rintro e w7 ⟨rfl, d7⟩
            rw [decide_eq_true (show L5 = L5 from rfl)]
            have K7 := Lib.hid (K6.out.drewn d7)
            clear d7 K6 I5 I6
            go_wp2_with fail
            refine (slLayout_int_nost).mono ?_
            rintro e w8 ⟨rfl, k8⟩
            have K8 := Lib.hid (K7.out.tr k8)
            clear k8 K7
            go_wp2_with fail
            refine (l1awake_calls _).mono ?_
            rintro e w9 ⟨rfl, k9⟩
            have K9 := Lib.hid (K8.out.tr k9)
            clear k9 K8
            go_wp2_with fail
            refine (slLayout_r1Item_nobe).mono ?_
            rintro e wA ⟨rfl, kA⟩
            have KA := Lib.hid (K9.out.tr kA)
            clear kA K9
            go_wp2
            go_ret
            exact ⟨rfl, KA.out⟩
end Go.Proofs.Ytaopjdjbpamhhaa
/- Proved: the law function SlotsCalls returns true for all its arguments. Conditions: numbers in memory. -/
namespace Go.Proofs.Ytaopjdjbpamhhaa
open Go Go.RowKit
set_option linter.unusedVariables false
set_option linter.unusedSimpArgs false

set_option maxRecDepth 100000 in
set_option maxHeartbeats 8000000 in
theorem slotsCalls_walk {w : World} {cells : Int} {nums : Value} {l : List Int} {D1 : Nat → Prop} (h1 : IV D1 w nums l) :
    Calls Try.prog 4 #[.int .i64 cells, nums] w fun e w' => e = .returned (.bool true) ∧ Kept Noneof w w' := by
  have H1 := Lib.hid (h1.bd intEl_k)
  obtain ⟨a, c, rfl, ⟨hc, _⟩, hm, _⟩ := h1
  obtain ⟨n, hn⟩ : ∃ n, l.length = n := ⟨_, rfl⟩
  rw [hn] at hc hm ⊢
  replace hn := Lib.hid hn
  have KA := Lib.hid ((Kept.refl Noneof w).alloc (.cells #[.slice a n c] 44))
  by_cases b1 : 200 < n
  · have b1' : (200 : Int) < (n : Int) := by omega
    clear b1
    go_enter Try.func4, Try.ntmps4
    go_wp2_with fail
    (refine (l1awake_calls _).mono ?_; rintro e w1 ⟨rfl, k1⟩; have K := Lib.hid (KA.out.tr k1); clear k1; go_wp2; go_ret; exact ⟨rfl, K.out⟩)
  · have b1' : ¬ (200 : Int) < (n : Int) := by omega
    by_cases b2 : cells < 1
    · clear b1
      go_enter Try.func4, Try.ntmps4
      go_wp2_with fail
      (refine (l1awake_calls _).mono ?_; rintro e w1 ⟨rfl, k1⟩; have K := Lib.hid (KA.out.tr k1); clear k1; go_wp2; go_ret; exact ⟨rfl, K.out⟩)
    · by_cases b3 : 2000 < cells
      · clear b1
        go_enter Try.func4, Try.ntmps4
        go_wp2_with fail
        (refine (l1awake_calls _).mono ?_; rintro e w1 ⟨rfl, k1⟩; have K := Lib.hid (KA.out.tr k1); clear k1; go_wp2; go_ret; exact ⟨rfl, K.out⟩)
      · by_cases b4 : cells < (n : Int)
        · clear b1
          go_enter Try.func4, Try.ntmps4
          go_wp2_with fail
          (refine (l1awake_calls _).mono ?_; rintro e w1 ⟨rfl, k1⟩; have K := Lib.hid (KA.out.tr k1); clear k1; go_wp2; go_ret; exact ⟨rfl, K.out⟩)
        · obtain ⟨cs, rfl⟩ : ∃ cs : Nat, cells = cs := ⟨cells.toNat, by omega⟩
          have c1 : 1 ≤ cs := by omega
          have c2 : cs ≤ 2000 := by omega
          have c3 : n ≤ cs := by omega
          have c4 : n ≤ 200 := by omega
          have qA := heap_alloc_new w (.cells #[.slice a n c] 44)
          have sA : (w.alloc (.cells #[.slice a n c] 44)).heap.size = w.heap.size + 1 := by simp
          have QA := Lib.hid qA
          have SA := Lib.hid sA
          clear qA sA
          go_enter Try.func4, Try.ntmps4
          go_wp2_with (at_make; refine wl_make (E := intEl) rfl _ _ _ rfl tInts Noneof (w.heap.size + 1) n .i64 .i64 _ _ rfl rfl rfl rfl 0 (fun _ => rfl) ?b1 ?b2 ?b3 ?_)
          all_goals first | omega | (rw [SA.out]; exact Nat.le_refl _) | skip
          intro w1 g hown hk hg
          clear b1 b1' b2 b3 b4
          have KW := Lib.hid (KA.out.tr hk)
          have OW := Lib.hid hown
          have B3 := Lib.hid (show Bx w.heap.size (.slice a n c) w1 from ⟨_, hk.obj (fun h => h) QA.out⟩)
          have S1 := Lib.hid (show w.heap.size + 1 ≤ w1.heap.size by have := hk.size; have := SA.out; omega)
          clear hown hk hg KA QA SA
          have c3' := B3.out.cell
          go_upto_region 5 with (fail)
          have k2 := (((Kept.refl Noneof w1).alloc (.cells #[.slice (some ⟨g, 0, none⟩) n n] 44)).alloc (.cells #[.bool false] 4)).alloc (.cells #[.bool false] 4)
          have x5 : Bx w1.heap.size (.slice (some ⟨g, 0, none⟩) n n) (((w1.alloc (.cells #[.slice (some ⟨g, 0, none⟩) n n] 44)).alloc (.cells #[.bool false] 4)).alloc (.cells #[.bool false] 4)) :=
            (Bx.new w1 _ 44).kept (((Kept.refl Noneof _).alloc _).alloc _) fun h => h
          have x6 : Bx (w1.heap.size + 1) (.bool false) (((w1.alloc (.cells #[.slice (some ⟨g, 0, none⟩) n n] 44)).alloc (.cells #[.bool false] 4)).alloc (.cells #[.bool false] 4)) := by
            have := (Bx.new (w1.alloc (.cells #[.slice (some ⟨g, 0, none⟩) n n] 44)) (.bool false) 4).kept ((Kept.refl Noneof _).alloc (.cells #[.bool false] 4)) fun h => h
            simpa using this
          have x7 : Bx (w1.heap.size + 1 + 1) (.bool false) (((w1.alloc (.cells #[.slice (some ⟨g, 0, none⟩) n n] 44)).alloc (.cells #[.bool false] 4)).alloc (.cells #[.bool false] 4)) := by
            have := Bx.new ((w1.alloc (.cells #[.slice (some ⟨g, 0, none⟩) n n] 44)).alloc (.cells #[.bool false] 4)) (.bool false) 4
            simpa using this
          have s2 : (((w1.alloc (.cells #[.slice (some ⟨g, 0, none⟩) n n] 44)).alloc (.cells #[.bool false] 4)).alloc (.cells #[.bool false] 4)).heap.size = w1.heap.size + 3 := by simp
          generalize ((w1.alloc (.cells #[.slice (some ⟨g, 0, none⟩) n n] 44)).alloc (.cells #[.bool false] 4)).alloc (.cells #[.bool false] 4) = w2 at *
          have gl := OW.out.lt g rfl
          replace OW := Lib.hid (OW.out.kept k2 fun _ h => h.elim)
          replace B3 := Lib.hid (B3.out.kept k2 fun h => h)
          replace KW := Lib.hid (KW.out.tr k2)
          have SV2 := Lib.hid (show SV intEl (fun b => D1 b ∧ b < w.heap.size) w2 (.slice a n c) l by
            have := H1.out.still' KW.out intEl_k
            rwa [hn.out] at this)
          have S1' := S1.out
          have ez := seenL_zero l
          rw [hn.out] at ez
          rw [← ez] at OW
          clear k2 ez c3' H1
          have c3' := B3.out.cell
          generalize w1.heap.size = S at *
          obtain ⟨M, hM⟩ : ∃ M, w.heap.size = M := ⟨_, rfl⟩
          rw [hM] at S1' gl OW B3 SV2 c3' ⊢
          clear S1
          have SOK : StOk elV1 intEl 33 #[bp (S + 1 + 1), bp (S + 1), bp M, bp S] (fun x => x) l (fun b => D1 b ∧ b < M) (fun i w' => Bx M (.slice a n c) w' ∧ Bx S (.slice (some ⟨g, 0, none⟩) n n) w' ∧ Bx (S + 1) (.bool false) w' ∧ Bx (S + 1 + 1) (.bool false) w' ∧ Own 3 intEl Noneof (M + 1) w' (.slice (some ⟨g, 0, none⟩) n n) (seenL l i 0) ∧ SV intEl (fun b => D1 b ∧ b < M) w' (.slice a n c) l) (fun b => b = S + 1 ∨ b = S + 1 + 1 ∨ b = g) w2.heap.size :=
            ⟨fun args w => enters_of Try.func33 (by kernel_rfl) rfl args w, fun i hi w' cs hJ hr => by
              obtain rfl : cs = [.int .i64 l[i]] := hr
              obtain ⟨j3, j5, j6, j7, jo, js⟩ := hJ
              refine (cal1_calls js hn.out c4 hi j7 j6 j3 j5 jo ⟨by omega, by omega, by omega, by omega, by omega⟩ fun b h => ⟨by have := h.2; omega, by have := h.2; omega⟩).mono ?_
              rintro e w'' ⟨rfl, y7, yo, yk⟩
              exact ⟨rfl, ⟨j3.kept yk (by omega), j5.kept yk (by omega), j6.kept yk (by omega), y7, yo, js.kept intEl_k yk fun b h _ e => by have := h.2; omega⟩, yk.mono fun b h => by omega⟩, fun i w' w'' hJ k => by
              obtain ⟨j3, j5, j6, j7, jo, js⟩ := hJ
              exact ⟨j3.kept k (by omega), j5.kept k (by omega), j6.kept k (by omega), j7.kept k (by omega), jo.kept k (fun b h _ => ⟨fun h => h, fun e => by have : g = b := (by simpa [Value.ownBlock] using e); omega⟩), js.kept intEl_k k fun b h _ e => by have := h.2; omega⟩⟩
          have COK : BefOk elV1 intEl 34 #[bp (S + 1)] ltB (fun b => D1 b ∧ b < M) (fun w' => (∃ v, Bx (S + 1) v w') ∧ Bx (S + 1 + 1) (.bool false) w' ∧ Own 3 intEl Noneof (M + 1) w' (.slice (some ⟨g, 0, none⟩) n n) (seenL l n 0)) (fun b => b = S + 1 ∨ b = S + 1 + 1 ∨ b = g) w2.heap.size :=
            ⟨fun args w => enters_of Try.func34 (by kernel_rfl) rfl args w, fun w' cs ds x y hI hr hr' => by
              obtain rfl : cs = [.int .i64 x] := hr
              obtain rfl : ds = [.int .i64 y] := hr'
              obtain ⟨⟨v, j6⟩, j7, jo⟩ := hI
              refine (cal2_calls j6).mono ?_
              rintro e w'' ⟨rfl, y6, yk⟩
              exact ⟨rfl, ⟨⟨_, y6⟩, j7.kept yk (by omega), jo.kept yk (fun b h _ => ⟨fun h => h, fun e => by have : g = b := (by simpa [Value.ownBlock] using e); omega⟩)⟩, yk.mono fun b h => .inl h⟩, ltB_swo, fun w' w'' hI k => by
              obtain ⟨⟨v, j6⟩, j7, jo⟩ := hI
              exact ⟨⟨_, j6.kept k (by omega)⟩, j7.kept k (by omega), jo.kept k (fun b h _ => ⟨fun h => h, fun e => by have : g = b := (by simpa [Value.ownBlock] using e); omega⟩)⟩⟩
          have LC := Lib.hid (slLayout_int_calls (w := w2) (cells := cs) (items := .slice a n c) SV2.out SOK COK ⟨B3.out, x5, x6, x7, OW.out, SV2.out⟩ (fun w' hJ => by
            obtain ⟨j3, j5, j6, j7, jo, js⟩ := hJ
            rw [hn.out] at jo
            exact ⟨⟨_, j6⟩, j7, jo⟩) c1 (by omega) (by rw [hn.out]; exact c3) (fun b h => by omega) (fun b h e => by have := h.2; omega) (fun b h => by have := h.2; omega))
          have X5 := Lib.hid x5
          replace KW := Lib.hid (show Kept Noneof w w2 from KW.out)
          have GL := Lib.hid gl
          have HM := Lib.hid hM
          have S1 := Lib.hid S1'
          clear SOK COK x5 x6 x7 s2 gl S1' hM OW
          unfold bp at LC
          go_wp2_with fail
          refine LC.out.mono ?_
          rintro e w3 ⟨go, ord, rfl, _, _, ⟨_, j7, jo⟩, k3⟩
          clear LC
          replace SV2 := Lib.hid (SV2.out.kept intEl_k k3 fun b h _ e => by have := h.2; have := GL.out; have := S1.out; omega)
          replace B3 := Lib.hid (B3.out.kept k3 (by have := GL.out; have := S1.out; omega))
          replace X5 := Lib.hid (X5.out.kept k3 (by have := GL.out; have := S1.out; omega))
          replace KW := Lib.hid (KW.out.trans k3 fun b e => .inr (by have := GL.out; have := S1.out; have := HM.out; omega))
          have J7 := Lib.hid j7
          have JO := Lib.hid jo
          clear j7 jo k3 c3'
          go_wp2_with fail
          go_loopw [9] (fun kv wr => ∃ i : Nat, i ≤ n ∧ kv = .int .i64 i ∧ Hid (Kept Noneof w3 wr)) (fun kv _ => n - (intOf kv).toNat)
          case atStart => exact ⟨0, Nat.zero_le _, rfl, Lib.hid (Kept.refl _ _)⟩
          obtain ⟨i, hi, rfl, KR⟩ := hrel
          by_cases hlt : i < n
          · have hlt' : (i : Int) < (n : Int) := by omega
            have hil : i < l.length := by rw [hn.out]; exact hlt
            have c3' := (B3.out.kept KR.out fun h => h).cell
            go_wp2_with fail
            go_loopw [10, 11] (fun v kv wr => ∃ k : Nat, k ≤ n ∧ v = .int .i64 ((l.take k).count l[i] : Nat) ∧ kv = .int .i64 k ∧ Hid (Kept Noneof w3 wr)) (fun _ kv _ => n - (intOf kv).toNat)
            case atStart => exact ⟨0, Nat.zero_le _, rfl, rfl, KR⟩
            clear KR c3'
            obtain ⟨k, hk, rfl, rfl, KR⟩ := hrel
            have c3' := (B3.out.kept KR.out fun h => h).cell
            by_cases hkl : k < n
            · have hkl' : (k : Int) < (n : Int) := by omega
              have hkL : k < l.length := by rw [hn.out]; exact hkl
              obtain ⟨_, _, hsl, _, _, rd⟩ := SV2.out.still' KR.out intEl_k
              simp only [Value.slice.injEq] at hsl
              obtain ⟨rfl, -, rfl⟩ := hsl
              obtain ⟨b, o, rfl, _, ei⟩ := Rd.int rd hil
              obtain ⟨b', o', e', _, ek⟩ := Rd.int rd hkL
              simp only [Option.some.injEq, Addr.mk.injEq, and_true] at e'
              obtain ⟨rfl, rfl⟩ := e'
              have CT := Lib.hid (show (l.take (k + 1)).count l[i] = (l.take k).count l[i] + if l[k] = l[i] then 1 else 0 by
                rw [List.take_add_one, List.getElem?_eq_getElem hkL, List.count_append]
                simp [List.count_cons])
              have CB : (l.take k).count l[i] ≤ 200 := Nat.le_trans List.count_le_length (by rw [List.length_take]; omega)
              obtain ⟨y, hy⟩ : ∃ y, (l.take (k + 1)).count l[i] = y := ⟨_, rfl⟩
              rw [hy] at CT
              obtain ⟨f, hf⟩ : ∃ f, (l.take k).count l[i] = f := ⟨_, rfl⟩
              rw [hf] at CT CB ⊢
              have HY := Lib.hid hy
              clear hf hy rd
              by_cases he : l[k] = l[i]
              · have hb : (l[k] == l[i]) = true := by simpa using he
                rw [if_pos he] at CT
                clear he
                generalize l[k] = p at *
                obtain ⟨q, hq⟩ : ∃ q, l[i] = q := ⟨_, rfl⟩
                rw [hq] at ei hb HY ⊢
                clear hq
                go_wp2
                go_quiet (fail)
                go_wp2
                go_roundw
                case rel => exact ⟨k + 1, by omega, by rw [HY.out, CT.out]; go_num, by go_num, Lib.hid (KR.out.drewN _)⟩
                case measure => simp [intOf]; omega
              · have hb : (l[k] == l[i]) = false := by simpa using he
                rw [if_neg he] at CT
                clear he
                generalize l[k] = p at *
                obtain ⟨q, hq⟩ : ∃ q, l[i] = q := ⟨_, rfl⟩
                rw [hq] at ei hb HY ⊢
                clear hq
                go_wp2
                go_quiet (fail)
                go_wp2
                go_roundw
                case rel => exact ⟨k + 1, by omega, by rw [HY.out, CT.out]; go_num, by go_num, Lib.hid (KR.out.drewN _)⟩
                case measure => simp [intOf]; omega
            · obtain rfl : n = k := by omega
              have es := ((JO.out.kept KR.out fun _ h => h.elim).islot (i := i) (by rw [seenL_len]; exact hil)).1
              rw [seenL_at hil] at es
              simp only [Nat.not_lt_zero, false_and, if_false, Nat.add_zero] at es
              have c5 := (X5.out.kept KR.out fun h => h).cell
              generalize (l.take n).count l[i] = f at *
              clear hkl
              go_wp2
              go_roundw
              case rel => exact ⟨i + 1, by omega, by go_num, KR⟩
              case measure => simp [intOf]; omega
          · obtain rfl : n = i := by omega
            have c3' := (B3.out.kept KR.out fun h => h).cell
            have c7 := (J7.out.kept KR.out fun h => h).cell
            have KE := Lib.hid (KW.out.tr KR.out)
            clear hlt
            go_wp2_with fail
            (refine (l1awake_calls _).mono ?_; rintro e w1 ⟨rfl, k1⟩; have K := Lib.hid (KE.out.tr k1); clear k1; go_wp2; go_ret; exact ⟨rfl, K.out⟩)
end Go.Proofs.Ytaopjdjbpamhhaa
/- Proved: the law SlotsCalls returns true for all its arguments, and each argument reads afterwards as it read before. No condition beyond the statement's own. -/
namespace Go.Proofs.Ytaopjdjbpamhhaa.slotsCalls
open Go.ChangeShapes Go.WideShapes Go.ChangeAt Go.RowKit
set_option linter.unusedVariables false
theorem opensInt : Opens Try.prog 3 intREl := opens_int Try.underlying3
set_option maxRecDepth 100000 in
theorem lifted (os : Os) (started : os.Started) (H : Type) (enc : TypeId × Value → H) :
    ReturnsInHanded {} Try.checked os 4 .any (Rows.slotsCallsSpec.pre6 enc Try.prog Try.f4 Rows.slotsCallsRow.domain false) (Rows.slotsCallsSpec.post enc Try.prog Try.f4 false true false false) := by
  refine returnsInHanded_of_change_sized (C := Try.checked) Facts.own started (by kernel_rfl) Try.func4
    (ChangeSpec.witness6 (enc := enc) (C := Try.checked) false ⟨#[], #[.int .i64 0, .slice none 0 0], []⟩ 8 (by kernel_rfl) (by kernel_rfl) (by kernel_rfl) (by kernel_rfl)) ?_
  intro W base args ds gs before hval0 hW hcnd hsz0 _
  have hsz : (DataW.weightsEach Try.prog (Try.f4.params.toList ++ Rows.slotsCallsSpec.plain.varTypes Try.prog) (ds ++ gs)).all (· ≤ reachBytes) = true := hsz0
  have hval : ∀ (j : Nat) t v, Try.f4.params[j]? = some t → args[j]? = some v → Value.okWide Try.prog W .any base t v := hval0
  have hW' := hW
  obtain ⟨p, q, hA0, hV, rfl, hfz, hnd⟩ := hW
  have hA : DataW.TrodAll enc Try.prog W 0 (fun _ => true) true Try.f4.params.toList args.toList ds p := hA0
  rw [Try.params4] at hA hval hsz
  obtain ⟨v0, vs0, d0, ds0, p0, q0, hargs, rfl, rfl, h0, r0⟩ := trodAll_cons hA
  obtain ⟨v1, vs1, d1, ds1, p1, q1, rfl, rfl, rfl, h1, r1⟩ := trodAll_cons r0
  obtain ⟨rfl, rfl, rfl⟩ := trodAll_nil r1
  obtain rfl : args = #[v0, v1] := by cases args; simp_all
  obtain ⟨rfl, rfl⟩ := trodVars_none hV
  obtain ⟨a0, rfl, rfl, rfl, w0⟩ := open_int Try.underlying3 (hval 0 3 v0 rfl rfl) h0
  obtain ⟨a1, len1, cap1, rfl⟩ := okWide_slice Try.underlying44 (hval 1 44 v1 rfl rfl)
  have k1 := h1
  have lt1 : ∀ x ∈ p1, x.block < W.heap.size := by obtain ⟨m, hm⟩ := k1; exact DataW.trod_lt m _ _ _ hm
  obtain ⟨l1, s1⟩ := open_arg (E := intREl) (j := 1) intREl_k opensInt Try.underlying44 (by kernel_rfl) (of_decide_eq_true (by kernel_rfl)) h1 rfl hsz rfl rfl
  clear hA0 hval0 hsz0
  refine (slotsCalls_walk s1.ints.1).mono fun e W' ⟨he, kw⟩ => ?_
  have bel : Below W.heap.size W W' := kw.below (Nat.le_refl _) fun _ h => h.elim
  subst he
  exact ⟨_, rfl, _, _, _, [], _, [], hW', trodAll_mk1 (shut_bool Try.underlying4 _), (trodAll_cons_mk (shut_int Try.underlying3 w0) (trodAll_cons_mk (Below.trod Facts.laid (by kernel_rfl) (of_decide_eq_true (by kernel_rfl)) k1 bel lt1) trodAll_mk0)), rfl, bel.frame _, fun h => by cases h⟩
set_option maxHeartbeats 4000000 in
theorem closed : joinedFacts Try.prog 4 Try.f4 Rows.slotsCallsSpec Rows.slotsCallsRow = true := by
  refine Facts.joined 4 Try.f4 Rows.slotsCallsSpec Rows.slotsCallsRow ?_ ?_ ?_ ?_ ?_ ?_ ?_ ?_ ?_ ?_ ?_ ?_ ?_ ?_ ?_ ?_ ?_ ?_ ?_ ?_ ?_ ?_ ?_ ?_ ?_ ?_ ?_ <;> exact (by as_aux_lemma => kernel_rfl)
set_option maxHeartbeats 4000000 in
theorem over : Rows.slotsCallsRow.holds Try.pinned (OpenSpec.ofChange Rows.slotsCallsSpec) :=
  OpenClaim.holds_of_wide 4 Try.f4 rfl rfl rfl rfl rfl rfl rfl ⟨rfl, rfl, rfl, rfl, rfl⟩ rfl rfl rfl rfl rfl (by as_aux_lemma => kernel_rfl) Try.func4 closed
    (of_decide_eq_true (by as_aux_lemma => kernel_rfl)) (by unfold Func.isWrapper; first | (rw [if_pos (by decide +kernel)]; kernel_rfl) | (rw [if_neg (by decide +kernel)]; exact ⟨rfl, rfl⟩))
    (fun os started H enc _ => lifted os started H enc)
theorem proved : Rows.SlotsCallsSaid := over
end Go.Proofs.Ytaopjdjbpamhhaa.slotsCalls
namespace Go.Proofs.Ytaopjdjbpamhhaa
theorem slotsCalls_holds : Rows.SlotsCallsSaid := slotsCalls.proved
#print axioms slotsCalls_holds
end Go.Proofs.Ytaopjdjbpamhhaa
