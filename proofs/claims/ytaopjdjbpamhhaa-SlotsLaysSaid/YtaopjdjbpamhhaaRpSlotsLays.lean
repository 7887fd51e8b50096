/- Proved: the law SlotsLays returns true for all its arguments, and each argument reads afterwards as it read before. No condition beyond the statement's own. -/
import Derived.Test.YtaopjdjbpamhhaaPkN
import Derived.Test.YtaopjdjbpamhhaaPkA
import Derived.Test.YtaopjdjbpamhhaaRows
import Derived.Test.YtaopjdjbpamhhaaFacts
import Derived.ProofKit
import Derived.OpenShut
import Derived.ShutString
import Derived.ChangeOld
import Derived.ChangeMaps5
import Derived.SizedLaws
import Derived.Carry
/- Proved: the law function SlotsLays returns true for all its arguments. Conditions: items and numbers in memory. -/
namespace Go.Proofs.Ytaopjdjbpamhhaa
open Go Go.RowKit
set_option linter.unusedVariables false
set_option linter.unusedSimpArgs false

theorem l1lay_any {w : World} {cells : Int} {items : Value} {l : List ItemK} {D : Nat → Prop} (hs : SV itemEl D w items l) (hD : ∀ b, D b → b < w.heap.size) :
    Calls Try.prog 41 #[.int .i64 cells, items] w fun e w' => ∃ v L, e = .returned v ∧ IV (fun b => w.heap.size ≤ b) w' v L ∧ LayIs cells l L ∧ Kept Noneof w w' := by
  by_cases h : cells < 1 ∨ 1048576 < cells ∨ cells < (l.length : Int)
  · obtain ⟨a, c, rfl, _⟩ := hs
    refine (l1lay_bad h).mono ?_
    rintro e w' ⟨rfl, k⟩
    exact ⟨_, [], rfl, IV.nil _ _, .inl ⟨h, rfl⟩, k⟩
  · obtain ⟨n, rfl⟩ : ∃ n : Nat, cells = n := ⟨cells.toNat, by omega⟩
    refine (l1lay_calls hs (by omega) (by omega) (by omega) hD).mono ?_
    rintro e w' ⟨g, ord, rfl, ho, hown, k⟩
    have hlen : (layI n l ord).length = n := layF_length _ _ _
    have sv := hown.sv
    refine ⟨_, layI n l ord, rfl, sv.wide intEl_k fun b hb _ => hb.elim (fun h => h.elim) id, .inr ⟨by omega, by omega, by omega, ord, ho, by rw [Int.toNat_natCast]⟩, k⟩
theorem r1Lay_any {w : World} {cells : Int} {items : Value} {l : List ItemK} {D : Nat → Prop} (hs : SV itemEl D w items l) (hD : ∀ b, D b → b < w.heap.size) :
    Calls Try.prog 42 #[.int .i64 cells, items] w fun e w' => ∃ v L, e = .returned v ∧ IV (fun b => w.heap.size ≤ b) w' v L ∧ LayIs cells l L ∧ Kept Noneof w w' := by
  by_cases h : cells < 1 ∨ 1048576 < cells ∨ cells < (l.length : Int)
  · obtain ⟨a, c, rfl, _⟩ := hs
    refine (r1Lay_bad h).mono ?_
    rintro e w' ⟨rfl, rfl⟩
    exact ⟨_, [], rfl, IV.nil _ _, .inl ⟨h, rfl⟩, Kept.refl _ _⟩
  · obtain ⟨n, rfl⟩ : ∃ n : Nat, cells = n := ⟨cells.toNat, by omega⟩
    refine (r1Lay_calls hs (by omega) (by omega) (by omega) hD).mono ?_
    rintro e w' ⟨g, ord, rfl, ho, hown, k⟩
    have sv := hown.sv
    refine ⟨_, layI n l ord, rfl, sv.wide intEl_k fun b hb _ => hb.elim (fun h => h.elim) id, .inr ⟨by omega, by omega, by omega, ord, ho, by rw [Int.toNat_natCast]⟩, k⟩
theorem lys1_calls {w : World} {x : Int} : Calls Try.prog 43 #[.int .i64 x] w fun e w' => e = .returned (.int .i64 x) ∧ Kept Noneof w w' := by
  go_enter Try.func43, Try.ntmps43
  go_wp2
  go_ret
  exact ⟨rfl, Kept.refl _ _⟩
theorem lys2_calls {w : World} {x y : Int} : Calls Try.prog 44 #[.int .i64 x, .int .i64 y] w fun e w' => e = .returned (.bool (gtB x y)) ∧ Kept Noneof w w' := by
  have O := Lib.hid (show decide (y < x) = gtB x y from rfl)
  generalize gtB x y = r at *
  go_enter Try.func44, Try.ntmps44
  go_wp2
  go_ret
  exact ⟨by rw [← O.out]; rfl, Kept.refl _ _⟩
/-- The layout of numbers by the law's functions. -/
theorem lysN_any {w : World} {cells : Int} {items : Value} {l : List Int} {D : Nat → Prop} (hs : IV D w items l) (hr : i64s l) (hD : ∀ b, D b → b < w.heap.size) :
    Calls Try.prog 32 #[.int .i64 cells, items, .func (.func 43) #[] #[], .func (.func 44) #[] #[]] w fun e w' => ∃ v L, e = .returned v ∧ IV (fun b => w.heap.size ≤ b) w' v L ∧ LayIs cells (l.map plainK) L ∧ Kept Noneof w w' := by
  by_cases h : cells < 1 ∨ 1048576 < cells ∨ cells < (l.length : Int)
  · obtain ⟨a, c, rfl, _⟩ := hs
    refine (slLayout_int_bad h).mono ?_
    rintro e w' ⟨rfl, k⟩
    exact ⟨_, [], rfl, IV.nil _ _, .inl ⟨by rw [List.length_map]; exact h, rfl⟩, k⟩
  · obtain ⟨n, rfl⟩ : ∃ n : Nat, cells = n := ⟨cells.toNat, by omega⟩
    refine (slLayout_int_calls (w := w) (cells := n) (sf := 43) (bf := 44) (scb := #[]) (bcb := #[]) (items := items) (l := l) (st := fun x => x) (bef := gtB) (D := D) (X := Noneof) (J := fun _ _ => True) (I := fun _ => True) hs
      ⟨fun args w => enters_of Try.func43 (by kernel_rfl) rfl args w, fun i hi wx cs _ hr => by
        obtain rfl : cs = [.int .i64 l[i]] := hr
        refine (lys1_calls (x := l[i])).mono ?_
        rintro e w' ⟨rfl, kk⟩
        exact ⟨rfl, trivial, kk⟩, fun _ _ _ _ _ => trivial⟩
      ⟨fun args w => enters_of Try.func44 (by kernel_rfl) rfl args w, fun wx cs ds x y _ hr hr' => by
        obtain rfl : cs = [.int .i64 x] := hr
        obtain rfl : ds = [.int .i64 y] := hr'
        refine (lys2_calls (x := x) (y := y)).mono ?_
        rintro e w' ⟨rfl, kk⟩
        exact ⟨rfl, trivial, kk⟩, gtB_swo, fun _ _ _ _ => trivial⟩
      trivial (fun _ _ => trivial) (by omega) (by omega) (by omega) (fun _ h => h.elim) (fun _ _ h => h) hD).mono ?_
    rintro e w' ⟨g, ord, rfl, ho, hown, _, k⟩
    have sv := hown.sv
    exact ⟨_, _, rfl, sv.wide intEl_k fun b hb _ => hb.elim (fun h => h.elim) id, layIs_plain hr (by omega) (by omega) (by omega) ho, k⟩
theorem tItems : SlT Try.prog 57 61 3 40 (.agg #[.int .i64 0, .int .u64 0, .slice none 0 0]) := SlT.of (by kernel_rfl) (by kernel_rfl) rfl (by decide)

set_option maxRecDepth 100000 in
set_option maxHeartbeats 8000000 in
theorem slotsLays_walk {w : World} {cells : Int} {items nums : Value} {l : List ItemK} {ns : List Int} {D1 D2 : Nat → Prop} (h1 : SV itemEl D1 w items l) (h2 : IV D2 w nums ns) (hr : i64s ns) :
    Calls Try.prog 7 #[.int .i64 cells, items, nums] w fun e w' => e = .returned (.bool true) ∧ Kept Noneof w w' := by
  have H1 := Lib.hid (h1.bd itemEl_k)
  have H2 := Lib.hid (h2.bd intEl_k)
  have RN := Lib.hid hr
  obtain ⟨a, c, rfl, ⟨hc, _⟩, hm, _⟩ := h1
  obtain ⟨a', c', rfl, ⟨hc', _⟩, hm', _⟩ := h2
  clear hr
  by_cases b1 : 400 < l.length
  · have b1' : (400 : Int) < (l.length : Int) := by omega
    go_enter Try.func7, Try.ntmps7
    go_wp2_with fail
    refine (l1awake_calls _).mono ?_
    rintro e w1 ⟨rfl, k1⟩
    have K := Lib.hid k1
    clear k1
    go_wp2
    go_ret
    exact ⟨rfl, K.out⟩
  · by_cases b2 : 400 < ns.length
    · have b1' : ¬ (400 : Int) < (l.length : Int) := by omega
      have b2' : (400 : Int) < (ns.length : Int) := by omega
      go_enter Try.func7, Try.ntmps7
      go_wp2_with fail
      refine (l1awake_calls _).mono ?_
      rintro e w1 ⟨rfl, k1⟩
      have K := Lib.hid k1
      clear k1
      go_wp2
      go_ret
      exact ⟨rfl, K.out⟩
    · by_cases b3 : 2000 < cells ∧ cells ≤ 1048576
      · have b1' : ¬ (400 : Int) < (l.length : Int) := by omega
        have b2' : ¬ (400 : Int) < (ns.length : Int) := by omega
        obtain ⟨b3', b4⟩ := b3
        have b4' : decide (cells ≤ 1048576) = true := decide_eq_true b4
        clear b4
        go_enter Try.func7, Try.ntmps7
        go_wp2_with fail
        refine (l1awake_calls _).mono ?_
        rintro e w1 ⟨rfl, k1⟩
        have K := Lib.hid k1
        clear k1
        go_wp2
        go_ret
        exact ⟨rfl, K.out⟩
      · have b1' : ¬ (400 : Int) < (l.length : Int) := by omega
        have b2' : ¬ (400 : Int) < (ns.length : Int) := by omega
        have b2n : ns.length ≤ 400 := by omega
        by_cases c1 : 2000 < cells
        focus
          have c2 : decide (cells ≤ 1048576) = false := decide_eq_false (by omega)
          clear b3
          go_enter Try.func7, Try.ntmps7
          go_wp2_with fail
        rotate_left
        focus
          clear b3
          go_enter Try.func7, Try.ntmps7
          go_wp2_with fail
        rotate_left
        all_goals
          try clear c2
          try clear b1 b1' b2'
          refine (l1lay_any H1.out fun b h => h.2).mono ?_
          rintro e w1 ⟨v1, L1, rfl, i1, y1, k1⟩
          have I1 := Lib.hid i1
          have Y1 := Lib.hid y1
          have K1 := Lib.hid k1
          clear i1 y1 k1
          go_wp2_with fail
          refine (r1Lay_any (H1.out.still' K1.out itemEl_k) fun b h => Nat.lt_of_lt_of_le h.2 K1.out.size).mono ?_
          rintro e w2 ⟨v2, L2, rfl, i2, y2, k2⟩
          obtain rfl := Y1.out.uniq y2
          have I2 := Lib.hid i2
          have K2 := Lib.hid (K1.out.tr k2)
          replace I1 := Lib.hid (I1.out.still' k2 intEl_k)
          clear i2 y2 k2 K1 Y1
          go_wp2_with fail
          refine (l1same_calls I1.out I2.out).mono ?_
          rintro e w3 ⟨rfl, d3⟩
          rw [decide_eq_true (show L1 = L1 from rfl)]
          have K3 := Lib.hid (K2.out.drewn d3)
          clear d3 K2 I1 I2
          go_wp2_with fail
          have ol := Own.lit0 61 itemEl Noneof w3
          have k4 := (Kept.refl Noneof w3).alloc (.cells #[] 61)
          have OL := Lib.hid (show Own 61 itemEl Noneof w3.heap.size (w3.alloc (.cells #[] 61)) (.slice (some ⟨w3.heap.size, 0, none⟩) 0 0) ((ns.take 0).map plainK) from ol)
          have K4 := Lib.hid (K3.out.tr k4)
          have S4 := Lib.hid k4.size
          clear ol k4
          go_loopw [7, 8] (fun v kv wr => ∃ k : Nat, k ≤ ns.length ∧ kv = .int .i64 k ∧ Hid (Own 61 itemEl Noneof w3.heap.size wr v ((ns.take k).map plainK)) ∧ Hid (Kept Noneof w wr) ∧ Hid (w3.heap.size ≤ wr.heap.size)) (fun _ kv _ => ns.length - (intOf kv).toNat)
          case atStart => exact ⟨0, Nat.zero_le _, rfl, OL, K4, S4⟩
          clear OL K4 S4
          obtain ⟨k, hk, rfl, O, KW, SZ⟩ := hrel
          obtain ⟨oa, on, oc, rfl⟩ := O.out.slice'
          by_cases hlt : k < ns.length
          · have hlt' : (k : Int) < (ns.length : Int) := by omega
            obtain ⟨_, _, hsl, _, _, rd⟩ := H2.out.still' KW.out intEl_k
            simp only [Value.slice.injEq] at hsl
            obtain ⟨rfl, -, rfl⟩ := hsl
            obtain ⟨b, o, rfl, db, e0⟩ := Rd.int rd hlt
            have SN := Lib.hid (show (ns.take k).map plainK ++ [plainK ns[k]] = (ns.take (k + 1)).map plainK by rw [List.take_add_one, List.getElem?_eq_getElem hlt, List.map_append]; rfl)
            have LE := Lib.hid (show ((ns.take k).map plainK).length ≤ 400 by rw [List.length_map, List.length_take]; omega)
            have RK := Lib.hid (show bits .xor .u64 (IntKind.u64.wrap ns[k]) 9223372036854775808 = rankN ns[k] from rfl)
            have GB := Lib.hid O.out.lt
            generalize ns[k] = x at *
            have DB := Lib.hid db.2
            clear rd db
            go_wp2_with fail
            refine wp_region_chain 14 [12, 13] (fun w' => w'.cell? ⟨b, o + k, none⟩ = some (.int .i64 x)) (by kernel_rfl) (by kernel_rfl) ?_ ?_
            · exact e0
            refine SeqW.out ?_
            simp only [List.take_succ_cons, List.take_zero, List.drop_succ_cons, List.drop_zero]
            have kd := (Kept.refl Noneof wr).drew
            replace e0 := kd.cell (p := ⟨b, o + k, none⟩) (fun h => h) e0
            replace O := Lib.hid (O.out.kept kd fun _ h => h.elim)
            replace KW := Lib.hid (KW.out.tr kd)
            replace SZ := Lib.hid (Nat.le_trans SZ.out kd.size)
            generalize wr.drew = wd at *
            clear kd
            iterate 12 (refine SeqW.val (v := ?_) (by rfl) (by rfl) (fun wx hSw => ?_) ?_; rotate_left; (focus ((try dsimp only at hSw); go_simp; (try with_reducible rfl))); (try simp only [Act.put, List.setIfInBounds_toArray, List.set_cons_zero, List.set_cons_succ]))
            rw [RK.out]
            refine SeqW.act (by rfl) rfl (by rfl) (by rfl) (fun K hK => ?_)
            go_simp
            have kA := (Kept.refl Noneof wd).alloc (.cells #[.int .i64 x, .int .u64 (rankN x), .slice none 0 0] 61)
            have qA := heap_alloc_new wd (.cells #[.int .i64 x, .int .u64 (rankN x), .slice none 0 0] 61)
            have sA : (wd.alloc (.cells #[.int .i64 x, .int .u64 (rankN x), .slice none 0 0] 61)).heap.size = wd.heap.size + 1 := by simp
            refine hK.out _ _ (kA.cell (p := ⟨b, o + k, none⟩) (fun h => h) e0) ?_
            replace e0 := kA.cell (p := ⟨b, o + k, none⟩) (fun h => h) e0
            have GB2 := Lib.hid O.out.lt
            replace O := Lib.hid (O.out.kept kA fun _ h => h.elim)
            replace KW := Lib.hid (KW.out.tr kA)
            replace SZ := Lib.hid (Nat.le_trans SZ.out kA.size)
            generalize wd.alloc (.cells #[.int .i64 x, .int .u64 (rankN x), .slice none 0 0] 61) = wa at *
            clear K hK kA
            (try simp only [Act.put, List.setIfInBounds_toArray, List.set_cons_zero, List.set_cons_succ])
            refine SeqW.act (by rfl) rfl (by rfl) (by rfl) (fun K hK => ?_)
            refine wp_app_one (E := itemEl) (D := Noneof) (D' := Noneof) (.tmp 42) (.tmp 54) _ rfl tItems _ _ rfl O.out wd.heap.size [.int .i64 x, .int .u64 (rankN x), .slice none 0 0] (plainK x) rfl ⟨_, _, qA⟩ ⟨_, rfl, BV.nil _ _⟩ (fun _ h => h.elim) (by have := LE.out; omega) (by omega) SZ.out ?_
            intro v5 w5 ho5 k5 b5
            rw [SN.out] at ho5
            have O5 := Lib.hid ho5
            have hbw : ¬ (Value.slice oa on oc).ownBlock = some b := fun e => by have := (O.out.lt b e).1; have := DB.out; have := K3.out.size; omega
            have K5 := Lib.hid (KW.out.trans k5 fun b e => .inr (by have := (O.out.lt b e).1; have := K3.out.size; omega))
            have S5 := Lib.hid (Nat.le_trans SZ.out k5.size)
            refine hK.out _ _ (k5.cell (p := ⟨b, o + k, none⟩) hbw e0) ?_
            clear K hK ho5 k5 b5 hbw O KW SZ e0
            (try simp only [Act.put, List.setIfInBounds_toArray, List.set_cons_zero, List.set_cons_succ])
            refine SeqW.nil ?_
            go_wp2
            go_roundw
            case rel => exact ⟨k + 1, by omega, by go_num, O5, K5, S5⟩
            case measure => simp [intOf]; omega
          · obtain rfl : k = ns.length := by omega
            have OP := Lib.hid (show Own 61 itemEl Noneof w3.heap.size wr (.slice oa on oc) (ns.map plainK) by
              have := O.out
              rwa [List.take_of_length_le (Nat.le_refl _)] at this)
            clear O hlt
            go_wp2_with fail
            refine (lysN_any (H2.out.still' KW.out intEl_k) RN.out fun b h => Nat.lt_of_lt_of_le h.2 KW.out.size).mono ?_
            rintro e w5 ⟨v5, L5, rfl, i5, y5, k5⟩
            have I5 := Lib.hid i5
            have Y5 := Lib.hid y5
            have K5 := Lib.hid (KW.out.tr k5)
            replace OP := Lib.hid (OP.out.kept k5 fun _ h => h.elim)
            clear i5 y5 k5 KW
            go_wp2_with fail
            refine (r1Lay_any (OP.out.sv.bd itemEl_k) fun b h => h.2).mono ?_
            rintro e w6 ⟨v6, L6, rfl, i6, y6, k6⟩
            obtain rfl := Y5.out.uniq y6
            have I6 := Lib.hid i6
            have K6 := Lib.hid (K5.out.tr k6)
            replace I5 := Lib.hid (I5.out.still' k6 intEl_k)
            clear i6 y6 k6 K5 Y5 OP
            go_wp2_with fail
            refine (l1same_calls I5.out I6.out).mono ?_
            rintro e w7 ⟨rfl, d7⟩
            rw [decide_eq_true (show L5 = L5 from rfl)]
            have K7 := Lib.hid (K6.out.drewn d7)
            clear d7 K6 I5 I6
            go_wp2_with fail
            refine (slLayout_int_nost).mono ?_
            rintro e w8 ⟨rfl, k8⟩
            have K8 := Lib.hid (K7.out.tr k8)
            clear k8 K7
            go_wp2_with fail
            refine (l1awake_calls _).mono ?_
            rintro e w9 ⟨rfl, k9⟩
            have K9 := Lib.hid (K8.out.tr k9)
            clear k9 K8
            go_wp2_with fail
            refine (slLayout_r1Item_nobe).mono ?_
            rintro e wA ⟨rfl, kA⟩
            have KA := Lib.hid (K9.out.tr kA)
            clear kA K9
            go_wp2
            go_ret
            exact ⟨rfl, KA.out⟩
end Go.Proofs.Ytaopjdjbpamhhaa
/- Proved: the law SlotsLays returns true for all its arguments, and each argument reads afterwards as it read before. No condition beyond the statement's own. -/
namespace Go.Proofs.Ytaopjdjbpamhhaa.slotsLays
open Go.ChangeShapes Go.WideShapes Go.ChangeAt Go.RowKit
set_option linter.unusedVariables false
theorem opensInt : Opens Try.prog 3 intREl := opens_int Try.underlying3
theorem opensItem : Opens Try.prog 61 itemEl := opens_item (ti := 3) (tu := 22) (t := 31) (e := 5) (Try.underlying61) rfl rfl rfl rfl rfl rfl (by kernel_rfl) (by kernel_rfl) (by kernel_rfl) (by kernel_rfl) Try.underlying3 Try.underlying22 Try.underlying31 Try.underlying5 (by kernel_rfl) (of_decide_eq_true (by kernel_rfl))
set_option maxRecDepth 100000 in
theorem lifted (os : Os) (started : os.Started) (H : Type) (enc : TypeId × Value → H) :
    ReturnsInHanded {} Try.checked os 7 .any (Rows.slotsLaysSpec.pre6 enc Try.prog Try.f7 Rows.slotsLaysRow.domain false) (Rows.slotsLaysSpec.post enc Try.prog Try.f7 false true false false) := by
  refine returnsInHanded_of_change_sized (C := Try.checked) Facts.own started (by kernel_rfl) Try.func7
    (ChangeSpec.witness6 (enc := enc) (C := Try.checked) false ⟨#[], #[.int .i64 0, .slice none 0 0, .slice none 0 0], []⟩ 8 (by kernel_rfl) (by kernel_rfl) (by kernel_rfl) (by kernel_rfl)) ?_
  intro W base args ds gs before hval0 hW hcnd hsz0 _
  have hsz : (DataW.weightsEach Try.prog (Try.f7.params.toList ++ Rows.slotsLaysSpec.plain.varTypes Try.prog) (ds ++ gs)).all (· ≤ reachBytes) = true := hsz0
  have hval : ∀ (j : Nat) t v, Try.f7.params[j]? = some t → args[j]? = some v → Value.okWide Try.prog W .any base t v := hval0
  have hW' := hW
  obtain ⟨p, q, hA0, hV, rfl, hfz, hnd⟩ := hW
  have hA : DataW.TrodAll enc Try.prog W 0 (fun _ => true) true Try.f7.params.toList args.toList ds p := hA0
  rw [Try.params7] at hA hval hsz
  obtain ⟨v0, vs0, d0, ds0, p0, q0, hargs, rfl, rfl, h0, r0⟩ := trodAll_cons hA
  obtain ⟨v1, vs1, d1, ds1, p1, q1, rfl, rfl, rfl, h1, r1⟩ := trodAll_cons r0
  obtain ⟨v2, vs2, d2, ds2, p2, q2, rfl, rfl, rfl, h2, r2⟩ := trodAll_cons r1
  obtain ⟨rfl, rfl, rfl⟩ := trodAll_nil r2
  obtain rfl : args = #[v0, v1, v2] := by cases args; simp_all
  obtain ⟨rfl, rfl⟩ := trodVars_none hV
  obtain ⟨a0, rfl, rfl, rfl, w0⟩ := open_int Try.underlying3 (hval 0 3 v0 rfl rfl) h0
  obtain ⟨a1, len1, cap1, rfl⟩ := okWide_slice Try.underlying57 (hval 1 57 v1 rfl rfl)
  obtain ⟨a2, len2, cap2, rfl⟩ := okWide_slice Try.underlying44 (hval 2 44 v2 rfl rfl)
  have k1 := h1
  have lt1 : ∀ x ∈ p1, x.block < W.heap.size := by obtain ⟨m, hm⟩ := k1; exact DataW.trod_lt m _ _ _ hm
  have k2 := h2
  have lt2 : ∀ x ∈ p2, x.block < W.heap.size := by obtain ⟨m, hm⟩ := k2; exact DataW.trod_lt m _ _ _ hm
  obtain ⟨l1, s1⟩ := open_arg (E := itemEl) (j := 1) itemEl_k opensItem Try.underlying57 (by kernel_rfl) (of_decide_eq_true (by kernel_rfl)) h1 rfl hsz rfl rfl
  obtain ⟨l2, s2⟩ := open_arg (E := intREl) (j := 2) intREl_k opensInt Try.underlying44 (by kernel_rfl) (of_decide_eq_true (by kernel_rfl)) h2 rfl hsz rfl rfl
  clear hA0 hval0 hsz0
  refine (slotsLays_walk s1 s2.ints.1 s2.ints.2).mono fun e W' ⟨he, kw⟩ => ?_
  have bel : Below W.heap.size W W' := kw.below (Nat.le_refl _) fun _ h => h.elim
  subst he
  exact ⟨_, rfl, _, _, _, [], _, [], hW', trodAll_mk1 (shut_bool Try.underlying4 _), (trodAll_cons_mk (shut_int Try.underlying3 w0) (trodAll_cons_mk (Below.trod Facts.laid (by kernel_rfl) (of_decide_eq_true (by kernel_rfl)) k1 bel lt1) (trodAll_cons_mk (Below.trod Facts.laid (by kernel_rfl) (of_decide_eq_true (by kernel_rfl)) k2 bel lt2) trodAll_mk0))), rfl, bel.frame _, fun h => by cases h⟩
set_option maxHeartbeats 4000000 in
theorem closed : joinedFacts Try.prog 7 Try.f7 Rows.slotsLaysSpec Rows.slotsLaysRow = true := by
  refine Facts.joined 7 Try.f7 Rows.slotsLaysSpec Rows.slotsLaysRow ?_ ?_ ?_ ?_ ?_ ?_ ?_ ?_ ?_ ?_ ?_ ?_ ?_ ?_ ?_ ?_ ?_ ?_ ?_ ?_ ?_ ?_ ?_ ?_ ?_ ?_ ?_ <;> exact (by as_aux_lemma => kernel_rfl)
set_option maxHeartbeats 4000000 in
theorem over : Rows.slotsLaysRow.holds Try.pinned (OpenSpec.ofChange Rows.slotsLaysSpec) :=
  OpenClaim.holds_of_wide 7 Try.f7 rfl rfl rfl rfl rfl rfl rfl ⟨rfl, rfl, rfl, rfl, rfl⟩ rfl rfl rfl rfl rfl (by as_aux_lemma => kernel_rfl) Try.func7 closed
    (of_decide_eq_true (by as_aux_lemma => kernel_rfl)) (by unfold Func.isWrapper; first | (rw [if_pos (by decide +kernel)]; kernel_rfl) | (rw [if_neg (by decide +kernel)]; exact ⟨rfl, rfl⟩))
    (fun os started H enc _ => lifted os started H enc)
theorem proved : Rows.SlotsLaysSaid := over
end Go.Proofs.Ytaopjdjbpamhhaa.slotsLays
namespace Go.Proofs.Ytaopjdjbpamhhaa
theorem slotsLays_holds : Rows.SlotsLaysSaid := slotsLays.proved
#print axioms slotsLays_holds
end Go.Proofs.Ytaopjdjbpamhhaa
