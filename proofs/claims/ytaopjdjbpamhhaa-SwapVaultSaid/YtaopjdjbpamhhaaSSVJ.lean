/- Proved: texts of the families over slots, order and swap, joined, as far as the claim needs them. Conditions: as each theorem says. -/
import Derived.Test.YtaopjdjbpamhhaaSSVI
import Derived.Deep.DeepCutAuto
/- Proved: contract of the comparison that Layout (Ent) hands to the sort. Conditions: items in memory; the given order answers as a plain function. -/
namespace Go.Proofs.Ytaopjdjbpamhhaa
open Go Go.RowKit
set_option linter.unusedVariables false
set_option linter.unusedSimpArgs false
set_option maxRecDepth 100000 in
set_option maxHeartbeats 4000000 in
theorem slLayout_slentry_1_calls {seed : Int} {w : World} {b5 b7 bf B : Nat} {bcb : Array Value} {bef : (Bts × Bts) → (Bts × Bts) → Bool} {l : List (Bts × Bts)} {items : Value} {D : Nat → Prop} {I : World → Prop} {X : Nat → Prop} (hC : BefOk elVs (entEl seed) bf bcb bef D I X B) (hBw : B ≤ w.heap.size) (h0 : I w) (hs : SV (entEl seed) D w items l)
    (c5 : w.cell? ⟨b5, 0, none⟩ = some items) (c7 : w.cell? ⟨b7, 0, none⟩ = some (.func (.func bf) #[] bcb)) (x5 : ¬ X b5) (x7 : ¬ X b7) (hX : ∀ b, X b → b < w.heap.size) (hDX : ∀ b, D b → ¬ X b) {x y : Int × Int} {i j : Nat} (hi : i < l.length) (hj : j < l.length) (ex : x.1 = i) (ey : y.1 = j) :
    Calls Try.prog 178 #[plC x, plC y, bp b7, bp b5] w fun e w' => e = .returned (.int .i64 (cfP bef l x y)) ∧ I w' ∧ Kept X w w' := by
  have LT := Lib.hid (fun h => cfP_lt1 (bef := bef) hi hj ex ey h)
  have GT := Lib.hid (fun h h' => cfP_gt1 (bef := bef) hi hj ex ey h h')
  have EQ := Lib.hid (fun h h' => cfP_eq1 (bef := bef) hi hj ex ey h h')
  generalize cfP bef l x y = res at *
  have C := Lib.hid hC
  have eg := hC.enter
  have HDX := Lib.hid hDX
  have ii : (i : Int) < (l.length : Int) := by omega
  have ij : (j : Int) < (l.length : Int) := by omega
  obtain ⟨a, c, rfl, _, _, rd⟩ := hs
  obtain ⟨b, o, kxi, vxi, rfl, db, i0, i1, i2, i3, Hkxi, Hvxi⟩ := Rd.ent rd hi
  obtain ⟨b', o', kxj, vxj, e', _, j0, j1, j2, j3, Hkxj, Hvxj⟩ := Rd.ent rd hj
  simp only [Option.some.injEq, Addr.mk.injEq, and_true] at e'
  obtain ⟨rfl, rfl⟩ := e'
  have xb : ¬ X b := hDX b db
  replace Hkxi := Lib.hid Hkxi
  replace Hvxi := Lib.hid Hvxi
  replace Hkxj := Lib.hid Hkxj
  replace Hvxj := Lib.hid Hvxj
  generalize l[i] = xi at *
  generalize l[j] = xj at *
  obtain ⟨x0, x1⟩ := x
  obtain ⟨y0, y1⟩ := y
  simp only at ex ey
  subst ex
  subst ey
  clear hC hDX hi hj
  unfold plC
  simp only
  go_enter Try.func178, Try.ntmps178
  go_wp2_with fail
  have k1 := (Kept.refl Noneof w).alloc (.cells #[.int .i64 (i : Int), .int .i64 x1] 152)
  have q1 := heap_alloc_new w (.cells #[.int .i64 (i : Int), .int .i64 x1] 152)
  have s1 : (w.alloc (.cells #[.int .i64 (i : Int), .int .i64 x1] 152)).heap.size = w.heap.size + 1 := by simp
  generalize w.alloc (.cells #[.int .i64 (i : Int), .int .i64 x1] 152) = w1 at *
  have k2 := (Kept.refl Noneof w1).alloc (.cells #[.int .i64 (j : Int), .int .i64 y1] 152)
  have q2 := heap_alloc_new w1 (.cells #[.int .i64 (j : Int), .int .i64 y1] 152)
  rw [s1] at q2
  replace q1 := k2.obj (fun h => h) q1
  have k3 := k1.tr k2
  generalize w1.alloc (.cells #[.int .i64 (j : Int), .int .i64 y1] 152) = wr at *
  have p4 : wr.cell? ⟨w.heap.size, 0, none⟩ = some (.int .i64 (i : Int)) := by simp [World.cell?, q1]
  have p5 : wr.cell? ⟨w.heap.size + 1, 0, none⟩ = some (.int .i64 (j : Int)) := by simp [World.cell?, q2]
  have x4 : ¬ X w.heap.size := fun h => by have := hX _ h; omega
  have x4s : ¬ X (w.heap.size + 1) := fun h => by have := hX _ h; omega
  replace c5 := k3.cell (p := ⟨b5, 0, none⟩) (fun h => h) c5
  replace c7 := k3.cell (p := ⟨b7, 0, none⟩) (fun h => h) c7
  replace i0 := k3.cell (p := ⟨b, o + i * 4, none⟩) (fun h => h) i0
  replace i1 := k3.cell (p := ⟨b, o + i * 4 + 1, none⟩) (fun h => h) i1
  replace i2 := k3.cell (p := ⟨b, o + i * 4 + 2, none⟩) (fun h => h) i2
  replace i3 := k3.cell (p := ⟨b, o + i * 4 + 3, none⟩) (fun h => h) i3
  replace j0 := k3.cell (p := ⟨b, o + j * 4, none⟩) (fun h => h) j0
  replace j1 := k3.cell (p := ⟨b, o + j * 4 + 1, none⟩) (fun h => h) j1
  replace j2 := k3.cell (p := ⟨b, o + j * 4 + 2, none⟩) (fun h => h) j2
  replace j3 := k3.cell (p := ⟨b, o + j * 4 + 3, none⟩) (fun h => h) j3
  replace Hkxi := Lib.hid (Hkxi.out.still' k3)
  replace Hvxi := Lib.hid (Hvxi.out.still' k3)
  replace Hkxj := Lib.hid (Hkxj.out.still' k3)
  replace Hvxj := Lib.hid (Hvxj.out.still' k3)
  have hI := Lib.hid (C.out.stay _ _ h0 (k3.mono fun _ h => h.elim))
  have kw := Lib.hid (k3.mono (T := X) fun _ h => h.elim)
  generalize w.heap.size = n4 at *
  clear k1 k2 k3 q1 q2 s1 h0 hX rd db
  refine wp_region_chain 12 [11] (fun w' => w'.cell? ⟨b5, 0, none⟩ = some ((.slice (some ⟨b, o, none⟩) l.length c)) ∧ w'.cell? ⟨b7, 0, none⟩ = some ((.func (.func bf) #[] bcb)) ∧ w'.cell? ⟨n4, 0, none⟩ = some (.int .i64 (i : Int)) ∧ w'.cell? ⟨n4 + 1, 0, none⟩ = some (.int .i64 (j : Int)) ∧ w'.cell? ⟨b, o + i * 4, none⟩ = some (kxi) ∧ w'.cell? ⟨b, o + i * 4 + 1, none⟩ = some (vxi) ∧ w'.cell? ⟨b, o + i * 4 + 2, none⟩ = some (.int .u64 (coin seed 1 xi.1)) ∧ w'.cell? ⟨b, o + i * 4 + 3, none⟩ = some (.int .u64 (coin seed 2 xi.1)) ∧ w'.cell? ⟨b, o + j * 4, none⟩ = some (kxj) ∧ w'.cell? ⟨b, o + j * 4 + 1, none⟩ = some (vxj) ∧ w'.cell? ⟨b, o + j * 4 + 2, none⟩ = some (.int .u64 (coin seed 1 xj.1)) ∧ w'.cell? ⟨b, o + j * 4 + 3, none⟩ = some (.int .u64 (coin seed 2 xj.1))) (by kernel_rfl) (by kernel_rfl) ?_ ?_
  · exact ⟨c5, c7, p4, p5, i0, i1, i2, i3, j0, j1, j2, j3⟩
  refine SeqW.out ?_
  simp only [List.take_succ_cons, List.take_zero, List.drop_succ_cons, List.drop_zero]
  have kd := (Kept.refl Noneof wr).drew
  replace c5 := kd.cell (p := ⟨b5, 0, none⟩) (fun h => h) c5
  replace c7 := kd.cell (p := ⟨b7, 0, none⟩) (fun h => h) c7
  replace p4 := kd.cell (p := ⟨n4, 0, none⟩) (fun h => h) p4
  replace p5 := kd.cell (p := ⟨n4 + 1, 0, none⟩) (fun h => h) p5
  replace i0 := kd.cell (p := ⟨b, o + i * 4, none⟩) (fun h => h) i0
  replace i1 := kd.cell (p := ⟨b, o + i * 4 + 1, none⟩) (fun h => h) i1
  replace i2 := kd.cell (p := ⟨b, o + i * 4 + 2, none⟩) (fun h => h) i2
  replace i3 := kd.cell (p := ⟨b, o + i * 4 + 3, none⟩) (fun h => h) i3
  replace j0 := kd.cell (p := ⟨b, o + j * 4, none⟩) (fun h => h) j0
  replace j1 := kd.cell (p := ⟨b, o + j * 4 + 1, none⟩) (fun h => h) j1
  replace j2 := kd.cell (p := ⟨b, o + j * 4 + 2, none⟩) (fun h => h) j2
  replace j3 := kd.cell (p := ⟨b, o + j * 4 + 3, none⟩) (fun h => h) j3
  replace Hkxi := Lib.hid (Hkxi.out.still' kd)
  replace Hvxi := Lib.hid (Hvxi.out.still' kd)
  replace Hkxj := Lib.hid (Hkxj.out.still' kd)
  replace Hvxj := Lib.hid (Hvxj.out.still' kd)
  replace hI := Lib.hid (C.out.stay _ _ hI.out (kd.mono fun _ h => h.elim))
  replace kw := Lib.hid (kw.out.tr (kd.mono fun _ h => h.elim))
  generalize wr.drew = wd at *
  clear kd
  iterate 11 (refine SeqW.val (v := ?_) (by rfl) (by rfl) (fun wx hSw => ?_) ?_; rotate_left; (focus ((try dsimp only at hSw); go_simp; (try with_reducible rfl))); (try simp only [Act.put, List.setIfInBounds_toArray, List.set_cons_zero, List.set_cons_succ]))
  refine SeqW.act (by rfl) rfl (by rfl) (by rfl) (fun K hK => ?_)
  go_simp
  refine (C.out.calls wd [kxi, vxi, .int .u64 (coin seed 1 xi.1), .int .u64 (coin seed 2 xi.1)] [kxj, vxj, .int .u64 (coin seed 1 xj.1), .int .u64 (coin seed 2 xj.1)] xi xj hI.out ⟨kxi, vxi, rfl, Hkxi.out, Hvxi.out⟩ ⟨kxj, vxj, rfl, Hkxj.out, Hvxj.out⟩).mono ?_
  rintro e we ⟨rfl, hie, ke⟩
  replace c5 := ke.cell (p := ⟨b5, 0, none⟩) x5 c5
  replace c7 := ke.cell (p := ⟨b7, 0, none⟩) x7 c7
  replace p4 := ke.cell (p := ⟨n4, 0, none⟩) x4 p4
  replace p5 := ke.cell (p := ⟨n4 + 1, 0, none⟩) x4s p5
  replace i0 := ke.cell (p := ⟨b, o + i * 4, none⟩) xb i0
  replace i1 := ke.cell (p := ⟨b, o + i * 4 + 1, none⟩) xb i1
  replace i2 := ke.cell (p := ⟨b, o + i * 4 + 2, none⟩) xb i2
  replace i3 := ke.cell (p := ⟨b, o + i * 4 + 3, none⟩) xb i3
  replace j0 := ke.cell (p := ⟨b, o + j * 4, none⟩) xb j0
  replace j1 := ke.cell (p := ⟨b, o + j * 4 + 1, none⟩) xb j1
  replace j2 := ke.cell (p := ⟨b, o + j * 4 + 2, none⟩) xb j2
  replace j3 := ke.cell (p := ⟨b, o + j * 4 + 3, none⟩) xb j3
  replace Hkxi := Lib.hid (Hkxi.out.kept byteEl_k ke fun b h _ => HDX.out b h)
  replace Hvxi := Lib.hid (Hvxi.out.kept byteEl_k ke fun b h _ => HDX.out b h)
  replace Hkxj := Lib.hid (Hkxj.out.kept byteEl_k ke fun b h _ => HDX.out b h)
  replace Hvxj := Lib.hid (Hvxj.out.kept byteEl_k ke fun b h _ => HDX.out b h)
  refine hK.out _ _ ⟨c5, c7, p4, p5, i0, i1, i2, i3, j0, j1, j2, j3⟩ ?_
  replace hI := Lib.hid hie
  replace kw := Lib.hid (kw.out.tr ke)
  clear K hK ke hie
  (try simp only [Act.put, List.setIfInBounds_toArray, List.set_cons_zero, List.set_cons_succ])
  cases hb : bef xi xj
  · have GT1 := Lib.hid (GT.out hb)
    have EQ1 := Lib.hid (EQ.out hb)
    clear LT GT EQ
    refine SeqW.nil ?_
    go_wp2_with fail
    generalize we = wr at *
    clear hb
    refine wp_region_chain 12 [11] (fun w' => w'.cell? ⟨b5, 0, none⟩ = some ((.slice (some ⟨b, o, none⟩) l.length c)) ∧ w'.cell? ⟨b7, 0, none⟩ = some ((.func (.func bf) #[] bcb)) ∧ w'.cell? ⟨n4, 0, none⟩ = some (.int .i64 (i : Int)) ∧ w'.cell? ⟨n4 + 1, 0, none⟩ = some (.int .i64 (j : Int)) ∧ w'.cell? ⟨b, o + i * 4, none⟩ = some (kxi) ∧ w'.cell? ⟨b, o + i * 4 + 1, none⟩ = some (vxi) ∧ w'.cell? ⟨b, o + i * 4 + 2, none⟩ = some (.int .u64 (coin seed 1 xi.1)) ∧ w'.cell? ⟨b, o + i * 4 + 3, none⟩ = some (.int .u64 (coin seed 2 xi.1)) ∧ w'.cell? ⟨b, o + j * 4, none⟩ = some (kxj) ∧ w'.cell? ⟨b, o + j * 4 + 1, none⟩ = some (vxj) ∧ w'.cell? ⟨b, o + j * 4 + 2, none⟩ = some (.int .u64 (coin seed 1 xj.1)) ∧ w'.cell? ⟨b, o + j * 4 + 3, none⟩ = some (.int .u64 (coin seed 2 xj.1))) (by kernel_rfl) (by kernel_rfl) ?_ ?_
    · exact ⟨c5, c7, p4, p5, i0, i1, i2, i3, j0, j1, j2, j3⟩
    refine SeqW.out ?_
    simp only [List.take_succ_cons, List.take_zero, List.drop_succ_cons, List.drop_zero]
    have kd := (Kept.refl Noneof wr).drew
    replace c5 := kd.cell (p := ⟨b5, 0, none⟩) (fun h => h) c5
    replace c7 := kd.cell (p := ⟨b7, 0, none⟩) (fun h => h) c7
    replace p4 := kd.cell (p := ⟨n4, 0, none⟩) (fun h => h) p4
    replace p5 := kd.cell (p := ⟨n4 + 1, 0, none⟩) (fun h => h) p5
    replace i0 := kd.cell (p := ⟨b, o + i * 4, none⟩) (fun h => h) i0
    replace i1 := kd.cell (p := ⟨b, o + i * 4 + 1, none⟩) (fun h => h) i1
    replace i2 := kd.cell (p := ⟨b, o + i * 4 + 2, none⟩) (fun h => h) i2
    replace i3 := kd.cell (p := ⟨b, o + i * 4 + 3, none⟩) (fun h => h) i3
    replace j0 := kd.cell (p := ⟨b, o + j * 4, none⟩) (fun h => h) j0
    replace j1 := kd.cell (p := ⟨b, o + j * 4 + 1, none⟩) (fun h => h) j1
    replace j2 := kd.cell (p := ⟨b, o + j * 4 + 2, none⟩) (fun h => h) j2
    replace j3 := kd.cell (p := ⟨b, o + j * 4 + 3, none⟩) (fun h => h) j3
    replace Hkxi := Lib.hid (Hkxi.out.still' kd)
    replace Hvxi := Lib.hid (Hvxi.out.still' kd)
    replace Hkxj := Lib.hid (Hkxj.out.still' kd)
    replace Hvxj := Lib.hid (Hvxj.out.still' kd)
    replace hI := Lib.hid (C.out.stay _ _ hI.out (kd.mono fun _ h => h.elim))
    replace kw := Lib.hid (kw.out.tr (kd.mono fun _ h => h.elim))
    generalize wr.drew = wd at *
    clear kd
    iterate 11 (refine SeqW.val (v := ?_) (by rfl) (by rfl) (fun wx hSw => ?_) ?_; rotate_left; (focus ((try dsimp only at hSw); go_simp; (try with_reducible rfl))); (try simp only [Act.put, List.setIfInBounds_toArray, List.set_cons_zero, List.set_cons_succ]))
    refine SeqW.act (by rfl) rfl (by rfl) (by rfl) (fun K hK => ?_)
    go_simp
    refine (C.out.calls wd [kxj, vxj, .int .u64 (coin seed 1 xj.1), .int .u64 (coin seed 2 xj.1)] [kxi, vxi, .int .u64 (coin seed 1 xi.1), .int .u64 (coin seed 2 xi.1)] xj xi hI.out ⟨kxj, vxj, rfl, Hkxj.out, Hvxj.out⟩ ⟨kxi, vxi, rfl, Hkxi.out, Hvxi.out⟩).mono ?_
    rintro e we ⟨rfl, hie, ke⟩
    replace c5 := ke.cell (p := ⟨b5, 0, none⟩) x5 c5
    replace c7 := ke.cell (p := ⟨b7, 0, none⟩) x7 c7
    replace p4 := ke.cell (p := ⟨n4, 0, none⟩) x4 p4
    replace p5 := ke.cell (p := ⟨n4 + 1, 0, none⟩) x4s p5
    replace i0 := ke.cell (p := ⟨b, o + i * 4, none⟩) xb i0
    replace i1 := ke.cell (p := ⟨b, o + i * 4 + 1, none⟩) xb i1
    replace i2 := ke.cell (p := ⟨b, o + i * 4 + 2, none⟩) xb i2
    replace i3 := ke.cell (p := ⟨b, o + i * 4 + 3, none⟩) xb i3
    replace j0 := ke.cell (p := ⟨b, o + j * 4, none⟩) xb j0
    replace j1 := ke.cell (p := ⟨b, o + j * 4 + 1, none⟩) xb j1
    replace j2 := ke.cell (p := ⟨b, o + j * 4 + 2, none⟩) xb j2
    replace j3 := ke.cell (p := ⟨b, o + j * 4 + 3, none⟩) xb j3
    replace Hkxi := Lib.hid (Hkxi.out.kept byteEl_k ke fun b h _ => HDX.out b h)
    replace Hvxi := Lib.hid (Hvxi.out.kept byteEl_k ke fun b h _ => HDX.out b h)
    replace Hkxj := Lib.hid (Hkxj.out.kept byteEl_k ke fun b h _ => HDX.out b h)
    replace Hvxj := Lib.hid (Hvxj.out.kept byteEl_k ke fun b h _ => HDX.out b h)
    refine hK.out _ _ ⟨c5, c7, p4, p5, i0, i1, i2, i3, j0, j1, j2, j3⟩ ?_
    replace hI := Lib.hid hie
    replace kw := Lib.hid (kw.out.tr ke)
    clear K hK ke hie
    (try simp only [Act.put, List.setIfInBounds_toArray, List.set_cons_zero, List.set_cons_succ])
    cases hb : bef xj xi
    · have O := Lib.hid (EQ1.out hb)
      clear hb
      refine SeqW.nil ?_
      go_wp2
      go_ret
      exact ⟨by rw [O.out]; rfl, hI.out, kw.out⟩
    · have O := Lib.hid (GT1.out hb)
      clear hb
      refine SeqW.nil ?_
      go_wp2
      go_ret
      exact ⟨by rw [O.out]; rfl, hI.out, kw.out⟩
  · have O := Lib.hid (LT.out hb)
    clear LT GT EQ hb
    refine SeqW.nil ?_
    go_wp2
    go_ret
    exact ⟨by rw [O.out]; rfl, hI.out, kw.out⟩
end Go.Proofs.Ytaopjdjbpamhhaa
/- Proved: contract of Layout (Ent). Conditions: items in memory; at most 1048576 cells, no more items than cells; 'start' and 'before' answer as plain functions. -/
namespace Go.Proofs.Ytaopjdjbpamhhaa
open Go Go.RowKit
set_option linter.unusedVariables false
set_option linter.unusedSimpArgs false
/-- What stays true while places are compared. -/
def EntInv {seed : Int} (I : World → Prop) (D : Nat → Prop) (items : Value) (l : List (Bts × Bts)) (b5 b7 bf : Nat) (bcb : Array Value) (w : World) : Prop :=
  I w ∧ SV (entEl seed) D w items l ∧ w.cell? ⟨b5, 0, none⟩ = some items ∧ w.cell? ⟨b7, 0, none⟩ = some (.func (.func bf) #[] bcb)
theorem Ent_cmpOk {seed : Int} {b5 b7 bf B g M : Nat} {bcb : Array Value} {bef : (Bts × Bts) → (Bts × Bts) → Bool} {l : List (Bts × Bts)} {items : Value} {D : Nat → Prop} {I : World → Prop} {X : Nat → Prop} (hC : BefOk elVs (entEl seed) bf bcb bef D I X B) (hM : B ≤ M)
    (h5 : B ≤ b5) (h7 : B ≤ b7) (hg : B ≤ g) (g5 : b5 ≠ g) (g7 : b7 ≠ g) (hX : ∀ b, X b → b < B) (hD : ∀ b, D b → b < B) (hDX : ∀ b, D b → ¬ X b) :
    CmpOk 178 #[bp b7, bp b5] g l.length (cfP bef l) (fun w => EntInv (seed := seed) I D items l b5 b7 bf bcb w ∧ B ≤ w.heap.size) X where
  enter := fun args w => enters_of Try.func178 (by kernel_rfl) rfl args w
  cmp := fun w x y hI ox oy => by
    obtain ⟨⟨i0, i1, i2, i3⟩, i4⟩ := hI
    obtain ⟨i, hi, ex⟩ := ox
    obtain ⟨j, hj, ey⟩ := oy
    refine (slLayout_slentry_1_calls hC i4 i0 i1 i2 i3 (fun h => by have := hX _ h; omega) (fun h => by have := hX _ h; omega) (fun b h => by have := hX b h; omega) hDX hi hj ex ey).mono ?_
    rintro e w' ⟨rfl, hi', kw⟩
    have x5 : ¬ X b5 := fun h => by have := hX _ h; omega
    have x7 : ¬ X b7 := fun h => by have := hX _ h; omega
    refine ⟨rfl, ⟨⟨hi', i1.kept (entEl_k seed) kw fun b h _ => hDX b h, kw.cell (p := ⟨b5, 0, none⟩) x5 i2, kw.cell (p := ⟨b7, 0, none⟩) x7 i3⟩, Nat.le_trans i4 kw.size⟩, kw⟩
  row := fun h => by have := hX _ h; omega
  stay := fun w w' hI kw => by
    obtain ⟨⟨i0, i1, i2, i3⟩, i4⟩ := hI
    exact ⟨⟨hC.stay _ _ i0 (kw.mono fun b e => e ▸ hg), i1.kept (entEl_k seed) kw fun b h _ e => by have := hD b h; omega, kw.cell (p := ⟨b5, 0, none⟩) g5 i2, kw.cell (p := ⟨b7, 0, none⟩) g7 i3⟩, Nat.le_trans i4 kw.size⟩
  swo := cfP_swo hC.swo l

set_option maxRecDepth 100000 in
set_option maxHeartbeats 8000000 in
theorem slLayout_slentry_calls {seed : Int} {w : World} {cells sf bf : Nat} {scb bcb : Array Value} {items : Value} {l : List (Bts × Bts)} {st : (Bts × Bts) → Int} {bef : (Bts × Bts) → (Bts × Bts) → Bool} {D X : Nat → Prop} {J : Nat → World → Prop} {I : World → Prop}
    (hs : SV (entEl seed) D w items l) (hS : StOk elVs (entEl seed) sf scb st l D J X w.heap.size) (hC : BefOk elVs (entEl seed) bf bcb bef D I X w.heap.size) (hJ : J 0 w) (hJI : ∀ w, J l.length w → I w)
    (h1 : 1 ≤ cells) (h2 : cells ≤ 1048576) (hl : l.length ≤ cells) (hX : ∀ b, X b → b < w.heap.size) (hDX : ∀ b, D b → ¬ X b) (hD : ∀ b, D b → b < w.heap.size) :
    Calls Try.prog 146 #[.int .i64 cells, items, .func (.func sf) #[] scb, .func (.func bf) #[] bcb] w fun e w' => ∃ g ord, e = .returned (.slice (some ⟨g, 0, none⟩) cells cells) ∧ Ordd (befN bef l) l.length ord ∧
      Own 3 intEl Noneof w.heap.size w' (.slice (some ⟨g, 0, none⟩) cells cells) (layF cells (fun i => homeN cells (st (l.getD i default))) ord) ∧ I w' ∧ Kept X w w' := by
  have HS := Lib.hid hs
  have SS := Lib.hid hS
  have CC := Lib.hid hC
  have HJ := Lib.hid hJ
  have HJI := Lib.hid hJI
  have HX := Lib.hid hX
  have HDX := Lib.hid hDX
  have HD := Lib.hid hD
  have es := hS.enter
  have eb := hC.enter
  have HH := Lib.hid (fun i => homeN_lt (cells := cells) (st (l.getD i default)) h1)
  obtain ⟨a, c, rfl, ⟨hc, hn⟩, hm, rd⟩ := hs
  clear hS hC hJ hJI hX hDX hD rd hn
  obtain ⟨n, hn⟩ : ∃ n, l.length = n := ⟨_, rfl⟩
  rw [hn]
  rw [hn] at hl hc hm
  replace hn := Lib.hid hn
  obtain ⟨home, hhome⟩ : ∃ home : Nat → Nat, home = fun i => homeN cells (st (l.getD i default)) := ⟨_, rfl⟩
  rw [← hhome]
  obtain ⟨B, hB⟩ : ∃ B, w.heap.size = B := ⟨_, rfl⟩
  rw [hB]
  replace hB := Lib.hid hB
  replace hhome := Lib.hid hhome
  have t1 : decide ((cells : Int) < 1) = false := decide_eq_false (by omega)
  have t2 : decide ((1048576 : Int) < (cells : Int)) = false := decide_eq_false (by omega)
  have t3 : decide ((cells : Int) < (n : Int)) = false := decide_eq_false (by omega)
  have t3' : decide (cells < n) = false := decide_eq_false (by omega)
  go_enter Try.func146, Try.ntmps146
  have ef1 := fun w => run_eql_func_nil (P := Try.prog) w 156 (.func sf) #[] scb Try.underlying156
  have ef2 := fun w => run_eql_func_nil (P := Try.prog) w 201 (.func bf) #[] bcb Try.underlying201
  go_wp2_with (at_make; refine wl_make0 (E := plEl) rfl _ _ _ rfl tPlaces Noneof (B + 2) n .i64 .i64 _ rfl rfl rfl ?b1 ?b2 ?b3 ?_)
  all_goals first | omega | (simp [hB.out]; done) | skip
  intro w3 g hown hk hg
  clear t1 t2 t3 t3' ef1 ef2
  have k1 := (Kept.refl Noneof w).alloc (.cells #[.slice a n c] 141)
  have q1 := heap_alloc_new w (.cells #[.slice a n c] 141)
  have s1 : (w.alloc (.cells #[.slice a n c] 141)).heap.size = w.heap.size + 1 := by simp
  generalize w.alloc (.cells #[.slice a n c] 141) = w1 at *
  have k2 := (Kept.refl Noneof w1).alloc (.cells #[.func (.func bf) #[] bcb] 201)
  have q2 := heap_alloc_new w1 (.cells #[.func (.func bf) #[] bcb] 201)
  have s2 : (w1.alloc (.cells #[.func (.func bf) #[] bcb] 201)).heap.size = w.heap.size + 2 := by simp [s1]
  rw [s1] at q2
  generalize w1.alloc (.cells #[.func (.func bf) #[] bcb] 201) = w2 at *
  replace q1 := hk.obj (fun h => h) (k2.obj (fun h => h) q1)
  replace q2 := hk.obj (fun h => h) q2
  have BX := Lib.hid (show w3.cell? ⟨B, 0, none⟩ = some (.slice a n c) ∧ w3.cell? ⟨B + 1, 0, none⟩ = some (.func (.func bf) #[] bcb) from by rw [hB.out] at q1 q2; simp [World.cell?, q1, q2])
  have KW := Lib.hid (((k1.tr k2).tr hk).mono (T := X) fun _ h => h.elim)
  have s3 := hk.size
  have HO := Lib.hid (show Own 152 plEl Noneof (B + 2) w3 (.slice (some ⟨g, 0, none⟩) 0 n) (plL home 0) from hown)
  replace HJ := Lib.hid (SS.out.stay 0 w w3 HJ.out (((k1.tr k2).tr hk).mono fun _ h => h.elim))
  have HW := Lib.hid (show B + 2 ≤ w3.heap.size by have := hB.out; omega)
  clear k1 k2 hk q1 q2 s1 s2 s3 hown hg
  have hBo := hB.out
  simp only [hBo] at SS CC HX HD
  rw [hBo]
  clear hBo
  have c5 := BX.out.1
  go_wp2_with fail
  clear c5
  go_loopw [9, 42] (fun v iv wr => ∃ i g cv : Nat, i ≤ n ∧ v = .slice (some ⟨g, 0, none⟩) i cv ∧ iv = .int .i64 i ∧ Hid (Own 152 plEl Noneof (B + 2) wr (.slice (some ⟨g, 0, none⟩) i cv) (plL home i)) ∧ Hid (J i wr) ∧ Hid (Kept X w wr) ∧ Hid (wr.cell? ⟨B, 0, none⟩ = some (.slice a n c) ∧ wr.cell? ⟨B + 1, 0, none⟩ = some (.func (.func bf) #[] bcb)) ∧ Hid (B + 2 ≤ wr.heap.size)) (fun _ iv _ => n - (intOf iv).toNat)
  case atStart => exact ⟨0, g, n, Nat.zero_le _, rfl, rfl, HO, HJ, KW, BX, HW⟩
  clear HO HJ KW BX HW
  obtain ⟨i, g, cv, hin, rfl, rfl, HO, HJ, KW, BX, HW⟩ := hrel
  by_cases hlt : i < n
  · have hlt' : (i : Int) < (n : Int) := by omega
    have hi : i < l.length := by rw [hn.out]; exact hlt
    have hsw := HS.out.kept (entEl_k seed) KW.out fun b h _ => HDX.out b h
    rw [hn.out] at hsw
    obtain ⟨_, _, hsl, _, _, rd⟩ := hsw
    simp only [Value.slice.injEq] at hsl
    obtain ⟨rfl, -, rfl⟩ := hsl
    obtain ⟨b, o, kx, vx, rfl, db, e0, e1, e2, e3, Hkx, Hvx⟩ := Rd.ent rd hi
    have HI := Lib.hid (show home i = homeN cells (st l[i]) by rw [hhome.out]; simp [List.getD_eq_getElem?_getD, hi])
    have HNEG := Lib.hid (fun (h : (st l[i]).tmod cells < 0) => homeN_neg h1 h)
    have HPOS := Lib.hid (fun (h : ¬ (st l[i]).tmod cells < 0) => homeN_pos h1 h)
    have CALL := Lib.hid (fun (wx : World) (cs : List Value) => SS.out.calls i hi wx cs)
    generalize l[i] = x at *
    generalize st x = s at *
    obtain ⟨akx, nkx, ckx, rfl⟩ := Hkx.sl
    replace Hkx := Lib.hid Hkx
    obtain ⟨avx, nvx, cvx, rfl⟩ := Hvx.sl
    replace Hvx := Lib.hid Hvx
    go_wp2_with fail
    have kB := (Kept.refl Noneof wr).alloc (.cells #[.slice akx nkx ckx, .slice avx nvx cvx, .int .u64 (coin seed 1 x.1), .int .u64 (coin seed 2 x.1)] 138)
    replace HJ := Lib.hid (SS.out.stay i _ _ HJ.out (kB.mono fun _ h => h.elim))
    replace HO := Lib.hid (HO.out.kept kB fun _ h => h.elim)
    replace BX := Lib.hid (show (wr.alloc (.cells #[.slice akx nkx ckx, .slice avx nvx cvx, .int .u64 (coin seed 1 x.1), .int .u64 (coin seed 2 x.1)] 138)).cell? ⟨B, 0, none⟩ = some (.slice (some ⟨b, o, none⟩) n c) ∧ (wr.alloc (.cells #[.slice akx nkx ckx, .slice avx nvx cvx, .int .u64 (coin seed 1 x.1), .int .u64 (coin seed 2 x.1)] 138)).cell? ⟨B + 1, 0, none⟩ = some (.func (.func bf) #[] bcb) from ⟨kB.cell (p := ⟨B, 0, none⟩) (fun h => h) BX.out.1, kB.cell (p := ⟨B + 1, 0, none⟩) (fun h => h) BX.out.2⟩)
    replace HW := Lib.hid (Nat.le_trans HW.out kB.size)
    replace KW := Lib.hid (KW.out.tr (kB.mono fun _ h => h.elim))
    replace Hkx := Lib.hid (Hkx.out.still' kB)
    replace Hvx := Lib.hid (Hvx.out.still' kB)
    generalize wr.alloc (.cells #[.slice akx nkx ckx, .slice avx nvx cvx, .int .u64 (coin seed 1 x.1), .int .u64 (coin seed 2 x.1)] 138) = wq at *
    clear kB
    refine (CALL.out _ [.slice akx nkx ckx, .slice avx nvx cvx, .int .u64 (coin seed 1 x.1), .int .u64 (coin seed 2 x.1)] HJ.out ⟨_, _, rfl, Hkx.out, Hvx.out⟩).mono ?_
    rintro e w4 ⟨rfl, hj, k4⟩
    have x5 : ¬ X B := fun h => by have := HX.out _ h; omega
    have x7 : ¬ X (B + 1) := fun h => by have := HX.out _ h; omega
    have BX4 := Lib.hid (show w4.cell? ⟨B, 0, none⟩ = some (.slice (some ⟨b, o, none⟩) n c) ∧ w4.cell? ⟨B + 1, 0, none⟩ = some (.func (.func bf) #[] bcb) from ⟨k4.cell (p := ⟨B, 0, none⟩) x5 BX.out.1, k4.cell (p := ⟨B + 1, 0, none⟩) x7 BX.out.2⟩)
    replace HO := Lib.hid (HO.out.kept k4 fun b h hb => ⟨fun h => h, fun e => by have := (HO.out.lt b e).1; have := HX.out b h; omega⟩)
    have HW4 := Lib.hid (Nat.le_trans HW.out k4.size)
    have KW4 := Lib.hid (KW.out.tr k4)
    have HJ4 := Lib.hid hj
    clear x5 x7 e0 e1 e2 e3 hj k4 BX HW KW HJ CALL db
    have hiu : plL home i ++ [((i : Int), (home i : Int))] = plL home (i + 1) := plL_snoc home i
    have HIU := Lib.hid hiu
    have PLN := Lib.hid (plL_len home i)
    have HLT := Lib.hid (show home i < cells by rw [HI.out]; exact homeN_lt s h1)
    rw [← HI.out] at HNEG HPOS
    generalize home i = hh at *
    clear hiu HI rd
    have hz : ((cells : Int) == 0) = false := by simp; omega
    go_upto_region 8 with (fail)
    clear hz
    generalize s.tmod cells = r at *
    by_cases hr : r < 0
    focus
      have e := HNEG.out hr
      have b1 : -1048576 ≤ r := by omega
      clear HNEG HPOS
    rotate_left
    focus
      have e := HPOS.out (by omega)
      subst e
      clear HNEG HPOS hr
    rotate_left
    all_goals
      go_wp2_with (at_builtin; refine wl_app_one (E := plEl) (D := Noneof) (D' := Noneof) rfl (.tmp 57) (.tmp 61) _ rfl tPlaces _ _ rfl (HO.out.alloc _) w4.heap.size [.int .i64 (i : Int), .int .i64 (hh : Int)] ((i : Int), (hh : Int)) rfl ?c1 ?c2 ?c3 ?c4 ?c5 ?c6 ?_)
      case c1 => exact ⟨_, _, heap_alloc_new _ _⟩
      case c2 => exact (rfl : _ = _)
      case c3 => exact fun _ h => h.elim
      case c4 => rw [PLN.out]; omega
      case c5 => omega
      case c6 => have := HW4.out; simp; omega
      intro v5 w5 ho5 k5 b5
      rw [HIU.out] at ho5
      obtain ⟨g5, c5, hv5⟩ := ho5.some' (fun h => by have := plL_len home (i + 1); rw [h] at this; simp at this)
      rw [plL_len] at hv5
      subst hv5
      have hg := (HO.out.lt g rfl).1
      have kA := ((Kept.refl Noneof w4).alloc (.cells #[.int .i64 (i : Int), .int .i64 (hh : Int)] 152))
      have KS := (kA.mono (T := fun b => B ≤ b) fun _ h => h.elim).trans k5 fun b e => .inl (by have : g = b := (by simpa [Value.ownBlock] using e); omega)
      have KX := ((KW4.out.alloc (.cells #[.int .i64 (i : Int), .int .i64 (hh : Int)] 152))).trans k5 fun b e => .inr (by have : g = b := (by simpa [Value.ownBlock] using e); have := hB.out; omega)
      have n5 : ¬ (Value.slice (some ⟨g, 0, none⟩) i cv).ownBlock = some B := fun e => by have : g = B := (by simpa [Value.ownBlock] using e); omega
      have n7 : ¬ (Value.slice (some ⟨g, 0, none⟩) i cv).ownBlock = some (B + 1) := fun e => by have : g = B + 1 := (by simpa [Value.ownBlock] using e); omega
      have BX5 := Lib.hid (show w5.cell? ⟨B, 0, none⟩ = some (.slice (some ⟨b, o, none⟩) n c) ∧ w5.cell? ⟨B + 1, 0, none⟩ = some (.func (.func bf) #[] bcb) from ⟨k5.cell (p := ⟨B, 0, none⟩) n5 (kA.cell (p := ⟨B, 0, none⟩) (fun h => h) BX4.out.1), k5.cell (p := ⟨B + 1, 0, none⟩) n7 (kA.cell (p := ⟨B + 1, 0, none⟩) (fun h => h) BX4.out.2)⟩)
      have HJ5 := Lib.hid (SS.out.stay (i + 1) _ _ HJ4.out KS)
      have HO5 := Lib.hid ho5
      have KW5 := Lib.hid KX
      have HW5 := Lib.hid (show B + 2 ≤ w5.heap.size by have := kA.size; have := k5.size; have := HW4.out; omega)
      clear ho5 k5 b5 kA KS KX n5 n7 hg HO HW4 KW4 HJ4 BX4 HIU PLN HLT
      try clear e
      try clear b1
      go_wp2
      go_roundw
      case rel => exact ⟨i + 1, g5, c5, by omega, rfl, by go_num, HO5, HJ5, KW5, BX5, HW5⟩
      case measure => simp [intOf]; omega
  · obtain rfl : n = i := by omega
    have c5 := BX.out.1
    have c7 := BX.out.2
    obtain ⟨pr, hg⟩ := HO.out.places
    have HI := Lib.hid (HJI.out wr (by rw [hn.out]; exact HJ.out))
    have INV := Lib.hid (show EntInv (seed := seed) I D (.slice a n c) l B (B + 1) bf bcb wr ∧ B ≤ wr.heap.size from ⟨⟨HI.out, by have := HS.out.kept (entEl_k seed) KW.out fun b h _ => HDX.out b h; rwa [hn.out] at this, c5, c7⟩, by have := HW.out; omega⟩)
    have CMP := Lib.hid (Ent_cmpOk (items := .slice a n c) (l := l) (M := B) (b5 := B) (b7 := B + 1) (g := g) CC.out (Nat.le_refl _) (Nat.le_refl _) (by omega) (by omega) (by omega) (by omega) HX.out HD.out HDX.out)
    rw [hn.out] at CMP
    have PR := Lib.hid pr
    have NUM := Lib.hid (fun p q (h : p < q) (_ : q < n) => show plN (plF home p) < plN (plF home q) by simpa [plN, plF] using h)
    have HG := Lib.hid hg
    have NI := Lib.hid (show n ≤ 1000000000 by omega)
    clear pr hg HI HJ HO c5 c7 hlt hin
    go_wp2_with fail
    refine (sortStable_calls CMP.out PR.out INV.out NI.out NUM.out).mono ?_
    rintro e w5 ⟨rfl, f', p1, s1, t1, q1, k1⟩
    rw [← hn.out] at s1 t1
    have OF := Lib.hid (ordd_of s1 t1)
    rw [hn.out] at OF
    have P1 := Lib.hid p1
    have I1 := Lib.hid q1.1.1
    have K1 := Lib.hid (KW.out.trans k1 fun b h => h.elim (fun e => .inr (by have := HG.out; have := hB.out; omega)) .inl)
    have W1 := Lib.hid (show B + 2 ≤ w5.heap.size by have := k1.size; have := HW.out; omega)
    have GL := Lib.hid p1.lt
    clear p1 s1 t1 q1 k1 PR INV CMP NUM NI KW BX HW
    go_wp2_with fail
    refine (ssRepeat_calls (x := -1) (by have := heap_alloc_new w5 (.cells #[.int .i64 (-1)] 3); simp only [World.cell?, this]; rfl) h1 h2).mono ?_
    rintro e w6 ⟨g6, rfl, o6, k6⟩
    have kA := (Kept.refl Noneof w5).alloc (.cells #[.int .i64 (-1)] 3)
    have k7 := kA.tr k6
    have hb6 := (o6.lt g6 rfl).1
    have hs6 := kA.size
    have O6 := Lib.hid (show Own 3 intEl Noneof (B + 2) w6 (.slice (some ⟨g6, 0, none⟩) cells cells) (layF cells home (ordF f' 0)) from o6.base (by have := W1.out; omega))
    have P6 := Lib.hid (P1.out.kept k7 fun h => h)
    have I6 := Lib.hid (CC.out.stay _ _ I1.out (k7.mono fun _ h => h.elim))
    have K6 := Lib.hid (K1.out.tr (k7.mono fun _ h => h.elim))
    have NE := Lib.hid (show g ≠ g6 by have := GL.out; omega)
    have HG6 := Lib.hid (show B + 2 ≤ g6 by have := W1.out; omega)
    clear o6 k6 k7 kA hb6 hs6 P1 I1 K1 W1 GL
    go_wp2_with fail
    go_loopw [72] (fun kv wr => ∃ k : Nat, k ≤ n ∧ kv = .int .i64 k ∧ Hid (Own 3 intEl Noneof (B + 2) wr (.slice (some ⟨g6, 0, none⟩) cells cells) (layF cells home (ordF f' k))) ∧ Hid (PlRow wr g n f') ∧ Hid (I wr) ∧ Hid (Kept X w wr)) (fun kv _ => n - (intOf kv).toNat)
    case atStart => exact ⟨0, Nat.zero_le _, rfl, O6, P6, I6, K6⟩
    clear O6 P6 I6 K6
    obtain ⟨k, hkn, rfl, O, P, II, K⟩ := hrel
    by_cases hlt : k < n
    · have hlt' : (k : Int) < (n : Int) := by omega
      obtain ⟨c0, c1, _, _⟩ := P.out.cell hlt
      have he := OF.out.2 k hlt
      have he1 : (f' k).1 = (plN (f' k) : Int) := congrArg Prod.fst he
      have he2 : (f' k).2 = (home (plN (f' k)) : Int) := congrArg Prod.snd he
      rw [he1] at c0
      rw [he2] at c1
      have HF := Lib.hid (layF_free (cells := cells) (home := home) OF.out.1.nodup hlt hl (fun i => by rw [hhome.out]; exact HH.out i))
      have LS := Lib.hid (fun c h => layF_step (f := f') (k := k) (cells := cells) (c := c) (home := home) h)
      have LEN := Lib.hid (layF_length cells home (ordF f' k))
      have HL : home (plN (f' k)) < cells := by rw [hhome.out]; exact HH.out _
      generalize layF cells home (ordF f' k) = out at *
      generalize plN (f' k) = m at *
      generalize home m = hh at *
      clear he he1 he2
      go_wp2_with fail
      have kA := (Kept.refl Noneof wr).alloc (.cells #[.int .i64 (m : Int), .int .i64 (hh : Int)] 152)
      have qA := heap_alloc_new wr (.cells #[.int .i64 (m : Int), .int .i64 (hh : Int)] 152)
      have n6 : ¬ wr.heap.size = g6 := by have := (O.out.lt g6 rfl).2; omega
      replace O := Lib.hid (O.out.kept kA fun _ h => h.elim)
      replace P := Lib.hid (P.out.kept kA fun h => h)
      replace II := Lib.hid (CC.out.stay _ _ II.out (kA.mono fun _ h => h.elim))
      replace K := Lib.hid (K.out.tr (kA.mono fun _ h => h.elim))
      generalize wr.alloc (.cells #[.int .i64 (m : Int), .int .i64 (hh : Int)] 152) = wx at *
      have cA : wx.cell? ⟨wr.heap.size, 0, none⟩ = some (.int .i64 (m : Int)) := by simp [World.cell?, qA]
      generalize wr.heap.size = bx at *
      clear kA qA c0 c1
      go_loopw [16] (fun cv wy => ∃ c j : Nat, cv = .int .i64 c ∧ wy = wx ∧ Hid (c = stepC cells hh j ∧ Way out cells hh j)) (fun cv _ => cells - ((intOf cv).toNat + cells - hh) % cells)
      case atStart => exact ⟨hh, 0, rfl, rfl, Lib.hid ⟨(stepC_zero HL).symm, Way.start HL⟩⟩
      obtain ⟨c1, j, rfl, rfl, W⟩ := hrel
      have hc1 : c1 < cells := by rw [W.out.1]; exact stepC_lt h1
      have hlo : c1 < out.length := by rw [LEN.out]; exact hc1
      obtain ⟨e0, e1, _, _⟩ := O.out.islot hlo
      have hc1' : (c1 : Int) < (cells : Int) := by omega
      cases hfu : fullC out c1
      · have LS1 := Lib.hid (LS.out c1 (by have := W.out.2.stop HL (by rw [← W.out.1]; exact hfu); rw [this]; exact W.out.1.symm))
        have OP := Lib.hid (by have := O.out.iput hlo (m : Int); rwa [LS1.out] at this)
        rw [fullC_of hlo] at hfu
        generalize out[c1] = z at *
        have hz : ¬ 0 ≤ z := by simpa using hfu
        clear hfu W HF LS LS1
        go_wp2_with fail
        have kT := (Kept.refl (fun b => b = g6) wr).setCell (p := ⟨g6, c1, none⟩) (.inl rfl) (.int .i64 (m : Int))
        replace P := Lib.hid (P.out.kept kT NE.out)
        replace II := Lib.hid (CC.out.stay _ _ II.out (kT.mono fun b e => by have := HG6.out; omega))
        replace K := Lib.hid (K.out.trans kT fun b e => .inr (by have := hB.out; have := HG6.out; omega))
        generalize wr.setCell ⟨g6, c1, none⟩ (.int .i64 (m : Int)) = wz at *
        clear kT e0 e1 O cA
        go_wp2
        go_roundw
        case rel => exact ⟨k + 1, by omega, by go_num, OP, P, II, K⟩
        case measure => simp [intOf]; omega
      · have NX := Lib.hid (show (c1 + 1) % cells = stepC cells hh (j + 1) ∧ Way out cells hh (j + 1) from ⟨by rw [W.out.1, stepC_succ], W.out.2.next HL HF.out (by rw [← W.out.1]; exact hfu)⟩)
        have MS := Lib.hid (show cells - ((c1 + 1) % cells + cells - hh) % cells < cells - (c1 + cells - hh) % cells by
          rw [NX.out.1, stepC_back HL NX.out.2.1, W.out.1, stepC_back HL W.out.2.1]
          have := NX.out.2.1
          omega)
        rw [fullC_of hlo] at hfu
        generalize out[c1] = z at *
        have hz : 0 ≤ z := by simpa using hfu
        have hcz : ((cells : Int) == 0) = false := by simp; omega
        clear hfu W HF LS
        go_wp2_with fail
        go_roundw
        case rel => exact ⟨(c1 + 1) % cells, j + 1, by go_num, by first | rfl | trivial, NX⟩
        case measure =>
          have := MS.out
          have e : (((c1 : Int) + 1) % (cells : Int)).toNat = (c1 + 1) % cells := by
            have e' : ((c1 : Int) + 1) % (cells : Int) = (((c1 + 1) % cells : Nat) : Int) := by push_cast; rfl
            rw [e', Int.toNat_natCast]
          simp only [intOf, e, Int.toNat_natCast]
          exact this
    · obtain rfl : n = k := by omega
      go_wp2
      go_ret
      exact ⟨g6, ordF f' n, rfl, OF.out.1, O.out.base (by omega), II.out, K.out⟩
end Go.Proofs.Ytaopjdjbpamhhaa
