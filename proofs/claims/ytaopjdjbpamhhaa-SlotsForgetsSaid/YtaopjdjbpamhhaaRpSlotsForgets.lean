/- Proved: the law SlotsForgets returns true for all its arguments, and each argument reads afterwards as it read before. No condition beyond the statement's own. -/
import Derived.Test.YtaopjdjbpamhhaaPkO
import Derived.Test.YtaopjdjbpamhhaaPkC
import Derived.Test.YtaopjdjbpamhhaaRows
import Derived.Test.YtaopjdjbpamhhaaFacts
import Derived.Test.YtaopjdjbpamhhaaPkN
import Derived.Test.YtaopjdjbpamhhaaPkA
import Derived.ProofKit
import Derived.OpenShut
import Derived.ShutString
import Derived.ChangeOld
import Derived.ChangeMaps5
import Derived.SizedLaws
import Derived.Carry
/- Proved: contracts of two tables' functions side by side. Conditions: tables in memory that share no block. -/
namespace Go.Proofs.Ytaopjdjbpamhhaa
open Go Go.RowKit
set_option linter.unusedVariables false
set_option linter.unusedSimpArgs false

/-- Two tables that share no block, both in blocks from B on. -/
structure Two (seed : Int) (B : Nat) (w : World) (ta tb : Nat) (LA LB : List (Bts × Bts)) (FA FB : Nat → Prop) : Prop where
  a : TabAt seed w ta LA FA
  b : TabAt seed w tb LB FB
  da : ∀ b, FA b → B ≤ b ∧ b < w.heap.size
  db : ∀ b, FB b → B ≤ b ∧ b < w.heap.size
  no : ∀ b, FA b → ¬ FB b
section
variable {seed : Int} {B : Nat} {w w' : World} {ta tb : Nat} {LA LB : List (Bts × Bts)} {FA FB : Nat → Prop}
theorem Two.swap (h : Two seed B w ta tb LA LB FA FB) : Two seed B w tb ta LB LA FB FA := ⟨h.b, h.a, h.db, h.da, fun b hb ha => h.no b ha hb⟩
theorem Two.still (h : Two seed B w ta tb LA LB FA FB) (k : Kept Noneof w w') : Two seed B w' ta tb LA LB FA FB :=
  ⟨h.a.still k, h.b.still k, fun b hb => ⟨(h.da b hb).1, Nat.lt_of_lt_of_le (h.da b hb).2 k.size⟩, fun b hb => ⟨(h.db b hb).1, Nat.lt_of_lt_of_le (h.db b hb).2 k.size⟩, h.no⟩
theorem Two.kept {X : Nat → Prop} (h : Two seed B w ta tb LA LB FA FB) (k : Kept X w w') (hX : ∀ b, X b → ¬ FA b ∧ ¬ FB b) : Two seed B w' ta tb LA LB FA FB :=
  ⟨h.a.kept k fun b hb hx => (hX b hx).1 hb, h.b.kept k fun b hb hx => (hX b hx).2 hb, fun b hb => ⟨(h.da b hb).1, Nat.lt_of_lt_of_le (h.da b hb).2 k.size⟩, fun b hb => ⟨(h.db b hb).1, Nat.lt_of_lt_of_le (h.db b hb).2 k.size⟩, h.no⟩
theorem Two.of (ha : TabAt seed w ta LA FA) (hb : TabAt seed w tb LB FB) (da : ∀ b, FA b → B ≤ b) (db : ∀ b, FB b → B ≤ b) (no : ∀ b, FA b → ¬ FB b) : Two seed B w ta tb LA LB (fun b => FA b ∧ b < w.heap.size) (fun b => FB b ∧ b < w.heap.size) :=
  ⟨ha.wide fun b h hl => ⟨h, hl⟩, hb.wide fun b h hl => ⟨h, hl⟩, fun b h => ⟨da b h.1, h.2⟩, fun b h => ⟨db b h.1, h.2⟩, fun b h hh => no b h.1 hh.1⟩
theorem Two.put (h : Two seed B w ta tb LA LB FA FB) {D1 D3 : Nat → Prop} {kv vv : Value} {k v : Bts} (h1 : BV D1 w kv k) (h2 : BV D3 w vv v) (hD : ∀ b, D1 b → ¬ FA b) (hr : LA.length < 100000) :
    Calls Try.prog 25 #[bp ta, kv, vv] w fun e w' => (∃ n, e = .returned (.int .i64 n) ∧ (allowedK k v = true → n = 0)) ∧ ∃ FA', Two seed B w' ta tb (if allowedK k v = true then tput LA k v else LA) LB FA' FB ∧ (∀ b, FA' b → FA b ∨ w.heap.size ≤ b) ∧ Kept FA w w' := by
  by_cases hal : allowedK k v = true
  · rw [if_pos hal]
    refine (slPut_calls h.a h1 h2 hD hal (.inr hr)).mono ?_
    rintro e w2 ⟨rfl, F', t2, f2, k2⟩
    refine ⟨⟨_, rfl, fun _ => rfl⟩, fun b => F' b ∧ b < w2.heap.size, ⟨t2.wide fun b hb hl => ⟨hb, hl⟩, h.b.kept k2 fun b hb ha => h.no b ha hb, fun b hb => ⟨?_, hb.2⟩, fun b hb => ⟨(h.db b hb).1, Nat.lt_of_lt_of_le (h.db b hb).2 k2.size⟩, fun b hb hh => ?_⟩, fun b hb => f2 b hb.1, k2⟩
    · rcases f2 b hb.1 with h' | h'
      · exact (h.da b h').1
      · obtain ⟨_, _, _, _, ti⟩ := h.a
        have := (h.da _ ti.ft).1
        have := (h.da _ ti.ft).2
        omega
    · rcases f2 b hb.1 with h' | h'
      · exact h.no b h' hh
      · have := (h.db b hh).2
        omega
  · have hal' : allowedK k v = false := by simpa using hal
    rw [if_neg hal]
    refine (slPut_no h.a h1 h2 hal').mono ?_
    rintro e w2 ⟨⟨n, rfl, _⟩, rfl⟩
    exact ⟨⟨_, rfl, fun hh => (hal hh).elim⟩, FA, h, fun b hb => .inl hb, Kept.refl _ _⟩
theorem Two.drop (h : Two seed B w ta tb LA LB FA FB) {D1 : Nat → Prop} {kv : Value} {k : Bts} (h1 : BV D1 w kv k) (hD : ∀ b, D1 b → ¬ FA b) :
    Calls Try.prog 37 #[bp ta, kv] w fun e w' => (∃ n, e = .returned (.int .i64 n)) ∧ Two seed B w' ta tb (tdel LA k) LB FA FB ∧ Kept FA w w' := by
  refine (slDrop_calls h.a h1 hD).mono ?_
  rintro e w2 ⟨rfl, t2, k2⟩
  exact ⟨⟨_, rfl⟩, ⟨t2, h.b.kept k2 fun b hb ha => h.no b ha hb, fun b hb => ⟨(h.da b hb).1, Nat.lt_of_lt_of_le (h.da b hb).2 k2.size⟩, fun b hb => ⟨(h.db b hb).1, Nat.lt_of_lt_of_le (h.db b hb).2 k2.size⟩, h.no⟩, k2⟩
end
/-- The keys of a script. -/
def keysO (l : List OpK) : List Bts := l.map fun o => o.2.1
theorem keysO_len (l : List OpK) : (keysO l).length = l.length := by simp [keysO]
theorem keysO_get {l : List OpK} {i : Nat} (h : i < (keysO l).length) : (keysO l)[i] = (l[i]'(by rw [← keysO_len]; exact h)).2.1 := by simp [keysO]
theorem keysO_succ {l : List OpK} {i : Nat} (h : i < l.length) : (keysO l).take (i + 1) = (keysO l).take i ++ [l[i].2.1] := by
  rw [List.take_add_one, List.getElem?_eq_getElem (by rw [keysO_len]; exact h), keysO_get]
  rfl
/-- A key of a row of keys. -/
theorem Own.key {D : Nat → Prop} {B : Nat} {w : World} {v : Value} {ks : List Bts} (h : Own 31 bytesEl D B w v ks) {j : Nat} (hj : j < ks.length) : ∃ g c u, v = .slice (some ⟨g, 0, none⟩) ks.length c ∧ w.cell? ⟨g, j, none⟩ = some u ∧ BV D w u ks[j] := by
  obtain ⟨hl, D0, h0, xs, h1, h2⟩ := h
  obtain ⟨h3, h4⟩ := h1
  rcases h4 with ⟨rfl, hn⟩ | ⟨g, cap, cur, rfl, hg, hh, hc, hm, hs, ht⟩
  · omega
  · obtain ⟨cs, ⟨u, rfl, hb⟩, h6⟩ := h2.at_ j hj
    refine ⟨g, cap, u, rfl, ?_, SV.mono byteEl_k hb fun b hb _ => ⟨(h0 b hb).1, rfl⟩⟩
    have h7 := h6 0 (by simp)
    have hk : bytesEl.k = 1 := rfl
    rw [hk, Nat.mul_one, Nat.add_zero] at h7
    have hlt := (List.getElem?_eq_some_iff.1 h7).1
    rw [← ht] at h7
    rw [hk] at ht
    have hlen : xs.length ≤ ks.length * 1 := by rw [← ht, List.length_take]; omega
    rw [List.getElem?_take, if_pos (by rw [hk]; omega), Array.getElem?_toList] at h7
    simp at h7
    simp [World.cell?, hh, h7]
end Go.Proofs.Ytaopjdjbpamhhaa
/- Proved: the law function SlotsForgets returns true for all its arguments. Conditions: ops in memory. -/
namespace Go.Proofs.Ytaopjdjbpamhhaa
open Go Go.RowKit
set_option linter.unusedVariables false
set_option linter.unusedSimpArgs false

set_option maxRecDepth 100000 in
set_option maxHeartbeats 8000000 in
theorem slotsForgets_walk {w : World} {seed : Int} {s1 s2 : Value} {l m : List OpK} {D1 D2 : Nat → Prop} (h1 : SV opEl D1 w s1 l) (h2 : SV opEl D2 w s2 m) :
    Calls Try.prog 6 #[.int .u64 seed, s1, s2] w fun e w' => e = .returned (.bool true) ∧ Kept Noneof w w' := by
  have H1 := Lib.hid (h1.bd opEl_k)
  have H2 := Lib.hid (h2.bd opEl_k)
  obtain ⟨a, c, rfl, ⟨hc, _⟩, hm, _⟩ := h1
  obtain ⟨a', c', rfl, ⟨hc', _⟩, hm', _⟩ := h2
  have FW := Lib.hid (l1few_calls (w := w) H1.out)
  have FW2 := Lib.hid (l1few_calls (w := w) H2.out)
  obtain ⟨n, hn⟩ : ∃ n, l.length = n := ⟨_, rfl⟩
  obtain ⟨n', hn'⟩ : ∃ n, m.length = n := ⟨_, rfl⟩
  rw [hn] at hc hm FW
  rw [hn'] at hc' hm' FW2
  rw [hn, hn']
  replace hn := Lib.hid hn
  replace hn' := Lib.hid hn'
  go_enter Try.func6, Try.ntmps6
  go_wp2_with fail
  refine FW.out.mono ?_
  rintro e w ⟨rfl, rfl⟩
  clear FW
  by_cases hf : fewO l = true
  rotate_left
  · have hf : fewO l = false := by simpa using hf
    rw [hf]
    clear hf FW2
    go_wp2_with fail
    (refine (l1awake_calls _).mono ?_; rintro e w1 ⟨rfl, k1⟩; have K := Lib.hid k1; clear k1; go_wp2; go_ret; exact ⟨rfl, K.out⟩)
  have h120 : n ≤ 120 := by
    unfold fewO at hf
    simp only [Bool.and_eq_true, decide_eq_true_eq] at hf
    rw [hn.out] at hf
    exact hf.1
  rw [hf]
  clear hf
  go_wp2_with fail
  refine FW2.out.mono ?_
  rintro e w ⟨rfl, rfl⟩
  clear FW2
  by_cases hf : fewO m = true
  rotate_left
  · have hf : fewO m = false := by simpa using hf
    rw [hf]
    clear hf
    go_wp2_with fail
    (refine (l1awake_calls _).mono ?_; rintro e w1 ⟨rfl, k1⟩; have K := Lib.hid k1; clear k1; go_wp2; go_ret; exact ⟨rfl, K.out⟩)
  have h120' : n' ≤ 120 := by
    unfold fewO at hf
    simp only [Bool.and_eq_true, decide_eq_true_eq] at hf
    rw [hn'.out] at hf
    exact hf.1
  rw [hf]
  clear hf
  go_wp2_with fail
  refine slNew_calls.mono ?_
  rintro e w1 ⟨rfl, t1, k1, z1⟩
  go_wp2_with fail
  refine slNew_calls.mono ?_
  rintro e w2 ⟨rfl, t2, k2, z2⟩
  have KW := Lib.hid (k1.tr k2)
  have TS := Lib.hid (show ∃ FA FB, Two seed w.heap.size w2 (w.heap.size + 1) (w1.heap.size + 1) [] [] FA FB from ⟨_, _, Two.of (B := w.heap.size) (t1.still k2) t2 (fun b h => h.1) (fun b h => by have := h.1; omega) fun b h hh => by have := h.2; have := hh.1; omega⟩)
  clear t1 k1 z1 t2 k2 z2
  generalize w.heap.size + 1 = ta at *
  generalize w1.heap.size + 1 = tb at *
  unfold bp
  go_upto_region 8 with (fail)
  have kA := (Kept.refl Noneof w2).alloc (.cells #[] 31)
  have KO := Lib.hid ((Own.lit0 31 bytesEl (fun b => b < w.heap.size) w2).base KW.out.size)
  have TS2 := Lib.hid (show ∃ FA FB, Two seed w.heap.size (w2.alloc (.cells #[] 31)) ta tb (opsT (l.take 0)) [] FA FB ∧ ∀ b, (Value.slice (some ⟨w2.heap.size, 0, none⟩) 0 0).ownBlock = some b → ¬ FA b ∧ ¬ FB b by
    obtain ⟨FA, FB, tw⟩ := TS.out
    refine ⟨FA, FB, tw.still kA, fun b hb => ?_⟩
    obtain rfl : w2.heap.size = b := by simpa [Value.ownBlock] using hb
    exact ⟨fun h => by have := (tw.da _ h).2; omega, fun h => by have := (tw.db _ h).2; omega⟩)
  replace KW := Lib.hid (KW.out.tr kA)
  clear kA TS
  generalize w2.alloc (.cells #[] 31) = w3 at *
  generalize Value.slice (some ⟨w2.heap.size, 0, none⟩) 0 0 = kv0 at *
  go_loopw [9, 10] (fun kv iv wr => ∃ i : Nat, i ≤ n ∧ iv = .int .i64 i ∧ Hid (∃ FA FB, Two seed w.heap.size wr ta tb (opsT (l.take i)) [] FA FB ∧ ∀ b, kv.ownBlock = some b → ¬ FA b ∧ ¬ FB b) ∧ Hid (Own 31 bytesEl (fun b => b < w.heap.size) w.heap.size wr kv ((keysO l).take i)) ∧ Hid (Kept Noneof w wr)) (fun _ iv _ => n - (intOf iv).toNat)
  case atStart => exact ⟨0, Nat.zero_le _, rfl, TS2, KO, KW⟩
  clear TS2 KO KW
  obtain ⟨i, hi, rfl, TS, KO, KW⟩ := hrel
  by_cases hlt : i < n
  focus
   as_aux_lemma =>
    have hlt' : (i : Int) < (n : Int) := by omega
    have hil : i < l.length := by rw [hn.out]; exact hlt
    have NX := Lib.hid (opsT_succ hil)
    have LN := Lib.hid (show (opsT (l.take i)).length < 100000 by have := opsT_len (l.take i); rw [List.length_take] at this; omega)
    have NK := Lib.hid (keysO_succ hil)
    have KL := Lib.hid (show ((keysO l).take i).length ≤ 120 by rw [List.length_take]; omega)
    obtain ⟨va9, vn9, vc9, hv9⟩ := KO.out.slice'
    subst hv9
    (
    have hsv := H1.out.still' KW.out opEl_k
    rw [hn.out] at hsv
    obtain ⟨_, _, hsl, _, _, rd⟩ := hsv
    simp only [Value.slice.injEq] at hsl
    obtain ⟨rfl, -, rfl⟩ := hsl
    obtain ⟨b, o, u, v, rfl, db, e0, e1, e2, hk, hv⟩ := Rd.op rd hil
    have DB := Lib.hid db.2
    generalize l[i] = x at *
    obtain ⟨xn, xk, xv⟩ := x
    simp only at e0 e1 e2 hk hv
    obtain ⟨pa, pn, pc, rfl⟩ := hk.sl
    obtain ⟨va, vn, vc, rfl⟩ := hv.sl
    have HK := Lib.hid hk
    have HV := Lib.hid hv
    clear rd db hk hv hil)
    by_cases hx : xn = 1
    focus
      have hb : (xn == 1) = true := by simpa using hx
      have NX1 := Lib.hid (show opsT (l.take (i + 1)) = tdel (opsT (l.take i)) xk by rw [NX.out, opT, if_pos hx])
      clear NX hx
      go_wp2_with fail
      obtain ⟨FA, FB, tw, ow⟩ := TS.out
      refine (tw.drop HK.out (fun b h hf => by have := (tw.da b hf).1; have := h.2; omega)).mono ?_
      rintro e w2 ⟨⟨en, rfl⟩, t2, k2⟩
      rw [← NX1.out] at t2
      have TS2 := Lib.hid (show ∃ FA FB, Two seed w.heap.size w2 ta tb (opsT (l.take (i + 1))) [] FA FB ∧ ∀ b, (Value.slice va9 vn9 vc9).ownBlock = some b → ¬ FA b ∧ ¬ FB b from ⟨FA, FB, t2, ow⟩)
      have KO2 := Lib.hid (KO.out.kept k2 fun b h _ => ⟨fun h' => by have := (tw.da b h).1; omega, fun h' => (ow b h').1 h⟩)
      have HK2 := Lib.hid (HK.out.kept byteEl_k k2 fun b h _ hf => by have := (tw.da b hf).1; have := h.2; omega)
      have KW2 := Lib.hid (KW.out.trans k2 fun b h => .inr (tw.da b h).1)
      have e1' := k2.cell (p := ⟨b, o + i * 3 + 1, none⟩) (fun h => by have := (tw.da b h).1; have := DB.out; omega) e1
      clear TS KO HK KW NX1 tw ow t2 k2 e1 e2 e0 hb HV
      go_upto_region 13 with (fail)
    rotate_left
    focus
      have hb : (xn == 1) = false := by simpa using hx
      have NX1 := Lib.hid (show opsT (l.take (i + 1)) = if allowedK xk xv = true then tput (opsT (l.take i)) xk xv else opsT (l.take i) by rw [NX.out, opT, if_neg hx])
      clear NX hx
      go_wp2_with fail
      (
      refine wp_region_chain 12 [11] (fun w' => w'.cell? ⟨b, o + i * 3 + 1, none⟩ = some (.slice pa pn pc) ∧ w'.cell? ⟨b, o + i * 3 + 2, none⟩ = some (.slice va vn vc)) (by kernel_rfl) (by kernel_rfl) ?_ ?_
      · exact ⟨e1, e2⟩
      refine SeqW.out ?_
      simp only [List.take_succ_cons, List.take_zero, List.drop_succ_cons, List.drop_zero]
      have kd := (Kept.refl Noneof wr).drew
      replace e1 := kd.cell (p := ⟨b, o + i * 3 + 1, none⟩) (fun h => h) e1
      replace e2 := kd.cell (p := ⟨b, o + i * 3 + 2, none⟩) (fun h => h) e2
      replace KW := Lib.hid (KW.out.tr kd)
      replace HK := Lib.hid (HK.out.still' kd)
      replace HV := Lib.hid (HV.out.still' kd)
      replace KO := Lib.hid (KO.out.kept kd fun _ h => h.elim)
      obtain ⟨FA, FB, tw, ow⟩ := TS.out
      replace tw := tw.still kd
      generalize wr.drew = wd at *
      clear kd TS
      iterate 11 (refine SeqW.val (v := ?_) (by rfl) (by rfl) (fun wx hSw => ?_) ?_; rotate_left; (focus ((try dsimp only at hSw); go_simp; (try with_reducible rfl))); (try simp only [Act.put, List.setIfInBounds_toArray, List.set_cons_zero, List.set_cons_succ]))
      refine SeqW.act (by rfl) rfl (by rfl) (by rfl) (fun K hK => ?_)
      go_simp
      refine (tw.put HK.out HV.out (fun b h hf => by have := (tw.da b hf).1; have := h.2; omega) LN.out).mono ?_
      rintro e w2 ⟨⟨en, rfl, _⟩, F', t2, f2, k2⟩
      refine hK.out _ _ ⟨k2.cell (p := ⟨b, o + i * 3 + 1, none⟩) (fun h => by have := (tw.da b h).1; have := DB.out; omega) e1, k2.cell (p := ⟨b, o + i * 3 + 2, none⟩) (fun h => by have := (tw.da b h).1; have := DB.out; omega) e2⟩ ?_
      clear K hK)
      rw [← NX1.out] at t2
      have TS2 := Lib.hid (show ∃ FA FB, Two seed w.heap.size w2 ta tb (opsT (l.take (i + 1))) [] FA FB ∧ ∀ b, (Value.slice va9 vn9 vc9).ownBlock = some b → ¬ FA b ∧ ¬ FB b from ⟨F', FB, t2, fun b hb => ⟨fun h => (f2 b h).elim (ow b hb).1 fun h => by have := (KO.out.lt b hb).2; omega, (ow b hb).2⟩⟩)
      have KO2 := Lib.hid (KO.out.kept k2 fun b h _ => ⟨fun h' => by have := (tw.da b h).1; omega, fun h' => (ow b h').1 h⟩)
      have HK2 := Lib.hid (HK.out.kept byteEl_k k2 fun b h _ hf => by have := (tw.da b hf).1; have := h.2; omega)
      have KW2 := Lib.hid (KW.out.trans k2 fun b h => .inr (tw.da b h).1)
      have e1' := k2.cell (p := ⟨b, o + i * 3 + 1, none⟩) (fun h => by have := (tw.da b h).1; have := DB.out; omega) e1
      clear KO HK KW NX1 tw ow t2 k2 e1 e2 e0 hb HV f2
      (try simp only [Act.put, List.setIfInBounds_toArray, List.set_cons_zero, List.set_cons_succ])
      refine SeqW.nil ?_
      go_upto_region 13 with (fail)
    rotate_left
    all_goals
      have ha1 := Lib.hid (show (w2.alloc (.cells #[.slice pa pn pc] 31)).heap.size = w2.heap.size + 1 by simp)
      have kA := Lib.hid ((Kept.refl Noneof w2).alloc (.cells #[.slice pa pn pc] 31))
      have qA := Lib.hid (heap_alloc_new w2 (.cells #[.slice pa pn pc] 31))
      go_wp2_with (at_builtin; refine wl_app_one (E := bytesEl) (D := fun b => b < w.heap.size) (D' := fun b => b < w.heap.size) rfl (.tmp 69) (.tmp 75) _ rfl tRows _ _ rfl (KO2.out.kept kA.out fun _ h => h.elim) w2.heap.size [.slice pa pn pc] xk rfl ?c1 ?c2 ?c3 ?c4 ?c5 ?c6 ?_)
      case c1 => exact ⟨_, _, qA.out⟩
      case c2 => exact ⟨_, rfl, (HK2.out.still' kA.out).wide byteEl_k fun b h _ => h.2⟩
      case c3 => exact fun b h _ => ⟨h, fun e => by have := (KO2.out.lt b e).1; omega⟩
      case c4 => have := KL.out; omega
      case c5 => omega
      case c6 => have := KW2.out.size; rw [ha1.out]; omega
      intro v5 w5 ho5 k5 b5
      rw [← NK.out] at ho5
      have KO5 := Lib.hid ho5
      have TS5 := Lib.hid (show ∃ FA FB, Two seed w.heap.size w5 ta tb (opsT (l.take (i + 1))) [] FA FB ∧ ∀ b, v5.ownBlock = some b → ¬ FA b ∧ ¬ FB b by
        obtain ⟨FA, FB, tw, ow⟩ := TS2.out
        refine ⟨FA, FB, (tw.still kA.out).kept k5 fun b hb => ow b hb, fun b hb => ?_⟩
        rcases b5 b hb with h | h
        · exact ow b h
        · try rw [ha1.out] at h
          exact ⟨fun hh => by have := (tw.da b hh).2; omega, fun hh => by have := (tw.db b hh).2; omega⟩)
      have KW5 := Lib.hid ((KW2.out.tr kA.out).trans k5 fun b h => .inr (KO2.out.lt b h).1)
      clear ho5 k5 b5 TS2 KO2 KW2 kA qA ha1 HK2 e1'
      go_wp2
      go_roundw
      case rel => exact ⟨i + 1, by omega, by go_num, TS5, KO5, KW5⟩
      case measure => simp [intOf]; omega
  obtain rfl : n = i := by omega
  clear hlt hi
  rw [List.take_of_length_le (by rw [hn.out]; exact Nat.le_refl _)] at TS
  rw [List.take_of_length_le (by rw [keysO_len, hn.out]; exact Nat.le_refl _)] at KO
  have PM := Lib.hid (backT_perm (l := l))
  have KD := Lib.hid (opsT_keyd l)
  have LL := Lib.hid (show (opsT l).length ≤ 120 by have := opsT_len l; rw [hn.out] at this; omega)
  have PM := Lib.hid (show (opsT l).Perm (backT (opsT l) (keysO l)) from PM.out)
  generalize opsT l = LA at *
  obtain ⟨ga, gc, hkv⟩ := KO.out.slice
  rw [keysO_len, hn.out] at hkv
  subst hkv
  have TS := Lib.hid (show ∃ FA FB, Two seed w.heap.size wr ta tb LA (putsT (m.take 0)) FA FB ∧ ∀ b, (Value.slice ga n gc).ownBlock = some b → ¬ FA b ∧ ¬ FB b from TS.out)
  go_upto_region 15 with (fail)
  go_loopw [11] (fun iv wr => ∃ i : Nat, i ≤ n' ∧ iv = .int .i64 i ∧ Hid (∃ FA FB, Two seed w.heap.size wr ta tb LA (putsT (m.take i)) FA FB ∧ ∀ b, (Value.slice ga n gc).ownBlock = some b → ¬ FA b ∧ ¬ FB b) ∧ Hid (Own 31 bytesEl (fun b => b < w.heap.size) w.heap.size wr (.slice ga n gc) (keysO l)) ∧ Hid (Kept Noneof w wr)) (fun iv _ => n' - (intOf iv).toNat)
  case atStart => exact ⟨0, Nat.zero_le _, rfl, TS, KO, KW⟩
  clear TS KO KW
  obtain ⟨i, hi, rfl, TS, KO, KW⟩ := hrel
  by_cases hlt : i < n'
  focus
   as_aux_lemma =>
    have hlt' : (i : Int) < (n' : Int) := by omega
    have hil : i < m.length := by rw [hn'.out]; exact hlt
    have NX := Lib.hid (putsT_succ hil)
    have LN := Lib.hid (show (putsT (m.take i)).length < 100000 by have := putsT_len (m.take i); rw [List.length_take] at this; omega)
    (
    have hsv := H2.out.still' KW.out opEl_k
    rw [hn'.out] at hsv
    obtain ⟨_, _, hsl, _, _, rd⟩ := hsv
    simp only [Value.slice.injEq] at hsl
    obtain ⟨rfl, -, rfl⟩ := hsl
    obtain ⟨b, o, u, v, rfl, db, e0, e1, e2, hk, hv⟩ := Rd.op rd hil
    have DB := Lib.hid db.2
    generalize m[i] = x at *
    obtain ⟨xn, xk, xv⟩ := x
    simp only at e0 e1 e2 hk hv
    obtain ⟨pa, pn, pc, rfl⟩ := hk.sl
    obtain ⟨va, vn, vc, rfl⟩ := hv.sl
    have HK := Lib.hid hk
    have HV := Lib.hid hv
    clear rd db hk hv hil)
    have NX1 := Lib.hid (show putsT (m.take (i + 1)) = if allowedK xk xv = true then tput (putsT (m.take i)) xk xv else putsT (m.take i) by rw [NX.out, putT])
    clear NX
    focus
      go_wp2_with fail
      (
      refine wp_region_chain 12 [11] (fun w' => w'.cell? ⟨b, o + i * 3 + 1, none⟩ = some (.slice pa pn pc) ∧ w'.cell? ⟨b, o + i * 3 + 2, none⟩ = some (.slice va vn vc)) (by kernel_rfl) (by kernel_rfl) ?_ ?_
      · exact ⟨e1, e2⟩
      refine SeqW.out ?_
      simp only [List.take_succ_cons, List.take_zero, List.drop_succ_cons, List.drop_zero]
      have kd := (Kept.refl Noneof wr).drew
      replace e1 := kd.cell (p := ⟨b, o + i * 3 + 1, none⟩) (fun h => h) e1
      replace e2 := kd.cell (p := ⟨b, o + i * 3 + 2, none⟩) (fun h => h) e2
      replace KW := Lib.hid (KW.out.tr kd)
      replace HK := Lib.hid (HK.out.still' kd)
      replace HV := Lib.hid (HV.out.still' kd)
      replace KO := Lib.hid (KO.out.kept kd fun _ h => h.elim)
      obtain ⟨FA, FB, tw, ow⟩ := TS.out
      replace tw := tw.still kd
      generalize wr.drew = wd at *
      clear kd TS
      iterate 11 (refine SeqW.val (v := ?_) (by rfl) (by rfl) (fun wx hSw => ?_) ?_; rotate_left; (focus ((try dsimp only at hSw); go_simp; (try with_reducible rfl))); (try simp only [Act.put, List.setIfInBounds_toArray, List.set_cons_zero, List.set_cons_succ]))
      refine SeqW.act (by rfl) rfl (by rfl) (by rfl) (fun K hK => ?_)
      go_simp
      refine (tw.swap.put HK.out HV.out (fun b h hf => by have := (tw.db b hf).1; have := h.2; omega) LN.out).mono ?_
      rintro e w2 ⟨⟨en, rfl, _⟩, F', t2, f2, k2⟩
      refine hK.out _ _ ⟨k2.cell (p := ⟨b, o + i * 3 + 1, none⟩) (fun h => by have := (tw.db b h).1; have := DB.out; omega) e1, k2.cell (p := ⟨b, o + i * 3 + 2, none⟩) (fun h => by have := (tw.db b h).1; have := DB.out; omega) e2⟩ ?_
      clear K hK)
      rw [← NX1.out] at t2
      have TS2 := Lib.hid (show ∃ FA FB, Two seed w.heap.size w2 ta tb LA (putsT (m.take (i + 1))) FA FB ∧ ∀ b, (Value.slice ga n gc).ownBlock = some b → ¬ FA b ∧ ¬ FB b from ⟨FA, F', t2.swap, fun b hb => ⟨(ow b hb).1, fun h => (f2 b h).elim (ow b hb).2 fun h => by have := (KO.out.lt b hb).2; omega⟩⟩)
      have KO2 := Lib.hid (KO.out.kept k2 fun b h _ => ⟨fun h' => by have := (tw.db b h).1; omega, fun h' => (ow b h').2 h⟩)
      have KW2 := Lib.hid (KW.out.trans k2 fun b h => .inr (tw.db b h).1)
      clear KO HK KW NX1 tw ow t2 k2 e1 e2 e0 HV f2
      (try simp only [Act.put, List.setIfInBounds_toArray, List.set_cons_zero, List.set_cons_succ])
      refine SeqW.nil ?_
      go_wp2
      go_roundw
      case rel => exact ⟨i + 1, by omega, by go_num, TS2, KO2, KW2⟩
      case measure => simp [intOf]; omega
  obtain rfl : n' = i := by omega
  clear hlt hi
  rw [List.take_of_length_le (by rw [hn'.out]; exact Nat.le_refl _)] at TS
  have TS := Lib.hid (show ∃ FA FB, Two seed w.heap.size wr ta tb LA (delsT (putsT m) (m.take 0)) FA FB ∧ ∀ b, (Value.slice ga n gc).ownBlock = some b → ¬ FA b ∧ ¬ FB b from TS.out)
  go_upto_region 19 with (fail)
  go_loopw [12] (fun iv wr => ∃ i : Nat, i ≤ n' ∧ iv = .int .i64 i ∧ Hid (∃ FA FB, Two seed w.heap.size wr ta tb LA (delsT (putsT m) (m.take i)) FA FB ∧ ∀ b, (Value.slice ga n gc).ownBlock = some b → ¬ FA b ∧ ¬ FB b) ∧ Hid (Own 31 bytesEl (fun b => b < w.heap.size) w.heap.size wr (.slice ga n gc) (keysO l)) ∧ Hid (Kept Noneof w wr)) (fun iv _ => n' - (intOf iv).toNat)
  case atStart => exact ⟨0, Nat.zero_le _, rfl, TS, KO, KW⟩
  clear TS KO KW
  obtain ⟨i, hi, rfl, TS, KO, KW⟩ := hrel
  by_cases hlt : i < n'
  focus
   as_aux_lemma =>
    have hlt' : (i : Int) < (n' : Int) := by omega
    have hil : i < m.length := by rw [hn'.out]; exact hlt
    have NX := Lib.hid (delsT_succ (out := putsT m) hil)
    (
    have hsv := H2.out.still' KW.out opEl_k
    rw [hn'.out] at hsv
    obtain ⟨_, _, hsl, _, _, rd⟩ := hsv
    simp only [Value.slice.injEq] at hsl
    obtain ⟨rfl, -, rfl⟩ := hsl
    obtain ⟨b, o, u, v, rfl, db, e0, e1, e2, hk, hv⟩ := Rd.op rd hil
    have DB := Lib.hid db.2
    generalize m[i] = x at *
    obtain ⟨xn, xk, xv⟩ := x
    simp only at e0 e1 e2 hk hv
    obtain ⟨pa, pn, pc, rfl⟩ := hk.sl
    obtain ⟨va, vn, vc, rfl⟩ := hv.sl
    have HK := Lib.hid hk
    have HV := Lib.hid hv
    clear rd db hk hv hil)
    have NX1 := Lib.hid (show delsT (putsT m) (m.take (i + 1)) = tdel (delsT (putsT m) (m.take i)) xk from NX.out)
    clear NX
    focus
      go_wp2_with fail
      obtain ⟨FA, FB, tw, ow⟩ := TS.out
      refine (tw.swap.drop HK.out (fun b h hf => by have := (tw.db b hf).1; have := h.2; omega)).mono ?_
      rintro e w2 ⟨⟨en, rfl⟩, t2, k2⟩
      rw [← NX1.out] at t2
      have TS2 := Lib.hid (show ∃ FA FB, Two seed w.heap.size w2 ta tb LA (delsT (putsT m) (m.take (i + 1))) FA FB ∧ ∀ b, (Value.slice ga n gc).ownBlock = some b → ¬ FA b ∧ ¬ FB b from ⟨FA, FB, t2.swap, ow⟩)
      have KO2 := Lib.hid (KO.out.kept k2 fun b h _ => ⟨fun h' => by have := (tw.db b h).1; omega, fun h' => (ow b h').2 h⟩)
      have KW2 := Lib.hid (KW.out.trans k2 fun b h => .inr (tw.db b h).1)
      clear TS KO HK KW NX1 tw ow t2 k2 e1 e2 e0 HV
      go_wp2
      go_roundw
      case rel => exact ⟨i + 1, by omega, by go_num, TS2, KO2, KW2⟩
      case measure => simp [intOf]; omega
  obtain rfl : n' = i := by omega
  clear hlt hi
  rw [List.take_of_length_le (by rw [hn'.out]; exact Nat.le_refl _), delsT_puts] at TS
  have TS := Lib.hid (show ∃ FA FB, Two seed w.heap.size wr ta tb LA (backT LA ((keysO l).drop n)) FA FB ∧ ∀ b, (Value.slice ga n gc).ownBlock = some b → ¬ FA b ∧ ¬ FB b by
    rw [List.drop_of_length_le (by rw [keysO_len, hn.out]; exact Nat.le_refl _)]
    exact TS.out)
  go_upto_region 23 with (fail)
  go_loopw [13] (fun iv wr => ∃ (k : Nat) (z : Int), k ≤ n ∧ (k : Int) - 1 = z ∧ iv = .int .i64 z ∧ Hid (∃ FA FB, Two seed w.heap.size wr ta tb LA (backT LA ((keysO l).drop k)) FA FB ∧ ∀ b, (Value.slice ga n gc).ownBlock = some b → ¬ FA b ∧ ¬ FB b) ∧ Hid (Own 31 bytesEl (fun b => b < w.heap.size) w.heap.size wr (.slice ga n gc) (keysO l)) ∧ Hid (Kept Noneof w wr)) (fun iv _ => (intOf iv + 1).toNat)
  case atStart => exact ⟨n, _, Nat.le_refl _, rfl, rfl, TS, KO, KW⟩
  clear TS KO KW
  obtain ⟨k, z, hk, hz, rfl, TS, KO, KW⟩ := hrel
  by_cases hlt : 0 < k
  focus
   as_aux_lemma =>
    obtain ⟨j, rfl⟩ : ∃ j, k = j + 1 := ⟨k - 1, by omega⟩
    obtain rfl : z = (j : Int) := by omega
    clear hz hlt
    have hjl : j < (keysO l).length := by rw [keysO_len, hn.out]; omega
    have hlt' : (j : Int) < (n : Int) := by omega
    obtain ⟨g, c9, u, hsl, e0, hb⟩ := KO.out.key hjl
    simp only [Value.slice.injEq] at hsl
    obtain ⟨rfl, -, rfl⟩ := hsl
    obtain ⟨ua, un, uc, rfl⟩ := hb.sl
    have HB := Lib.hid hb
    have NX := Lib.hid (List.drop_eq_getElem_cons hjl)
    have LN := Lib.hid (show (backT LA ((keysO l).drop (j + 1))).length < 100000 by have := backT_len LA ((keysO l).drop (j + 1)); rw [List.length_drop, keysO_len, hn.out] at this; omega)
    clear hb
    generalize (keysO l)[j] = key at *
    clear hjl
    go_wp2_with fail
    obtain ⟨FA, FB, tw, ow⟩ := TS.out
    refine (slGet_calls tw.a HB.out).mono ?_
    rintro e w2 ⟨hres, k2⟩
    rcases hres with ⟨x, v', hx, rfl, o'⟩ | ⟨hx, rfl⟩
    · have hal : allowedK key x = true := by
        obtain ⟨_, _, _, _, ti⟩ := tw.a
        obtain ⟨o1, o2, o3⟩ := ti.ok _ (tget_mem hx)
        simp only at o1 o2 o3
        simp only [allowedK, Bool.and_eq_true, decide_eq_true_eq]
        exact ⟨⟨o1, o2⟩, o3⟩
      have NX1 := Lib.hid (show backT LA ((keysO l).drop j) = tput (backT LA ((keysO l).drop (j + 1))) key x by rw [NX.out, backT_cons_some hx])
      have O2 := Lib.hid o'
      obtain ⟨xa, xn, xc, rfl⟩ := o'.slice'
      replace tw := tw.still k2
      replace KO := Lib.hid (KO.out.kept k2 fun _ h => h.elim)
      replace HB := Lib.hid (HB.out.still' k2)
      replace KW := Lib.hid (KW.out.tr k2)
      replace e0 := k2.cell (p := ⟨g, j, none⟩) (fun h => h) e0
      clear TS NX o' hx k2
      go_wp2_with fail
      refine (tw.swap.put HB.out O2.out.sv (fun b h hf => by have := (tw.db b hf).1; omega) LN.out).mono ?_
      rintro e w3 ⟨⟨en, rfl, hen⟩, F', t3, f3, k3⟩
      obtain rfl := hen hal
      rw [if_pos hal, ← NX1.out] at t3
      have TS3 := Lib.hid (show ∃ FA FB, Two seed w.heap.size w3 ta tb LA (backT LA ((keysO l).drop j)) FA FB ∧ ∀ b, (Value.slice (some ⟨g, 0, none⟩) n gc).ownBlock = some b → ¬ FA b ∧ ¬ FB b from ⟨FA, F', t3.swap, fun b hb => ⟨(ow b hb).1, fun h => (f3 b h).elim (ow b hb).2 fun h => by have := (KO.out.lt b hb).2; omega⟩⟩)
      have KO3 := Lib.hid (KO.out.kept k3 fun b h _ => ⟨fun h' => by have := (tw.db b h).1; omega, fun h' => (ow b h').2 h⟩)
      have KW3 := Lib.hid (KW.out.trans k3 fun b h => .inr (tw.db b h).1)
      clear KO HB KW NX1 tw ow t3 k3 e0 f3 O2 hal hen
      go_wp2
      go_roundw
      case rel => exact ⟨j, _, by omega, rfl, rfl, TS3, KO3, KW3⟩
      case measure => simp only [intOf]; omega
    · have NX1 := Lib.hid (show backT LA ((keysO l).drop j) = backT LA ((keysO l).drop (j + 1)) by rw [NX.out, backT_cons_none hx])
      have TS3 := Lib.hid (show ∃ FA FB, Two seed w.heap.size w2 ta tb LA (backT LA ((keysO l).drop j)) FA FB ∧ ∀ b, (Value.slice (some ⟨g, 0, none⟩) n gc).ownBlock = some b → ¬ FA b ∧ ¬ FB b from ⟨FA, FB, by rw [NX1.out]; exact tw.still k2, ow⟩)
      have KO3 := Lib.hid (KO.out.kept k2 fun _ h => h.elim)
      have KW3 := Lib.hid (KW.out.tr k2)
      clear KO HB KW NX1 tw ow e0 NX hx k2 TS
      go_wp2
      go_roundw
      case rel => exact ⟨j, _, by omega, rfl, rfl, TS3, KO3, KW3⟩
      case measure => simp only [intOf]; omega
  obtain rfl : k = 0 := by omega
  obtain rfl : z = -1 := by omega
  rw [List.drop_zero] at TS
  generalize backT LA (keysO l) = LB at *
  clear hlt hk hz
  have KO := Lib.hid (show Own 31 bytesEl (fun b => b < w.heap.size) w.heap.size wr (.slice ga n gc) (keysO l ++ (keysO m).take 0) by rw [List.take_zero, List.append_nil]; exact KO.out)
  generalize Value.slice ga n gc = kv0 at *
  go_upto_region 29 with (fail)
  go_loopw [9, 16] (fun kv iv wr => ∃ i : Nat, i ≤ n' ∧ iv = .int .i64 i ∧ Hid (∃ FA FB, Two seed w.heap.size wr ta tb LA LB FA FB ∧ ∀ b, kv.ownBlock = some b → ¬ FA b ∧ ¬ FB b) ∧ Hid (Own 31 bytesEl (fun b => b < w.heap.size) w.heap.size wr kv (keysO l ++ (keysO m).take i)) ∧ Hid (Kept Noneof w wr)) (fun _ iv _ => n' - (intOf iv).toNat)
  case atStart => exact ⟨0, Nat.zero_le _, rfl, TS, KO, KW⟩
  clear TS KO KW
  obtain ⟨i, hi, rfl, TS, KO, KW⟩ := hrel
  by_cases hlt : i < n'
  focus
   as_aux_lemma =>
    have hlt' : (i : Int) < (n' : Int) := by omega
    have hil : i < m.length := by rw [hn'.out]; exact hlt
    have NK := Lib.hid (keysO_succ hil)
    have KL := Lib.hid (show (keysO l ++ (keysO m).take i).length ≤ 240 by rw [List.length_append, List.length_take, keysO_len, hn.out]; omega)
    obtain ⟨va9, vn9, vc9, hv9⟩ := KO.out.slice'
    subst hv9
    (
    have hsv := H2.out.still' KW.out opEl_k
    rw [hn'.out] at hsv
    obtain ⟨_, _, hsl, _, _, rd⟩ := hsv
    simp only [Value.slice.injEq] at hsl
    obtain ⟨rfl, -, rfl⟩ := hsl
    obtain ⟨b, o, u, v, rfl, db, e0, e1, e2, hk, hv⟩ := Rd.op rd hil
    have DB := Lib.hid db.2
    generalize m[i] = x at *
    obtain ⟨xn, xk, xv⟩ := x
    simp only at e0 e1 e2 hk hv
    obtain ⟨pa, pn, pc, rfl⟩ := hk.sl
    obtain ⟨va, vn, vc, rfl⟩ := hv.sl
    have HK := Lib.hid hk
    have HV := Lib.hid hv
    clear rd db hk hv hil)
    have ha1 := Lib.hid (show (wr.alloc (.cells #[.slice pa pn pc] 31)).heap.size = wr.heap.size + 1 by simp)
    have kA := Lib.hid ((Kept.refl Noneof wr).alloc (.cells #[.slice pa pn pc] 31))
    have qA := Lib.hid (heap_alloc_new wr (.cells #[.slice pa pn pc] 31))
    go_wp2_with (at_builtin; refine wl_app_one (E := bytesEl) (D := fun b => b < w.heap.size) (D' := fun b => b < w.heap.size) rfl (.tmp 142) (.tmp 148) _ rfl tRows _ _ rfl (KO.out.kept kA.out fun _ h => h.elim) wr.heap.size [.slice pa pn pc] xk rfl ?c1 ?c2 ?c3 ?c4 ?c5 ?c6 ?_)
    case c1 => obtain ⟨_, hq⟩ := Array.getElem?_eq_some_iff.1 qA.out; exact ⟨_, _, _, hq⟩
    case c2 => exact ⟨_, rfl, (HK.out.still' kA.out).wide byteEl_k fun b h _ => h.2⟩
    case c3 => exact fun b h _ => ⟨h, fun e => by have := (KO.out.lt b e).1; omega⟩
    case c4 => have := keysO_len l; have := hn.out; omega
    case c6 => have := KW.out.size; (try rw [ha1.out]); omega
    intro v5 w5 ho5 k5 b5
    (try rw [List.append_assoc] at ho5)
    rw [← NK.out] at ho5
    have KO5 := Lib.hid ho5
    have TS5 := Lib.hid (show ∃ FA FB, Two seed w.heap.size w5 ta tb LA LB FA FB ∧ ∀ b, v5.ownBlock = some b → ¬ FA b ∧ ¬ FB b by
      obtain ⟨FA, FB, tw, ow⟩ := TS.out
      refine ⟨FA, FB, (tw.still kA.out).kept k5 fun b hb => ow b hb, fun b hb => ?_⟩
      rcases b5 b hb with h | h
      · exact ow b h
      · try rw [ha1.out] at h
        exact ⟨fun hh => by have := (tw.da b hh).2; omega, fun hh => by have := (tw.db b hh).2; omega⟩)
    have KW5 := Lib.hid ((KW.out.tr kA.out).trans k5 fun b h => .inr (KO.out.lt b h).1)
    clear ho5 k5 b5 TS KO KW kA qA ha1 HK e1 e2 e0 HV
    go_wp2
    go_roundw
    case rel => exact ⟨i + 1, by omega, by go_num, TS5, KO5, KW5⟩
    case measure => simp [intOf]; omega
  obtain rfl : n' = i := by omega
  clear hlt hi
  rw [List.take_of_length_le (by rw [keysO_len, hn'.out]; exact Nat.le_refl _)] at KO
  obtain ⟨N, hN⟩ : ∃ N, (keysO l ++ keysO m).length = N := ⟨_, rfl⟩
  have N240 : N ≤ 240 := by rw [← hN, List.length_append, keysO_len, keysO_len, hn.out, hn'.out]; omega
  obtain ⟨ga', gc', hkv⟩ := KO.out.slice
  rw [hN] at hkv
  subst hkv
  replace hN := Lib.hid hN
  generalize keysO l ++ keysO m = ks at *
  go_upto_region 33 with (fail)
  go_loopw [17] (fun iv wr => ∃ i : Nat, i ≤ N ∧ iv = .int .i64 i ∧ Hid (∃ FA FB, Two seed w.heap.size wr ta tb LA LB FA FB) ∧ Hid (Own 31 bytesEl (fun b => b < w.heap.size) w.heap.size wr (.slice ga' N gc') ks) ∧ Hid (Kept Noneof w wr)) (fun iv _ => N - (intOf iv).toNat)
  case atStart => exact ⟨0, Nat.zero_le _, rfl, Lib.hid (by obtain ⟨FA, FB, tw, _⟩ := TS.out; exact ⟨FA, FB, tw⟩), KO, KW⟩
  clear TS KO KW
  obtain ⟨i, hi, rfl, TS, KO, KW⟩ := hrel
  by_cases hlt : i < N
  focus
   as_aux_lemma =>
    have hlt' : (i : Int) < (N : Int) := by omega
    have hjl : i < ks.length := by rw [hN.out]; omega
    obtain ⟨g, c9, u, hsl, e0, hb⟩ := KO.out.key hjl
    simp only [Value.slice.injEq] at hsl
    obtain ⟨rfl, -, rfl⟩ := hsl
    obtain ⟨ua, un, uc, rfl⟩ := hb.sl
    have HB := Lib.hid hb
    have LE := Lib.hid (looksE_perm (seed := seed) (key := ks[i]) KD.out PM.out)
    clear hb
    generalize ks[i] = key at *
    clear hjl
    go_wp2_with fail
    refine wp_region_chain 13 [5, 11] (fun w' => w'.cell? ⟨g, i, none⟩ = some (.slice ua un uc)) (by kernel_rfl) (by kernel_rfl) ?_ ?_
    · exact e0
    refine SeqW.out ?_
    simp only [List.take_succ_cons, List.take_zero, List.drop_succ_cons, List.drop_zero]
    have kd := (Kept.refl Noneof wr).drew
    replace e0 := kd.cell (p := ⟨g, i, none⟩) (fun h => h) e0
    replace KW := Lib.hid (KW.out.tr kd)
    replace HB := Lib.hid (HB.out.still' kd)
    replace KO := Lib.hid (KO.out.kept kd fun _ h => h.elim)
    obtain ⟨FA, FB, tw⟩ := TS.out
    replace tw := tw.still kd
    generalize wr.drew = wd at *
    clear kd TS
    iterate 5 (refine SeqW.val (v := ?_) (by rfl) (by rfl) (fun wx hSw => ?_) ?_; rotate_left; (focus ((try dsimp only at hSw); go_simp; (try with_reducible rfl))); (try simp only [Act.put, List.setIfInBounds_toArray, List.set_cons_zero, List.set_cons_succ]))
    refine SeqW.act (by rfl) rfl (by rfl) (by rfl) (fun K hK => ?_)
    go_simp
    refine (slLooks_calls tw.a HB.out).mono ?_
    rintro e w2 ⟨rfl, k2⟩
    rw [LE.out]
    replace e0 := k2.cell (p := ⟨g, i, none⟩) (fun h => h) e0
    refine hK.out _ _ e0 ?_
    replace KW := Lib.hid (KW.out.tr k2)
    replace HB := Lib.hid (HB.out.still' k2)
    replace KO := Lib.hid (KO.out.kept k2 fun _ h => h.elim)
    replace tw := tw.still k2
    clear K hK k2
    (try simp only [Act.put, List.setIfInBounds_toArray, List.set_cons_zero, List.set_cons_succ])
    iterate 5 (refine SeqW.val (v := ?_) (by rfl) (by rfl) (fun wx hSw => ?_) ?_; rotate_left; (focus ((try dsimp only at hSw); go_simp; (try with_reducible rfl))); (try simp only [Act.put, List.setIfInBounds_toArray, List.set_cons_zero, List.set_cons_succ]))
    refine SeqW.act (by rfl) rfl (by rfl) (by rfl) (fun K hK => ?_)
    go_simp
    refine (slLooks_calls tw.b HB.out).mono ?_
    rintro e w3 ⟨rfl, k2⟩
    replace e0 := k2.cell (p := ⟨g, i, none⟩) (fun h => h) e0
    refine hK.out _ _ e0 ?_
    replace KW := Lib.hid (KW.out.tr k2)
    replace KO := Lib.hid (KO.out.kept k2 fun _ h => h.elim)
    have TS3 := Lib.hid (show ∃ FA FB, Two seed w.heap.size w3 ta tb LA LB FA FB from ⟨FA, FB, tw.still k2⟩)
    clear K hK k2 HB tw e0
    generalize looksE seed LB key = lk at *
    (try simp only [Act.put, List.setIfInBounds_toArray, List.set_cons_zero, List.set_cons_succ])
    iterate 1 (refine SeqW.val (v := ?_) (by rfl) (by rfl) (fun wx hSw => ?_) ?_; rotate_left; (focus ((try dsimp only at hSw); go_simp; (try with_reducible rfl))); (try simp only [Act.put, List.setIfInBounds_toArray, List.set_cons_zero, List.set_cons_succ]))
    refine SeqW.nil ?_
    go_wp2
    go_roundw
    case rel => exact ⟨i + 1, by omega, by go_num, TS3, KO, KW⟩
    case measure => simp [intOf]; omega
  obtain rfl : N = i := by omega
  clear hlt hi KO
  have IE := Lib.hid (imgT_perm (seed := seed) KD.out PM.out)
  have CE := Lib.hid (celE_perm (seed := seed) KD.out PM.out)
  have LE := Lib.hid PM.out.length_eq
  as_aux_lemma =>
    obtain ⟨FA, FB, tw⟩ := TS.out
    have TA := Lib.hid tw.a
    have TB := Lib.hid tw.b
    clear tw TS
    go_wp2_with fail
    refine (slImage_calls TA.out).mono ?_
    rintro e w4 ⟨v4, rfl, o4, k4⟩
    have O4 := Lib.hid o4
    obtain ⟨x4, y4, z4, rfl⟩ := o4.slice'
    replace TA := Lib.hid (TA.out.still k4)
    replace TB := Lib.hid (TB.out.still k4)
    replace KW := Lib.hid (KW.out.tr k4)
    clear o4 k4
    go_wp2_with fail
    refine (slImage_calls TB.out).mono ?_
    rintro e w5 ⟨v5, rfl, o5, k5⟩
    rw [← IE.out] at o5
    have O5 := Lib.hid o5
    obtain ⟨x5, y5, z5, rfl⟩ := o5.slice'
    replace TA := Lib.hid (TA.out.still k5)
    replace TB := Lib.hid (TB.out.still k5)
    replace KW := Lib.hid (KW.out.tr k5)
    replace O4 := Lib.hid (O4.out.kept k5 fun _ h => h.elim)
    clear o5 k5 IE
    go_wp2_with fail
    refine (r1Same_calls O4.out.sv O5.out.sv).mono ?_
    rintro e w6 ⟨rfl, d6⟩
    rw [decide_eq_true rfl]
    have k6 := (Kept.refl Noneof w5).drewn d6
    replace TA := Lib.hid (TA.out.still k6)
    replace TB := Lib.hid (TB.out.still k6)
    replace KW := Lib.hid (KW.out.tr k6)
    clear d6 k6 O4 O5
    go_wp2_with fail
    refine (slCells_calls TA.out).mono ?_
    rintro e w7 ⟨v7, rfl, o7, k7⟩
    have O7 := Lib.hid o7.sv
    obtain ⟨x7, y7, z7, rfl⟩ := o7.slice'
    replace TA := Lib.hid (TA.out.still k7)
    replace TB := Lib.hid (TB.out.still k7)
    replace KW := Lib.hid (KW.out.tr k7)
    clear o7 k7
    go_wp2_with fail
    refine (slCells_calls TB.out).mono ?_
    rintro e w8 ⟨v8, rfl, o8, k8⟩
    rw [← CE.out] at o8
    have O8 := Lib.hid o8.sv
    obtain ⟨x8, y8, z8, rfl⟩ := o8.slice'
    replace TA := Lib.hid (TA.out.still k8)
    replace TB := Lib.hid (TB.out.still k8)
    replace KW := Lib.hid (KW.out.tr k8)
    replace O7 := Lib.hid (O7.out.still' k8)
    clear o8 k8 CE
    go_wp2_with fail
    refine (r1SameCells_same O7.out O8.out).mono ?_
    rintro e w9 ⟨rfl, d9⟩
    have k9 := (Kept.refl Noneof w8).drewn d9
    replace TA := Lib.hid (TA.out.still k9)
    replace TB := Lib.hid (TB.out.still k9)
    replace KW := Lib.hid (KW.out.tr k9)
    clear d9 k9 O7 O8
    go_wp2_with fail
    refine (slLen_calls TA.out).mono ?_
    rintro e w9 ⟨rfl, rfl⟩
    go_wp2_with fail
    refine (slLen_calls TB.out).mono ?_
    rintro e w9 ⟨rfl, rfl⟩
    rw [LE.out]
    generalize LB.length = lb at *
    go_wp2_with fail
    (refine (l1awake_calls _).mono ?_; rintro e w1 ⟨rfl, k1⟩; have K := Lib.hid (KW.out.tr k1); clear k1; go_wp2; go_ret; exact ⟨rfl, K.out⟩)
end Go.Proofs.Ytaopjdjbpamhhaa
/- Proved: the law SlotsForgets returns true for all its arguments, and each argument reads afterwards as it read before. No condition beyond the statement's own. -/
namespace Go.Proofs.Ytaopjdjbpamhhaa.slotsForgets
open Go.ChangeShapes Go.WideShapes Go.ChangeAt Go.RowKit
set_option linter.unusedVariables false
theorem opensOp : Opens Try.prog 33 opEl := opens_op (ti := 3) (t := 31) (e := 5) (Try.underlying33) rfl rfl rfl rfl rfl rfl (by kernel_rfl) (by kernel_rfl) (by kernel_rfl) Try.underlying3 Try.underlying31 Try.underlying5 (by kernel_rfl) (of_decide_eq_true (by kernel_rfl))
set_option maxRecDepth 100000 in
theorem lifted (os : Os) (started : os.Started) (H : Type) (enc : TypeId × Value → H) :
    ReturnsInHanded {} Try.checked os 6 .any (Rows.slotsForgetsSpec.pre6 enc Try.prog Try.f6 Rows.slotsForgetsRow.domain false) (Rows.slotsForgetsSpec.post enc Try.prog Try.f6 false true false false) := by
  refine returnsInHanded_of_change_sized (C := Try.checked) Facts.own started (by kernel_rfl) Try.func6
    (ChangeSpec.witness6 (enc := enc) (C := Try.checked) false ⟨#[], #[.int .u64 0, .slice none 0 0, .slice none 0 0], []⟩ 8 (by kernel_rfl) (by kernel_rfl) (by kernel_rfl) (by kernel_rfl)) ?_
  intro W base args ds gs before hval0 hW hcnd hsz0 _
  have hsz : (DataW.weightsEach Try.prog (Try.f6.params.toList ++ Rows.slotsForgetsSpec.plain.varTypes Try.prog) (ds ++ gs)).all (· ≤ reachBytes) = true := hsz0
  have hval : ∀ (j : Nat) t v, Try.f6.params[j]? = some t → args[j]? = some v → Value.okWide Try.prog W .any base t v := hval0
  have hW' := hW
  obtain ⟨p, q, hA0, hV, rfl, hfz, hnd⟩ := hW
  have hA : DataW.TrodAll enc Try.prog W 0 (fun _ => true) true Try.f6.params.toList args.toList ds p := hA0
  rw [Try.params6] at hA hval hsz
  obtain ⟨v0, vs0, d0, ds0, p0, q0, hargs, rfl, rfl, h0, r0⟩ := trodAll_cons hA
  obtain ⟨v1, vs1, d1, ds1, p1, q1, rfl, rfl, rfl, h1, r1⟩ := trodAll_cons r0
  obtain ⟨v2, vs2, d2, ds2, p2, q2, rfl, rfl, rfl, h2, r2⟩ := trodAll_cons r1
  obtain ⟨rfl, rfl, rfl⟩ := trodAll_nil r2
  obtain rfl : args = #[v0, v1, v2] := by cases args; simp_all
  obtain ⟨rfl, rfl⟩ := trodVars_none hV
  obtain ⟨a0, rfl, rfl, rfl, w0⟩ := open_int Try.underlying22 (hval 0 22 v0 rfl rfl) h0
  obtain ⟨a1, len1, cap1, rfl⟩ := okWide_slice Try.underlying23 (hval 1 23 v1 rfl rfl)
  obtain ⟨a2, len2, cap2, rfl⟩ := okWide_slice Try.underlying23 (hval 2 23 v2 rfl rfl)
  have k1 := h1
  have lt1 : ∀ x ∈ p1, x.block < W.heap.size := by obtain ⟨m, hm⟩ := k1; exact DataW.trod_lt m _ _ _ hm
  have k2 := h2
  have lt2 : ∀ x ∈ p2, x.block < W.heap.size := by obtain ⟨m, hm⟩ := k2; exact DataW.trod_lt m _ _ _ hm
  obtain ⟨l1, s1⟩ := open_arg (E := opEl) (j := 1) opEl_k opensOp Try.underlying23 (by kernel_rfl) (of_decide_eq_true (by kernel_rfl)) h1 rfl hsz rfl rfl
  obtain ⟨l2, s2⟩ := open_arg (E := opEl) (j := 2) opEl_k opensOp Try.underlying23 (by kernel_rfl) (of_decide_eq_true (by kernel_rfl)) h2 rfl hsz rfl rfl
  clear hA0 hval0 hsz0
  refine (slotsForgets_walk s1 s2).mono fun e W' ⟨he, kw⟩ => ?_
  have bel : Below W.heap.size W W' := kw.below (Nat.le_refl _) fun _ h => h.elim
  subst he
  exact ⟨_, rfl, _, _, _, [], _, [], hW', trodAll_mk1 (shut_bool Try.underlying4 _), (trodAll_cons_mk (shut_int Try.underlying22 w0) (trodAll_cons_mk (Below.trod Facts.laid (by kernel_rfl) (of_decide_eq_true (by kernel_rfl)) k1 bel lt1) (trodAll_cons_mk (Below.trod Facts.laid (by kernel_rfl) (of_decide_eq_true (by kernel_rfl)) k2 bel lt2) trodAll_mk0))), rfl, bel.frame _, fun h => by cases h⟩
set_option maxHeartbeats 4000000 in
theorem closed : joinedFacts Try.prog 6 Try.f6 Rows.slotsForgetsSpec Rows.slotsForgetsRow = true := by
  refine Facts.joined 6 Try.f6 Rows.slotsForgetsSpec Rows.slotsForgetsRow ?_ ?_ ?_ ?_ ?_ ?_ ?_ ?_ ?_ ?_ ?_ ?_ ?_ ?_ ?_ ?_ ?_ ?_ ?_ ?_ ?_ ?_ ?_ ?_ ?_ ?_ ?_ <;> exact (by as_aux_lemma => kernel_rfl)
set_option maxHeartbeats 4000000 in
theorem over : Rows.slotsForgetsRow.holds Try.pinned (OpenSpec.ofChange Rows.slotsForgetsSpec) :=
  OpenClaim.holds_of_wide 6 Try.f6 rfl rfl rfl rfl rfl rfl rfl ⟨rfl, rfl, rfl, rfl, rfl⟩ rfl rfl rfl rfl rfl (by as_aux_lemma => kernel_rfl) Try.func6 closed
    (of_decide_eq_true (by as_aux_lemma => kernel_rfl)) (by unfold Func.isWrapper; first | (rw [if_pos (by decide +kernel)]; kernel_rfl) | (rw [if_neg (by decide +kernel)]; exact ⟨rfl, rfl⟩))
    (fun os started H enc _ => lifted os started H enc)
theorem proved : Rows.SlotsForgetsSaid := over
end Go.Proofs.Ytaopjdjbpamhhaa.slotsForgets
namespace Go.Proofs.Ytaopjdjbpamhhaa
theorem slotsForgets_holds : Rows.SlotsForgetsSaid := slotsForgets.proved
#print axioms slotsForgets_holds
end Go.Proofs.Ytaopjdjbpamhhaa
