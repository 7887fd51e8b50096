/- Proved: texts of the families over slots, order and swap, joined, as far as the claim needs them. Conditions: as each theorem says. -/
import Derived.Test.YtaopjdjbpamhhaaSSVF
import Derived.Test.YtaopjdjbpamhhaaSSVA
import Derived.Test.YtaopjdjbpamhhaaSSVC
import Derived.Deep.DeepCutAuto
import Derived.Lib.SlicesS
import Derived.Test.YtaopjdjbpamhhaaSSVD
import Derived.LaidEqlPtr
import Derived.Test.YtaopjdjbpamhhaaSSVM
/- Proved: contracts of the vault's small functions (both, named, none, NewVault, Explain), of the law function explains and of the reference's Named. Conditions: bytes in memory. -/
namespace Go.Proofs.Ytaopjdjbpamhhaa
open Go Go.RowKit
set_option linter.unusedVariables false
set_option linter.unusedSimpArgs false
/-! ### Bytes xor others -/
def xorB (a b : Bts) : Bts := List.zipWith (fun x y => x ^^^ y) a b
theorem xorB_len (a b : Bts) : (xorB a b).length = min a.length b.length := by simp [xorB]
theorem xorB_get {a b : Bts} {i : Nat} (h1 : i < a.length) (h2 : i < b.length) : (xorB a b)[i]? = some (a[i] ^^^ b[i]) := by
  simp [xorB, List.getElem?_zipWith, List.getElem?_eq_getElem h1, List.getElem?_eq_getElem h2]
theorem bits_xor_u8 (x y : UInt8) : bits .xor .u8 ((x.toNat : Nat) : Int) ((y.toNat : Nat) : Int) = (((x ^^^ y).toNat : Nat) : Int) := by
  have ha := x.toNat_lt
  have hb := y.toNat_lt
  have hx : x.toNat ^^^ y.toNat < 2 ^ 8 := Nat.xor_lt_two_pow (by omega) (by omega)
  have h1 : (BitVec.ofInt 8 ((x.toNat : Nat) : Int)).toNat = x.toNat := by
    rw [BitVec.ofInt_natCast, BitVec.toNat_ofNat]; exact Nat.mod_eq_of_lt (by omega)
  have h2 : (BitVec.ofInt 8 ((y.toNat : Nat) : Int)).toNat = y.toNat := by
    rw [BitVec.ofInt_natCast, BitVec.toNat_ofNat]; exact Nat.mod_eq_of_lt (by omega)
  show IntKind.u8.wrap ((BitVec.ofInt 8 ((x.toNat : Nat) : Int) ^^^ BitVec.ofInt 8 ((y.toNat : Nat) : Int)).toNat : Int) = _
  rw [BitVec.toNat_xor, h1, h2, UInt8.toNat_xor]
  simp only [IntKind.wrap, IntKind.bits, IntKind.signed]
  simp
  omega
/-- A row of the call's own may be written at each place. -/
theorem Own.slot {D : Nat → Prop} {B : Nat} {w : World} {g n c i : Nat} {l : Bts} (h : Own 5 byteEl D B w (.slice (some ⟨g, 0, none⟩) n c) l) (hi : i < l.length) : (∃ u, w.cell? ⟨g, i, none⟩ = some u) ∧ w.frozen? ⟨g, i, none⟩ = false ∧ g < w.heap.size ∧ B ≤ g := by
  have hlt := h.lt g rfl
  obtain ⟨hl, D0, h0, xs, ⟨h1, h2⟩, h3⟩ := h
  rcases h2 with ⟨hh, _⟩ | ⟨g', cap, cur, hv, hg, hh, hc, hm', hs, ht⟩
  · cases hh
  · simp only [Value.slice.injEq, Option.some.injEq, Addr.mk.injEq, and_true] at hv
    obtain ⟨rfl, rfl, rfl⟩ := hv
    simp only [byteEl, Nat.mul_one] at hs
    have : i < cur.size := by omega
    exact ⟨⟨cur[i], by simp [World.cell?, hh, this]⟩, by simp [World.frozen?, hh], hlt.2, hlt.1⟩
theorem Own.put {D : Nat → Prop} {B : Nat} {w : World} {g n c i : Nat} {l : Bts} (h : Own 5 byteEl D B w (.slice (some ⟨g, 0, none⟩) n c) l) (hi : i < l.length) (y : UInt8) :
    Own 5 byteEl D B (w.setCell ⟨g, i, none⟩ (.int .u8 ((y.toNat : Nat) : Int))) (.slice (some ⟨g, 0, none⟩) n c) (l.set i y) := by
  refine h.setc (cs := [.int .u8 ((y.toNat : Nat) : Int)]) hi rfl (D' := fun _ => False) rfl (fun _ h => h.elim) ((Kept.refl (fun b => b = g) w).setCell (.inl rfl) _) fun cur hcur => ?_
  rw [setCell_obj hcur]
  simp only [putCells, byteEl, Nat.mul_one]

theorem BV.len {D : Nat → Prop} {w : World} {v : Value} {l : Bts} (h : BV D w v l) : l.length ≤ 140737488355328 := by
  obtain ⟨_, _, _, _, h, _⟩ := h
  exact h
set_option maxRecDepth 100000 in
set_option maxHeartbeats 1000000 in
theorem swboth_calls {D1 D2 : Nat → Prop} {v1 v2 : Value} {a b : Bts} {w : World} (h1 : BV D1 w v1 a) (h2 : BV D2 w v2 b) (hl : a.length = b.length) :
    Calls Try.prog 136 #[v1, v2] w fun e w' => ∃ v', e = .returned v' ∧ Own 5 byteEl Noneof w.heap.size w' v' (xorB a b) ∧ Kept Noneof w w' := by
  have H1 := Lib.hid (SV.bd byteEl_k h1)
  have H2 := Lib.hid (SV.bd byteEl_k h2)
  have HL := Lib.hid hl
  clear hl
  have hm := h1.len
  obtain ⟨a1, c1, rfl, _⟩ := h1
  obtain ⟨a2, c2, rfl, _⟩ := h2
  go_enter Try.func136, Try.ntmps136
  go_wp2_with (at_make; refine wl_make (E := byteEl) rfl _ _ _ rfl tBytes Noneof w.heap.size a.length .i64 .i64 _ _ rfl rfl rfl rfl 0 (fun _ => rfl) ?b1 ?b2 ?b3 ?_)
  case b1 => omega
  case b2 => omega
  case b3 => exact Nat.le_refl _
  intro w1 g hown hk hg
  have HG := Lib.hid hg
  have HK := Lib.hid hk
  have HO := Lib.hid hown
  clear hg hk hown
  go_wp2
  go_loopw [12] (fun i wr => ∃ n : Nat, n ≤ a.length ∧ i = .int .i64 n ∧ Hid (Own 5 byteEl Noneof w.heap.size wr (.slice (some ⟨g, 0, none⟩) a.length a.length) ((xorB a b).take n ++ List.replicate (a.length - n) 0)) ∧ Hid (Kept Noneof w wr)) (fun i _ => a.length - (intOf i).toNat)
  case atStart => exact ⟨0, Nat.zero_le _, rfl, Lib.hid (by simpa using HO.out), HK⟩
  case round =>
    obtain ⟨n, hn, rfl, ho, kw⟩ := hrel
    by_cases hlt : n < a.length
    · have hlt2 : n < b.length := by have := HL.out; omega
      obtain ⟨_, _, hsl, _, _, rd1⟩ := H1.out.still' kw.out
      simp only [Value.slice.injEq] at hsl
      obtain ⟨rfl, -, rfl⟩ := hsl
      obtain ⟨_, _, hsl, _, _, rd2⟩ := H2.out.still' kw.out
      simp only [Value.slice.injEq] at hsl
      obtain ⟨rfl, -, rfl⟩ := hsl
      obtain ⟨b1, o1, rfl, d1, g1⟩ := Rd.byte rd1 hlt
      obtain ⟨b2, o2, rfl, d2, g2⟩ := Rd.byte rd2 hlt2
      clear rd1 rd2
      have hx := bits_xor_u8 a[n] b[n]
      have hll : ((xorB a b).take n ++ List.replicate (a.length - n) 0).length = a.length := by rw [List.length_append, List.length_take, List.length_replicate, xorB_len]; have := HL.out; omega
      have hset : ((xorB a b).take n ++ List.replicate (a.length - n) 0).set n (a[n] ^^^ b[n]) = (xorB a b).take (n + 1) ++ List.replicate (a.length - (n + 1)) 0 := by
        have ht : ((xorB a b).take n).length = n := by rw [List.length_take, xorB_len]; have := HL.out; omega
        rw [List.set_append_right _ _ (by omega), ht, Nat.sub_self, show a.length - n = (a.length - (n + 1)) + 1 by omega, List.replicate_succ, List.set_cons_zero, List.take_add_one, xorB_get hlt hlt2, List.append_assoc]
        rfl
      have HSET := Lib.hid hset
      have HLL := Lib.hid hll
      clear hset hll
      have hnl : ¬ (a.length : Int) ≤ (n : Int) := by omega
      go_wp2_with fail
      refine wp_region_chain 13 [12] (fun w' => w'.cell? ⟨b1, o1 + n, none⟩ = some (.int .u8 ((a[n].toNat : Nat) : Int)) ∧ w'.cell? ⟨b2, o2 + n, none⟩ = some (.int .u8 ((b[n].toNat : Nat) : Int))) (by kernel_rfl) (by kernel_rfl) ?_ ?_
      · exact ⟨g1, g2⟩
      refine SeqW.out ?_
      simp only [List.take_succ_cons, List.take_zero, List.drop_succ_cons, List.drop_zero]
      have kd := (Kept.refl Noneof wr).drew
      replace ho := Lib.hid (ho.out.kept kd fun _ h => h.elim)
      replace kw := Lib.hid (kw.out.tr kd)
      replace g1 := kd.cell (fun h => h) g1
      replace g2 := kd.cell (fun h => h) g2
      generalize wr.drew = wd at *
      clear kd
      obtain ⟨⟨u, hu⟩, hf, hgl, hgb⟩ := ho.out.slot (i := n) (by rw [HLL.out]; exact hlt)
      iterate 11 (refine SeqW.val (v := ?_) (by rfl) (by rfl) (fun wx hSw => ?_) ?_; rotate_left; (focus ((try dsimp only at hSw); go_simp; (try with_reducible rfl))); (try simp only [Act.put, List.setIfInBounds_toArray, List.set_cons_zero, List.set_cons_succ]))
      (refine SeqW.val (v := ?_) (by rfl) (by rfl) (fun wx hSw => ?_) ?_; rotate_left; (focus ((try dsimp only at hSw); go_simp; (try with_reducible rfl))); (try simp only [Act.put, List.setIfInBounds_toArray, List.set_cons_zero, List.set_cons_succ]))
      refine SeqW.act0 (by rfl) rfl (by rfl) (fun K hK => ?_)
      go_simp
      have hy : (a[n] ^^^ b[n]).toNat = a[n].toNat ^^^ b[n].toNat := UInt8.toNat_xor _ _
      rw [← hy]
      have OP := ho.out.put (i := n) (by rw [HLL.out]; exact hlt) (a[n] ^^^ b[n])
      rw [HSET.out] at OP
      replace OP := Lib.hid OP
      have KS := Lib.hid ((Kept.refl (fun b => b = g) wd).setCell (p := ⟨g, n, none⟩) (.inl rfl) (.int .u8 (((a[n] ^^^ b[n]).toNat : Nat) : Int)))
      have hg := HG.out
      refine hK.out _ ⟨KS.out.cell (p := ⟨b1, o1 + n, none⟩) (fun e => by have e : b1 = g := e; have := d1.2; omega) g1, KS.out.cell (p := ⟨b2, o2 + n, none⟩) (fun e => by have e : b2 = g := e; have := d2.2; omega) g2⟩ ?_
      clear K hK hu hf hx hy
      generalize wd.setCell _ _ = we at *
      have KW := Lib.hid (kw.out.trans KS.out fun b e => .inr (by omega))
      clear KS ho kw g1 g2 hnl
      (try simp only [Act.put, List.setIfInBounds_toArray, List.set_cons_zero, List.set_cons_succ])
      refine SeqW.nil ?_
      go_wp2
      go_roundw
      case rel => exact ⟨n + 1, by omega, by go_num, OP, KW⟩
      case measure => simp [intOf]; omega
    · obtain rfl : n = a.length := by omega
      go_wp2
      go_ret
      refine ⟨_, rfl, ?_, kw.out⟩
      have := ho.out
      rwa [Nat.sub_self, List.replicate_zero, List.append_nil, List.take_of_length_le (by rw [xorB_len]; omega)] at this

/-! ### Names -/
def NameN (c : Nat) : Prop := (97 ≤ c ∧ c ≤ 122) ∨ (48 ≤ c ∧ c ≤ 57) ∨ c = 45 ∨ c = 46
instance (c : Nat) : Decidable (NameN c) := by unfold NameN; infer_instance
def nameB (c : UInt8) : Bool := decide (NameN c.toNat)
def namedK (s : Bts) : Bool := s.all nameB && decide (1 ≤ s.length) && decide (s.length ≤ 16)
/-- The bytes of a string. -/
def sB (s : ByteArray) : Bts := s.data.toList
theorem sB_len (s : ByteArray) : (sB s).length = s.size := by unfold sB; rw [Array.length_toList]; rfl
set_option maxRecDepth 100000 in
set_option maxHeartbeats 1000000 in
theorem r7Named_calls {s : ByteArray} {w : World} (hs : s.size ≤ 140737488355328) :
    Calls Try.prog 80 #[.string s] w fun e w' => e = .returned (.bool (namedK (sB s))) ∧ w' = w := by
  go_enter Try.func80, Try.ntmps80
  go_wp2
  go_loopw [3] (fun i wr => ∃ n : Nat, n ≤ s.size ∧ i = .int .i64 n ∧ Hid (∀ c ∈ (sB s).take n, nameB c = true) ∧ wr = w) (fun i _ => s.size - (intOf i).toNat)
  case atStart => exact ⟨0, Nat.zero_le _, rfl, Lib.hid (by simp), rfl⟩
  case round =>
    obtain ⟨n, hn, rfl, ha, rfl⟩ := hrel
    by_cases hl : n < s.size
    · have hl2 : n < (sB s).length := by rw [sB_len]; exact hl
      have hc : (sB s)[n] = s[n] := rfl
      have hT := Lib.hid (show NameN s[n].toNat → ∀ c ∈ (sB s).take (n + 1), nameB c = true from fun h c hc' => by
        rw [List.take_add_one, List.getElem?_eq_getElem hl2] at hc'
        simp only [Option.toList_some, List.mem_append, List.mem_singleton] at hc'
        rcases hc' with hc' | rfl
        · exact ha.out c hc'
        · rw [hc]; exact decide_eq_true h)
      have hF := Lib.hid (show ¬ NameN s[n].toNat → false = namedK (sB s) from fun h => by
        have : (sB s).all nameB = false := List.all_eq_false.2 ⟨_, List.getElem_mem hl2, by rw [hc]; simp [nameB, h]⟩
        simp [namedK, this])
      have hb : s[n].toNat < 256 := s[n].toNat_lt
      clear hc ha
      go_wp2_with fail
      all_goals
        generalize s[n].toNat = c at *
        first
        | (go_ret; exact ⟨ret_bool (hF.out (by unfold NameN; simp at *; omega)), rfl⟩)
        | exact ⟨⟨n + 1, by omega, by go_num, Lib.hid (hT.out (by unfold NameN; simp at *; omega)), trivial⟩, by simp [intOf]; omega⟩
    · have HN := Lib.hid (show (sB s).all nameB = true from List.all_eq_true.2 fun c hc => ha.out c (by rw [List.take_of_length_le (by rw [sB_len]; omega)]; exact hc))
      obtain rfl : n = s.size := by omega
      go_wp2
      all_goals
        go_ret
        refine ⟨ret_bool ?_, rfl⟩
        unfold namedK
        rw [HN.out, sB_len]
        rw [Bool.eq_iff_iff]
        simp
        try omega
/-- '[]byte(s)': the string's bytes in new memory. -/
theorem bytes_conv {w : World} {s : ByteArray} (hs : s.size ≤ 140737488355328) :
    ∃ c, (∀ w', w' = w → (convert 9 31 (.string s)).run Try.prog w' = .ok (.slice (some ⟨w.heap.size, 0, none⟩) s.size c) (Lib.bytesWorld w 5 s)) ∧ BV (fun b => w.heap.size ≤ b) (Lib.bytesWorld w 5 s) (.slice (some ⟨w.heap.size, 0, none⟩) s.size c) (sB s) ∧ Kept Noneof w (Lib.bytesWorld w 5 s) := by
  refine ⟨grownCap w s.size 0 5, fun w' e => by rw [e]; exact Lib.run_convert_string_bytes w 9 31 5 s Try.underlying9 Try.underlying31 Try.underlying5, ?_, ?_⟩
  · refine ⟨_, _, by rw [sB_len], ⟨?_, fun h => by cases h⟩, by rw [sB_len]; exact hs, fun i hi => ⟨w.heap.size, 0, [.int .u8 (((sB s)[i].toNat : Nat) : Int)], rfl, Nat.le_refl _, fun j hj => ?_, rfl⟩⟩
    · rw [sB_len]
      exact grownCap_ge w s.size 0 5
    · obtain rfl : j = 0 := by simpa using hj
      have k : byteEl.k = 1 := rfl
      rw [k, Nat.zero_add, Nat.mul_one, Nat.add_zero, Lib.bytesWorld_cell w 5 s i (by rw [← sB_len]; exact hi)]
      simp only [List.getElem_cons_zero]
      congr 3
      show (s.data.toList.getD i 0).toNat = (sB s)[i].toNat
      rw [List.getD_eq_getElem?_getD, show s.data.toList = sB s from rfl, List.getElem?_eq_getElem hi]
      rfl
  · exact ⟨rfl, rfl, rfl, by rw [Lib.bytesWorld_size]; omega, fun j hj _ => Lib.bytesWorld_at_old w 5 s j hj⟩
set_option maxRecDepth 100000 in
set_option maxHeartbeats 1000000 in
theorem swnamed_calls {s : ByteArray} {w : World} (hs : s.size ≤ 140737488355328) :
    Calls Try.prog 135 #[.string s] w fun e w' => e = .returned (.bool (namedK (sB s))) ∧ Kept Noneof w w' := by
  obtain ⟨c, hc, hb, hk⟩ := bytes_conv (w := w) hs
  have hc := hc w rfl
  have HB := Lib.hid hb
  have HK := Lib.hid hk
  go_enter Try.func135, Try.ntmps135
  generalize Lib.bytesWorld w 5 s = w1 at *
  clear hb hk
  go_wp2
  go_loopw [8] (fun i wr => ∃ n : Nat, n ≤ s.size ∧ i = .int .i64 n ∧ Hid (∀ c ∈ (sB s).take n, nameB c = true) ∧ wr = w1) (fun i _ => s.size - (intOf i).toNat)
  case atStart => exact ⟨0, Nat.zero_le _, rfl, Lib.hid (by simp), rfl⟩
  case round =>
    obtain ⟨n, hn, rfl, ha, rfl⟩ := hrel
    by_cases hl : n < s.size
    · have hl2 : n < (sB s).length := by rw [sB_len]; exact hl
      obtain ⟨_, _, hsl, _, _, rd⟩ := HB.out
      simp only [Value.slice.injEq] at hsl
      obtain ⟨rfl, -, rfl⟩ := hsl
      obtain ⟨b1, o1, hbo, _, g1⟩ := Rd.byte rd hl2
      simp only [Option.some.injEq, Addr.mk.injEq, and_true] at hbo
      obtain ⟨rfl, rfl⟩ := hbo
      rw [Nat.zero_add] at g1
      have hT := Lib.hid (show NameN (sB s)[n].toNat → ∀ c ∈ (sB s).take (n + 1), nameB c = true from fun h c hc' => by
        rw [List.take_add_one, List.getElem?_eq_getElem hl2] at hc'
        simp only [Option.toList_some, List.mem_append, List.mem_singleton] at hc'
        rcases hc' with hc' | rfl
        · exact ha.out c hc'
        · exact decide_eq_true h)
      have hF := Lib.hid (show ¬ NameN (sB s)[n].toNat → false = namedK (sB s) from fun h => by
        have : (sB s).all nameB = false := List.all_eq_false.2 ⟨_, List.getElem_mem hl2, by simp [nameB, h]⟩
        simp [namedK, this])
      have hb : (sB s)[n].toNat < 256 := (sB s)[n].toNat_lt
      clear ha rd hc
      generalize (sB s)[n].toNat = c at *
      go_wp2_with fail
      all_goals
        first
        | (go_ret; exact ⟨ret_bool (hF.out (by unfold NameN; simp at *; omega)), HK.out⟩)
        | exact ⟨⟨n + 1, by omega, by go_num, Lib.hid (hT.out (by unfold NameN; simp at *; omega)), trivial⟩, by simp [intOf]; omega⟩
    · have HN := Lib.hid (show (sB s).all nameB = true from List.all_eq_true.2 fun c hc => ha.out c (by rw [List.take_of_length_le (by rw [sB_len]; omega)]; exact hc))
      obtain rfl : n = s.size := by omega
      clear hc
      go_wp2
      all_goals
        go_ret
        refine ⟨ret_bool ?_, HK.out⟩
        unfold namedK
        rw [HN.out, sB_len]
        rw [Bool.eq_iff_iff]
        simp
        try omega
end Go.Proofs.Ytaopjdjbpamhhaa
/- Proved: contracts of the vault's functions NewVault, none, Put (where it takes), Explain, and of the law function explains. Conditions: vaults in memory. -/
namespace Go.Proofs.Ytaopjdjbpamhhaa
open Go Go.RowKit
set_option linter.unusedVariables false
set_option linter.unusedSimpArgs false
/-- '[]byte{x}'. -/
theorem Own.lit1b (w : World) (y : UInt8) : Own 5 byteEl Noneof w.heap.size (w.alloc (.cells #[.int .u8 ((y.toNat : Nat) : Int)] 5)) (.slice (some ⟨w.heap.size, 0, none⟩) 1 1) [y] := by
  have hs : w.heap.size < (w.alloc (.cells #[.int .u8 ((y.toNat : Nat) : Int)] 5)).heap.size := by simp
  refine ⟨by simp, fun _ => False, fun b hb => hb.elim, [.int .u8 ((y.toNat : Nat) : Int)], ⟨by simp [byteEl], .inr ⟨w.heap.size, 1, _, rfl, Nat.le_refl _, heap_alloc_new _ _, Nat.le_refl _, by unfold maxLen; omega, by simp [byteEl], by simp [byteEl]⟩⟩, Cells.single rfl⟩
theorem results_cell_row_tmp {P : Program} {fn : Func} {p u : Tmp} {ty : TypeId} (h : fn.results = #[.cell p ty, .tmp u]) (tmps : Array Value) (w : World) (g : Nat) (t : TypeId) (cs : Array Value) (fr : Nat × Nat) (d : TypeDesc)
    (hp : tmps.getD p undef = .pointer (some ⟨g, 0, none⟩)) (hg : w.heap[g]? = some (.cells cs t fr))
    (hu : P.underlying ty = some d) (hd : (match d with | .struct _ | .array _ _ => true | _ => false) = true) (hi : (P.info? ty).map (·.size) = some cs.size) :
    (results fn tmps).run P w = .ok (.tuple #[.agg cs, tmps.getD u undef]) w := by
  have hp' : tmps[p]?.getD undef = .pointer (some ⟨g, 0, none⟩) := by simpa using hp
  simp [results, h, hp', asAddr, Sem.run_bind, Result.andThen, run_loadVar_row w g t ty cs fr d hg hu hd hi]
def vltObj (t : Nat) : Obj := .cells #[bp t] 191
def VltAt (seed : Int) (w : World) (v : Nat) (l : List (Bts × Bts)) (F : Nat → Prop) : Prop := ∃ t F0, w.heap[v]? = some (vltObj t) ∧ TabAt seed w t l F0 ∧ F v ∧ (∀ b, F0 b → F b ∧ b ≠ v)
section
variable {seed : Int} {w w' : World} {v : Nat} {l : List (Bts × Bts)} {F : Nat → Prop}
theorem VltAt.kept {X : Nat → Prop} (h : VltAt seed w v l F) (k : Kept X w w') (hX : ∀ b, F b → ¬ X b) : VltAt seed w' v l F := by
  obtain ⟨t, F0, h1, h2, h3, h4⟩ := h
  exact ⟨t, F0, k.obj (hX v h3) h1, h2.kept k fun b hb => hX b (h4 b hb).1, h3, h4⟩
theorem VltAt.still (h : VltAt seed w v l F) (k : Kept Noneof w w') : VltAt seed w' v l F := h.kept k fun _ _ h => h
theorem VltAt.wide {F' : Nat → Prop} (h : VltAt seed w v l F) (hF : ∀ b, F b → b < w.heap.size → F' b) : VltAt seed w v l F' := by
  obtain ⟨t, F0, h1, h2, h3, h4⟩ := h
  exact ⟨t, fun b => F0 b ∧ b < w.heap.size, h1, h2.wide fun b hb hl => ⟨hb, hl⟩, hF v h3 (block_lt h1), fun b hb => ⟨hF b (h4 b hb.1).1 hb.2, (h4 b hb.1).2⟩⟩
theorem vlt_cell {t : Nat} (h : w.heap[v]? = some (vltObj t)) : w.cell? ⟨v, 0, none⟩ = some (bp t) := by
  unfold vltObj at h
  simp [World.cell?, h]
end
theorem vnone_calls {seed : Int} {w : World} {v : Nat} {l : List (Bts × Bts)} {F : Nat → Prop} (h : VltAt seed w v l F) :
    Calls Try.prog 134 #[bp v] w fun e w' => e = .returned (.bool false) ∧ w' = w := by
  obtain ⟨t, F0, h1, _⟩ := h
  have c0 := vlt_cell h1
  clear h1
  go_enter Try.func134, Try.ntmps134
  go_wp2
  go_ret
  exact ⟨rfl, rfl⟩
theorem swNew_calls {seed : Int} {w : World} :
    Calls Try.prog 65 #[.int .u64 seed] w fun e w' => ∃ v, e = .returned (bp v) ∧ VltAt seed w' v [] (fun b => w.heap.size ≤ b ∧ b < w'.heap.size) ∧ Kept Noneof w w' ∧ w.heap.size ≤ v := by
  go_enter Try.func65, Try.ntmps65
  go_wp2_with fail
  refine (slNew_calls (seed := seed)).mono ?_
  rintro e w1 ⟨rfl, ht, k1, s1⟩
  go_wp2
  go_ret
  have k2 := (Kept.refl Noneof w1).alloc (.cells #[bp (w.heap.size + 1)] 191)
  have g2 := heap_alloc_new w1 (.cells #[bp (w.heap.size + 1)] 191)
  have hs : (w1.alloc (.cells #[bp (w.heap.size + 1)] 191)).heap.size = w1.heap.size + 1 := by simp
  rw [s1] at g2
  generalize w1.alloc (.cells #[bp (w.heap.size + 1)] 191) = w2 at *
  exact ⟨w.heap.size + 2, rfl, ⟨w.heap.size + 1, _, g2, ht.still k2, ⟨by omega, by omega⟩, fun b hb => ⟨⟨hb.1, by have := hb.2; omega⟩, by have := hb.2; omega⟩⟩, k1.tr k2, by omega⟩
set_option maxRecDepth 100000 in
set_option maxHeartbeats 4000000 in
theorem vPut_ok {seed : Int} {w : World} {v : Nat} {l : List (Bts × Bts)} {F D1 D2 : Nat → Prop} {s : ByteArray} {v1 v2 : Value} {data pad : Bts} (h : VltAt seed w v l F) (h1 : BV D1 w v1 data) (h2 : BV D2 w v2 pad) (hFl : ∀ b, F b → b < w.heap.size) (hd1 : ∀ b, D1 b → ¬ F b) (hd2 : ∀ b, D2 b → ¬ F b)
    (hn : namedK (sB s) = true) (hl : data.length = pad.length) (h9 : data.length ≤ 999) (hg : tget l (sB s) = none) (hr : l.length < 100000) (hs : s.size ≤ 140737488355328) :
    Calls Try.prog 67 #[bp v, .string s, v1, v2] w fun e w' => ∃ v' F', e = .returned (.tuple #[.agg #[.string s, v'], .int .i64 0]) ∧ BW (fun b => w.heap.size ≤ b ∧ ¬ F' b) w' v' (xorB data pad) ∧ VltAt seed w' v (tput l (sB s) (1 :: pad)) F' ∧ (∀ b, F' b → F b ∨ w.heap.size ≤ b) ∧ Kept F w w' := by
  have H := Lib.hid h
  have H1 := Lib.hid h1
  have H2 := Lib.hid h2
  have HN := Lib.hid hn
  have HL := Lib.hid hl
  have HG := Lib.hid hg
  have HR := Lib.hid hr
  have HS := Lib.hid hs
  have HFL := Lib.hid hFl
  have H9 := Lib.hid h9
  obtain ⟨a1, c1, rfl, _⟩ := h1
  obtain ⟨a2, c2, rfl, _⟩ := h2
  obtain ⟨t, F0, hv, ht, hFv, hF0⟩ := h
  have HV := Lib.hid hv
  have TT := Lib.hid ht
  have HF0 := Lib.hid hF0
  have HFv := Lib.hid hFv
  have h9' : decide ((999 : Int) < (pad.length : Int)) = false := decide_eq_false (by omega)
  rw [hl] at H1
  have hl' : data.length = pad.length := hl
  clear hn hg hr hs hFl hv ht hFv hF0 h9
  go_enter Try.func67, Try.ntmps67
  go_wp2_with fail
  have K1 := (Kept.refl Noneof w).alloc (.cells #[.string { data := #[] }, .slice none 0 0] 105)
  have G := heap_alloc_new w (.cells #[.string { data := #[] }, .slice none 0 0] 105)
  have s1 : (w.alloc (.cells #[.string { data := #[] }, .slice none 0 0] 105)).heap.size = w.heap.size + 1 := by simp
  generalize w.alloc (.cells #[.string { data := #[] }, .slice none 0 0] 105) = w1 at *
  refine (vnone_calls (H.out.still K1)).mono ?_
  rintro e w1' ⟨rfl, rfl⟩
  go_wp2_with fail
  refine (swnamed_calls HS.out).mono ?_
  rintro e w2 ⟨rfl, k2⟩
  rw [HN.out]
  have K2 := Lib.hid (K1.tr k2)
  replace G := Lib.hid (k2.obj (fun h => h) G)
  have S1 := Lib.hid (show w.heap.size < w2.heap.size by have := k2.size; omega)
  clear K1 k2 s1
  have cv : w2.cell? ⟨v, 0, none⟩ = some (bp t) := vlt_cell (K2.out.obj (fun h => h) HV.out)
  obtain ⟨cc, hc, hb, hk⟩ := bytes_conv (w := w2) HS.out
  replace hc := hc w2 rfl
  have HB := Lib.hid hb
  have K3 := Lib.hid (K2.out.tr hk)
  replace G := Lib.hid (hk.obj (fun h => h) G.out)
  have S2 := Lib.hid hk.size
  generalize Lib.bytesWorld w2 5 s = w3 at *
  clear hb hk
  go_wp2_with fail
  clear hc cv
  refine (slGet_calls (TT.out.still K3.out) HB.out).mono ?_
  rintro e w4 ⟨hres, k4⟩
  have hres : e = .returned (.tuple #[.slice none 0 0, .int .i64 3]) := by
    rcases hres with ⟨x, v', hx, _⟩ | ⟨_, h⟩
    · rw [HG.out] at hx; cases hx
    · exact h
  subst hres
  have K4 := Lib.hid (K3.out.tr k4)
  replace G := Lib.hid (k4.obj (fun h => h) G.out)
  have S4 := Lib.hid (show w.heap.size < w4.heap.size by have := k4.size; have := S1.out; have := S2.out; omega)
  clear k4 HB h9'
  go_wp2_with fail
  refine wp_region_kept 9 [(5, .act IsSlice fun u w1 => BV (fun b => w4.heap.size ≤ b) w1 u (sB s)), (6, .act IsSlice fun u w1 => Own 5 byteEl Noneof w4.heap.size w1 u [1] ∧ ∀ p n c, u = .slice (some p) n c → c = n), (8, .act IsSlice fun u w1 => Own 5 byteEl Noneof w4.heap.size w1 u (1 :: pad))] Noneof (by kernel_rfl) (by kernel_rfl) (by kernel_rfl) ?_
  simp only [List.take_succ_cons, List.take_zero, List.drop_succ_cons, List.drop_zero]
  have hS : ∀ w', Kept Noneof w4 w' → w'.cell? ⟨v, 0, none⟩ = some (bp t) := fun w' k => vlt_cell ((K4.out.tr k).obj (fun h => h) HV.out)
  iterate 5 (refine SeqL.val (v := ?_) hS rfl (by rfl) (fun wx hSw => ?_) ?_; rotate_left; (focus ((try dsimp only at hSw); go_simp; (try with_reducible rfl))); (try simp only [Act.put, List.setIfInBounds_toArray, List.set_cons_zero, List.set_cons_succ]))
  refine SeqL.act rfl rfl (by rfl) (by rfl) isSlice (fun wx hx hh K hK => ?_) (fun u1 hu1 => ?_)
  · obtain ⟨cc, hc, hb, hk⟩ := bytes_conv (w := wx) HS.out
    replace hc := hc wx rfl
    go_simp
    exact hK.out _ _ ⟨_, _, _, rfl⟩ hk (hb.wide byteEl_k fun b h _ => Nat.le_trans hx.size h)
  obtain ⟨q1, q2, q3, rfl⟩ := hu1
  (try simp only [Act.put, List.setIfInBounds_toArray, List.set_cons_zero, List.set_cons_succ])
  refine SeqL.act rfl rfl (by rfl) (by rfl) isSlice (fun wx hx hh K hK => ?_) (fun u1 hu1 => ?_)
  · go_simp
    exact hK.out _ _ ⟨_, _, _, rfl⟩ ((Kept.refl _ _).alloc _) ⟨(Own.lit1b wx 1).base hx.size, fun p n c h => by cases h; rfl⟩
  obtain ⟨q4, q5, q6, rfl⟩ := hu1
  (try simp only [Act.put, List.setIfInBounds_toArray, List.set_cons_zero, List.set_cons_succ])
  (refine SeqL.val (v := ?_) hS rfl (by rfl) (fun wx hSw => ?_) ?_; rotate_left; (focus ((try dsimp only at hSw); go_simp; (try with_reducible rfl))); (try simp only [Act.put, List.setIfInBounds_toArray, List.set_cons_zero, List.set_cons_succ]))
  refine SeqL.act rfl rfl (by rfl) (by rfl) isSlice (fun wx hx hh K hK => ?_) (fun u1 hu1 => ?_)
  · obtain ⟨wy, _, ⟨o2, f2⟩, hxy⟩ := hh 6 (by decide) (by kernel_rfl) _ _ _ rfl rfl
    refine wp_app_full_bytes (.tmp 52) (.tmp 53) _ rfl tBytes _ [1] rfl (o2.kept hxy fun _ h => h.elim) f2 _ pad rfl ((H2.out.still' K4.out).still' hx) (by simp; have := H2.out.len; have := H9.out; have := HL.out; omega) hx.size ?_
    rintro v' w' o4 k4 _
    exact hK.out _ _ o4.slice' k4 o4
  obtain ⟨q7, q8, q9, rfl⟩ := hu1
  (try simp only [Act.put, List.setIfInBounds_toArray, List.set_cons_zero, List.set_cons_succ])
  refine SeqL.nil fun wz hz hh => ?_
  obtain ⟨wa, _, ba, ka⟩ := hh 5 (by decide) _ _ _ rfl rfl
  obtain ⟨wb, _, ob, kb⟩ := hh 8 (by decide) _ _ _ rfl rfl
  have BA := Lib.hid (show BV (fun b => w4.heap.size ≤ b) wz (.slice q1 q2 q3) (sB s) from ba.still' ka)
  have OB := Lib.hid (show Own 5 byteEl Noneof w4.heap.size wz (.slice q7 q8 q9) (1 :: pad) from ob.kept kb fun _ h => h.elim)
  have KZ := Lib.hid (K4.out.tr hz)
  replace G := Lib.hid (hz.obj (fun h => h) G.out)
  have SZ := Lib.hid (show w4.heap.size ≤ wz.heap.size from hz.size)
  clear hh ba ka ob kb hz hS
  have hal : allowedK (sB s) (1 :: pad) = true := by
    have h1 := HN.out
    have h2 := H9.out
    have h3 := HL.out
    simp only [namedK, Bool.and_eq_true, decide_eq_true_eq] at h1
    simp only [allowedK, Bool.and_eq_true, decide_eq_true_eq, List.length_cons]
    omega
  go_wp2_with fail
  refine (slPut_calls (TT.out.still KZ.out) BA.out OB.out.sv (fun b h hf => by have := HFL.out b (HF0.out b hf).1; have := S4.out; omega) hal (.inr HR.out)).mono ?_
  rintro e w5 ⟨rfl, F1, t5, hF1, k5⟩
  have T5 := Lib.hid (t5.wide (F' := fun b => F1 b ∧ b < w5.heap.size) fun b h hl => ⟨h, hl⟩)
  have HF1 := Lib.hid hF1
  have K5 := Lib.hid (show Kept F w w5 from (KZ.out.mono (T := F) fun _ h => h.elim).trans k5 fun b h => .inl (HF0.out b h).1)
  have HV5 := Lib.hid (show w5.heap[v]? = some (vltObj t) from k5.obj (fun h => (HF0.out v h).2 rfl) (KZ.out.obj (fun h => h) HV.out))
  have S5 := Lib.hid (show wz.heap.size ≤ w5.heap.size from k5.size)
  have hF0w : ¬ F0 w.heap.size := fun h => by have := HFL.out _ (HF0.out _ h).1; omega
  replace G := Lib.hid (k5.obj hF0w G.out)
  replace H1 := Lib.hid ((H1.out.still' KZ.out).kept byteEl_k k5 fun b h _ hf => hd1 b h (HF0.out b hf).1)
  replace H2 := Lib.hid ((H2.out.still' KZ.out).kept byteEl_k k5 fun b h _ hf => hd2 b h (HF0.out b hf).1)
  clear k5 t5 hF0w hal BA OB
  go_wp2_with fail
  refine (swboth_calls H1.out H2.out HL.out).mono ?_
  rintro e w6 ⟨v6, rfl, o6, k6⟩
  have O6 := Lib.hid o6
  have K6 := Lib.hid (K5.out.trans k6 fun b h => h.elim)
  have T6 := Lib.hid (T5.out.still k6)
  have HV6 := Lib.hid (k6.obj (fun h => h) HV5.out)
  have G6 := Lib.hid (k6.obj (fun h => h) G.out)
  have S6 := Lib.hid k6.size
  obtain ⟨x1, x2, x3, rfl⟩ := o6.slice'
  have f0 : w6.cell? ⟨w.heap.size, 0, none⟩ = some (.string { data := #[] }) := by simp [World.cell?, G6.out]
  have f1 : w6.cell? ⟨w.heap.size, 1, none⟩ = some (.slice none 0 0) := by simp [World.cell?, G6.out]
  have ff : ∀ j, w6.frozen? ⟨w.heap.size, j, none⟩ = false := fun j => by simp [World.frozen?, G6.out]
  clear o6 k6 HV5 T5 G
  go_wp2
  have KT := ((Kept.refl (fun b => b = w.heap.size) w6).setCell (p := ⟨w.heap.size, 0, none⟩) (.inl rfl) (.string s)).setCell (p := ⟨w.heap.size, 1, none⟩) (.inl rfl) (.slice x1 x2 x3)
  have GF := setCell_obj (setCell_obj G6.out (.string s) (j := 0)) (.slice x1 x2 x3) (j := 1)
  refine bodyPost_ret (results_cell_row_tmp rfl _ _ w.heap.size _ #[_, _] (0, 0) _ rfl GF Try.underlying105 rfl (by kernel_rfl)) rfl ?_
  have hvw : v ≠ w.heap.size := by have := block_lt HV.out; omega
  have hFw : ¬ F w.heap.size := fun h => by have := HFL.out _ h; omega
  have hs4 := S4.out
  have hsz := SZ.out
  have hs5 := S5.out
  have hs6 := S6.out
  have ht : t < w.heap.size := TT.out.lt
  refine ⟨_, fun b => (F b ∨ (w.heap.size < b ∧ F1 b)) ∧ b < w5.heap.size, rfl, ?_, ⟨t, fun b => F1 b ∧ b < w5.heap.size, KT.obj hvw HV6.out, ?_, ⟨.inl HFv.out, by have := block_lt HV.out; omega⟩, fun b hb => ?_⟩, fun b hb => hb.1.elim .inl fun h => .inr (by omega), K6.out.trans KT fun b e => .inr (by omega)⟩
  · exact (O6.out.bw (D := fun b => w5.heap.size ≤ b) fun b h => (O6.out.lt b h).1).mono fun b h hl => ⟨⟨by omega, fun hb => by omega⟩, KT.block b hl (fun e => by omega)⟩
  · refine T6.out.kept KT fun b hb e => ?_
    rcases HF1.out b hb.1 with h | h
    · exact hFw (e ▸ (HF0.out b h).1)
    · omega
  · rcases HF1.out b hb.1 with h | h
    · exact ⟨⟨.inl (HF0.out b h).1, hb.2⟩, (HF0.out b h).2⟩
    · exact ⟨⟨.inr ⟨by omega, hb.1⟩, hb.2⟩, by have := block_lt HV.out; omega⟩

end Go.Proofs.Ytaopjdjbpamhhaa
/- Proved: contracts of a vault's Open and Forget; of Put, Open, Forget and Image at a vault that there is not. Conditions: vaults and bytes in memory. -/
namespace Go.Proofs.Ytaopjdjbpamhhaa
open Go Go.RowKit
set_option linter.unusedVariables false
set_option linter.unusedSimpArgs false
/-- A vault that there is not: nil, or one that no function has returned. -/
def VNone (w : World) (x : Value) : Prop := x = .pointer none ∨ ∃ v, x = bp v ∧ w.cell? ⟨v, 0, none⟩ = some (.pointer none)
theorem VNone.still {w w' : World} {x : Value} (h : VNone w x) (k : Kept Noneof w w') : VNone w' x := by
  rcases h with h | ⟨v, h1, h2⟩
  · exact .inl h
  · exact .inr ⟨v, h1, k.cell (fun h => h) h2⟩
theorem vnone_none {w : World} {x : Value} (h : VNone w x) : Calls Try.prog 134 #[x] w fun e w' => e = .returned (.bool true) ∧ w' = w := by
  rcases h with rfl | ⟨v, rfl, hc⟩
  · go_enter Try.func134, Try.ntmps134
    go_wp2
    go_ret
    exact ⟨rfl, rfl⟩
  · go_enter Try.func134, Try.ntmps134
    go_wp2
    go_ret
    exact ⟨rfl, rfl⟩
set_option maxRecDepth 100000 in
set_option maxHeartbeats 1000000 in
theorem vPut_none {w : World} {x : Value} {s : ByteArray} {a1 a2 : Option Addr} {n1 c1 n2 c2 : Nat} (h : VNone w x) :
    Calls Try.prog 67 #[x, .string s, .slice a1 n1 c1, .slice a2 n2 c2] w fun e w' => e = .returned (.tuple #[.agg #[.string { data := #[] }, .slice none 0 0], .int .i64 1]) ∧ Kept Noneof w w' := by
  have H := Lib.hid h
  have hx : ∃ p, x = .pointer p := by
    rcases h with rfl | ⟨v, rfl, _⟩
    · exact ⟨_, rfl⟩
    · exact ⟨_, rfl⟩
  obtain ⟨p, rfl⟩ := hx
  clear h
  go_enter Try.func67, Try.ntmps67
  go_wp2_with fail
  have K1 := Lib.hid ((Kept.refl Noneof w).alloc (.cells #[.string { data := #[] }, .slice none 0 0] 105))
  have G := heap_alloc_new w (.cells #[.string { data := #[] }, .slice none 0 0] 105)
  generalize w.alloc (.cells #[.string { data := #[] }, .slice none 0 0] 105) = w1 at *
  refine (vnone_none (H.out.still K1.out)).mono ?_
  rintro e w1' ⟨rfl, rfl⟩
  have f0 : w1'.cell? ⟨w.heap.size, 0, none⟩ = some (.string { data := #[] }) := by simp [World.cell?, G]
  have f1 : w1'.cell? ⟨w.heap.size, 1, none⟩ = some (.slice none 0 0) := by simp [World.cell?, G]
  have ff : ∀ j, w1'.frozen? ⟨w.heap.size, j, none⟩ = false := fun j => by simp [World.frozen?, G]
  go_wp2
  have KT := ((Kept.refl (fun b => b = w.heap.size) w1').setCell (p := ⟨w.heap.size, 0, none⟩) (.inl rfl) (.string { data := #[] })).setCell (p := ⟨w.heap.size, 1, none⟩) (.inl rfl) (.slice none 0 0)
  have GF := setCell_obj (setCell_obj G (.string { data := #[] }) (j := 0)) (.slice none 0 0) (j := 1)
  refine bodyPost_ret (results_cell_row_tmp rfl _ _ w.heap.size _ #[_, _] (0, 0) _ rfl GF Try.underlying105 rfl (by kernel_rfl)) rfl ?_
  exact ⟨rfl, K1.out.trans KT fun b e => .inr (by omega)⟩
theorem vOpen_none {w : World} {x : Value} {s : ByteArray} {a1 : Option Addr} {n1 c1 : Nat} (h : VNone w x) :
    Calls Try.prog 69 #[x, .agg #[.string s, .slice a1 n1 c1]] w fun e w' => e = .returned (.tuple #[.slice none 0 0, .int .i64 3]) ∧ Kept Noneof w w' := by
  have H := Lib.hid h
  have hx : ∃ p, x = .pointer p := by
    rcases h with rfl | ⟨v, rfl, _⟩
    · exact ⟨_, rfl⟩
    · exact ⟨_, rfl⟩
  obtain ⟨p, rfl⟩ := hx
  clear h
  go_enter Try.func69, Try.ntmps69
  go_wp2_with fail
  have K1 := Lib.hid ((Kept.refl Noneof w).alloc (.cells #[.string s, .slice a1 n1 c1] 105))
  generalize w.alloc (.cells #[.string s, .slice a1 n1 c1] 105) = w1 at *
  refine (vnone_none (H.out.still K1.out)).mono ?_
  rintro e w1' ⟨rfl, rfl⟩
  go_wp2
  go_ret2
  exact ⟨rfl, K1.out⟩
theorem vForget_none {w : World} {x : Value} {s : ByteArray} (h : VNone w x) :
    Calls Try.prog 70 #[x, .string s] w fun e w' => e = .returned (.int .i64 1) ∧ w' = w := by
  have H := Lib.hid h
  clear h
  go_enter Try.func70, Try.ntmps70
  go_wp2_with fail
  refine (vnone_none H.out).mono ?_
  rintro e w1' ⟨rfl, rfl⟩
  go_wp2
  go_ret
  exact ⟨rfl, rfl⟩
theorem vImage_none {w : World} {x : Value} (h : VNone w x) :
    Calls Try.prog 71 #[x] w fun e w' => e = .returned (.slice none 0 0) ∧ w' = w := by
  have H := Lib.hid h
  clear h
  go_enter Try.func71, Try.ntmps71
  go_wp2_with fail
  refine (vnone_none H.out).mono ?_
  rintro e w1' ⟨rfl, rfl⟩
  go_wp2
  go_ret
  exact ⟨rfl, rfl⟩
/-! ### A vault that there is -/
set_option maxRecDepth 100000 in
set_option maxHeartbeats 1000000 in
theorem vForget_calls {seed : Int} {w : World} {v : Nat} {l : List (Bts × Bts)} {F : Nat → Prop} {s : ByteArray} (h : VltAt seed w v l F) (hFl : ∀ b, F b → b < w.heap.size) (hs : s.size ≤ 140737488355328) :
    Calls Try.prog 70 #[bp v, .string s] w fun e w' => e = .returned (.int .i64 (dropE l (sB s))) ∧ VltAt seed w' v (tdel l (sB s)) F ∧ Kept F w w' := by
  have H := Lib.hid h
  obtain ⟨t, F0, hv, ht, hFv, hF0⟩ := h
  have cv := vlt_cell hv
  have TT := Lib.hid ht
  have HV := Lib.hid hv
  have HF0 := Lib.hid hF0
  have HFv := Lib.hid hFv
  have HFL := Lib.hid hFl
  obtain ⟨cc, hc, hb, hk⟩ := bytes_conv (w := w) hs
  replace hc := hc w rfl
  have HB := Lib.hid hb
  have K1 := Lib.hid hk
  clear hv ht hFv hF0 hFl hb hk
  go_enter Try.func70, Try.ntmps70
  go_wp2_with fail
  refine (vnone_calls H.out).mono ?_
  rintro e w1' ⟨rfl, rfl⟩
  generalize Lib.bytesWorld w1' 5 s = w3 at *
  go_wp2_with fail
  clear hc cv
  refine (slDrop_calls (TT.out.still K1.out) HB.out (fun b h hf => by have := HFL.out b (HF0.out b hf).1; omega)).mono ?_
  rintro e w4 ⟨rfl, t4, k4⟩
  have T4 := Lib.hid t4
  have K4 := Lib.hid k4
  clear t4 k4
  go_wp2
  go_ret
  refine ⟨rfl, ⟨t, F0, K4.out.obj (fun hh => (HF0.out v hh).2 rfl) (K1.out.obj (fun h => h) HV.out), T4.out, HFv.out, HF0.out⟩, (K1.out.mono (T := F) fun _ h => h.elim).trans K4.out fun b hb => .inl (HF0.out b hb).1⟩
/-- What Open returns: the error, and the record. -/
def openK (o : Option Bts) (bs : Bts) : Int × Bts := match o with
  | none => (3, [])
  | some kept => if kept.length = bs.length + 1 then (0, xorB bs (kept.drop 1)) else (2, [])
set_option maxRecDepth 100000 in
set_option maxHeartbeats 4000000 in
theorem vOpen_calls {seed : Int} {w : World} {v : Nat} {l : List (Bts × Bts)} {F D1 : Nat → Prop} {s : ByteArray} {v1 : Value} {bs : Bts} (h : VltAt seed w v l F) (h1 : BV D1 w v1 bs) (hs : s.size ≤ 140737488355328) :
    Calls Try.prog 69 #[bp v, .agg #[.string s, v1]] w fun e w' => ∃ v', e = .returned (.tuple #[v', .int .i64 (openK (tget l (sB s)) bs).1]) ∧ Own 5 byteEl Noneof w.heap.size w' v' (openK (tget l (sB s)) bs).2 ∧ Kept Noneof w w' := by
  have H := Lib.hid h
  have H1 := Lib.hid h1
  have HS := Lib.hid hs
  obtain ⟨⟨er, rb⟩, hres⟩ : ∃ r, openK (tget l (sB s)) bs = r := ⟨_, rfl⟩
  rw [hres]
  have RES := Lib.hid hres
  clear hres
  obtain ⟨a1, c1, rfl, _, hm, _⟩ := h1
  obtain ⟨t, F0, hv, ht, _⟩ := h
  have TT := Lib.hid ht
  have HV := Lib.hid hv
  clear hv ht hs
  go_enter Try.func69, Try.ntmps69
  go_wp2_with fail
  have K1 := Lib.hid ((Kept.refl Noneof w).alloc (.cells #[.string s, .slice a1 bs.length c1] 105))
  have G := Lib.hid (heap_alloc_new w (.cells #[.string s, .slice a1 bs.length c1] 105))
  have sz : w.heap.size ≤ (w.alloc (.cells #[.string s, .slice a1 bs.length c1] 105)).heap.size := by simp
  replace sz := Lib.hid sz
  generalize w.alloc (.cells #[.string s, .slice a1 bs.length c1] 105) = w1 at *
  refine (vnone_calls (H.out.still K1.out)).mono ?_
  rintro e w1' ⟨rfl, rfl⟩
  have G0 := Lib.hid (fun (w' : World) (k : Kept Noneof w1' w') => show w'.cell? ⟨v, 0, none⟩ = some (bp t) ∧ w'.cell? ⟨w.heap.size, 0, none⟩ = some (.string s) ∧ w'.cell? ⟨w.heap.size, 1, none⟩ = some (.slice a1 bs.length c1) from
    ⟨vlt_cell ((K1.out.tr k).obj (fun h => h) HV.out), by have := k.obj (fun h => h) G.out; simp [World.cell?, this], by have := k.obj (fun h => h) G.out; simp [World.cell?, this]⟩)
  go_wp2_with fail
  refine wp_region_chain 13 [6, 7] (fun w' => w'.cell? ⟨v, 0, none⟩ = some (bp t) ∧ w'.cell? ⟨w.heap.size, 0, none⟩ = some (.string s) ∧ w'.cell? ⟨w.heap.size, 1, none⟩ = some (.slice a1 bs.length c1)) (by kernel_rfl) (by kernel_rfl) ?_ ?_
  · exact G0.out _ (Kept.refl _ _).drew
  refine SeqW.out ?_
  simp only [List.take_succ_cons, List.take_zero, List.drop_succ_cons, List.drop_zero]
  have kd := (Kept.refl Noneof w1').drew
  generalize w1'.drew = wd at *
  iterate 6 (refine SeqW.val (v := ?_) (by rfl) (by rfl) (fun wx hSw => ?_) ?_; rotate_left; (focus ((try dsimp only at hSw); go_simp; (try with_reducible rfl))); (try simp only [Act.put, List.setIfInBounds_toArray, List.set_cons_zero, List.set_cons_succ]))
  refine SeqW.act (by rfl) rfl (by rfl) (by rfl) (fun K hK => ?_)
  go_simp
  obtain ⟨cc, hc, hb, hk⟩ := bytes_conv (w := wd) HS.out
  replace hc := hc wd rfl
  go_simp
  refine hK.out _ _ (G0.out _ (kd.tr hk)) ?_
  have K3 := Lib.hid (kd.tr hk)
  have HB := Lib.hid hb
  generalize Lib.bytesWorld wd 5 s = w3 at *
  clear K hK kd hk hb hc
  (try simp only [Act.put, List.setIfInBounds_toArray, List.set_cons_zero, List.set_cons_succ])
  refine SeqW.act (by rfl) rfl (by rfl) (by rfl) (fun K hK => ?_)
  go_simp
  refine (slGet_calls (TT.out.still (K1.out.tr K3.out)) HB.out).mono ?_
  rintro e w4 ⟨hres, k4⟩
  have S4 := Lib.hid (show w1'.heap.size ≤ w4.heap.size from (K3.out.tr k4).size)
  have K4 := Lib.hid (K3.out.tr k4)
  have S3 := Lib.hid (show w1'.heap.size ≤ w3.heap.size from K3.out.size)
  rcases hres with ⟨x, v', hx, rfl, o4⟩ | ⟨hx, rfl⟩
  · have O4 := Lib.hid o4
    obtain ⟨x1, x3, rfl⟩ := o4.slice
    have R2 := RES.out
    rw [hx] at R2
    unfold openK at R2
    simp only at R2
    obtain ⟨m, hm2⟩ : ∃ m, x.length = m := ⟨_, rfl⟩
    rw [hm2] at R2 ⊢
    have HM := Lib.hid hm2
    have GS := Lib.hid (G0.out _ K4.out)
    refine hK.out _ _ (G0.out _ K4.out) ?_
    clear K hK k4 o4 HB hx RES hm2
    (try simp only [Act.put, List.setIfInBounds_toArray, List.set_cons_zero, List.set_cons_succ])
    iterate 5 (refine SeqW.val (v := ?_) (by rfl) (by rfl) (fun wx hSw => ?_) ?_; rotate_left; (focus ((try dsimp only at hSw); go_simp; (try with_reducible rfl))); (try simp only [Act.put, List.setIfInBounds_toArray, List.set_cons_zero, List.set_cons_succ]))
    refine SeqW.nil ?_
    obtain ⟨g0, g1, g2⟩ := GS.out
    by_cases hl : m = bs.length + 1
    rotate_left
    · rw [if_neg hl] at R2
      obtain ⟨rfl, rfl⟩ := Prod.mk.inj R2
      have e1 : ((m : Int) != (bs.length : Int) + 1) = true := by rw [bne_iff_ne]; omega
      clear hl R2
      go_wp2
      go_ret2
      exact ⟨_, rfl, Own.nil _ _ _ _ _, K1.out.tr K4.out⟩
    rw [if_pos hl] at R2
    obtain ⟨rfl, hrb⟩ := Prod.mk.inj R2
    have RB := Lib.hid hrb
    clear R2 hrb
    subst hl
    go_upto_region 8 with (fail)
    refine wp_region_chain 7 [4] (fun w' => w'.cell? ⟨w.heap.size, 1, none⟩ = some (.slice a1 bs.length c1)) (by kernel_rfl) (by kernel_rfl) ?_ ?_
    · exact g2
    refine SeqW.out ?_
    simp only [List.take_succ_cons, List.take_zero, List.drop_succ_cons, List.drop_zero]
    have kd := (Kept.refl Noneof w4).drew
    have K5 := Lib.hid (K4.out.tr kd)
    replace O4 := Lib.hid (O4.out.kept kd fun _ h => h.elim)
    replace S4 := Lib.hid (show w.heap.size ≤ w4.drew.heap.size from Nat.le_trans sz.out S4.out)
    replace g2 := kd.cell (p := ⟨w.heap.size, 1, none⟩) (fun h => h) g2
    generalize w4.drew = wf at *
    clear kd
    have hb1 : (1 : Int) ≤ (bs.length : Int) + 1 := by omega
    iterate 4 (refine SeqW.val (v := ?_) (by rfl) (by rfl) (fun wx hSw => ?_) ?_; rotate_left; (focus ((try dsimp only at hSw); go_simp; (try with_reducible rfl))); (try simp only [Act.put, List.setIfInBounds_toArray, List.set_cons_zero, List.set_cons_succ]))
    refine SeqW.act (by rfl) rfl (by rfl) (by rfl) (fun K hK => ?_)
    go_simp
    have XD := SV.drop (n := 1) (d := 1) O4.out.sv (by rw [HM.out]; omega) rfl
    rw [HM.out] at XD
    refine (swboth_calls (H1.out.still' (K1.out.tr K5.out)) XD (by rw [List.length_drop, HM.out]; omega)).mono ?_
    rintro e w6 ⟨v6, rfl, o6, k6⟩
    refine hK.out _ _ (k6.cell (p := ⟨w.heap.size, 1, none⟩) (fun h => h) g2) ?_
    have O6 := Lib.hid (o6.base S4.out)
    have K6 := Lib.hid ((K1.out.tr K5.out).tr k6)
    clear K hK o6 k6
    (try simp only [Act.put, List.setIfInBounds_toArray, List.set_cons_zero, List.set_cons_succ])
    iterate 2 (refine SeqW.val (v := ?_) (by rfl) (by rfl) (fun wx hSw => ?_) ?_; rotate_left; (focus ((try dsimp only at hSw); go_simp; (try with_reducible rfl))); (try simp only [Act.put, List.setIfInBounds_toArray, List.set_cons_zero, List.set_cons_succ]))
    refine SeqW.nil ?_
    obtain ⟨y1, y2, y3, rfl⟩ := O6.out.slice'
    clear g0 g1 g2 hb1
    rw [RB.out] at O6
    go_wp2
    all_goals
      go_ret2
      exact ⟨_, rfl, O6.out, K6.out⟩
  · have R2 := RES.out
    rw [hx] at R2
    obtain ⟨rfl, rfl⟩ := Prod.mk.inj R2
    refine hK.out _ _ (G0.out _ K4.out) ?_
    clear K hK k4 HB hx RES R2
    (try simp only [Act.put, List.setIfInBounds_toArray, List.set_cons_zero, List.set_cons_succ])
    iterate 5 (refine SeqW.val (v := ?_) (by rfl) (by rfl) (fun wx hSw => ?_) ?_; rotate_left; (focus ((try dsimp only at hSw); go_simp; (try with_reducible rfl))); (try simp only [Act.put, List.setIfInBounds_toArray, List.set_cons_zero, List.set_cons_succ]))
    refine SeqW.nil ?_
    go_wp2
    go_ret2
    exact ⟨_, rfl, Own.nil _ _ _ _ _, K1.out.tr K4.out⟩
end Go.Proofs.Ytaopjdjbpamhhaa
/- Proved: deeds of the law functions of chapter 07 as elements of slices. Plain: what deeds do to a vault's pads. Conditions: deeds in memory. -/
namespace Go.Proofs.Ytaopjdjbpamhhaa
open Go Go.RowKit Go.ChangeShapes Go.WideShapes
set_option linter.unusedVariables false
set_option linter.unusedSimpArgs false
/-- A deed: its kind, a name, data, a pad. -/
abbrev DeedK := Int × ByteArray × Bts × Bts
def deedEl : El DeedK where
  k := 4
  R := fun D w cs x => ∃ u v, cs = [.int .i64 x.1, .string x.2.1, u, v] ∧ x.2.1.size ≤ 140737488355328 ∧ BV D w u x.2.2.1 ∧ BV D w v x.2.2.2
  mono := fun hw ⟨u, v, h1, h0, h2, h3⟩ => ⟨u, v, h1, h0, h2.mono byteEl_k hw, h3.mono byteEl_k hw⟩
  len := fun ⟨u, v, h1, _⟩ => by rw [h1]; rfl
  one := fun ⟨u, v, h1, _, h2, h3⟩ x hx => by
    rw [h1] at hx
    simp only [List.mem_cons, List.not_mem_nil, or_false] at hx
    rcases hx with rfl | rfl | rfl | rfl
    · rfl
    · rfl
    · exact h2.cell1
    · exact h3.cell1
theorem deedEl_k : 0 < deedEl.k := by decide
theorem Rd.deed {D : Nat → Prop} {w : World} {a : Option Addr} {l : List DeedK} (h : Rd deedEl D w a l) {i : Nat} (hi : i < l.length) : ∃ b o u v, a = some ⟨b, o, none⟩ ∧ D b ∧ w.cell? ⟨b, o + i * 4, none⟩ = some (.int .i64 l[i].1) ∧ w.cell? ⟨b, o + i * 4 + 1, none⟩ = some (.string l[i].2.1) ∧ w.cell? ⟨b, o + i * 4 + 2, none⟩ = some u ∧ w.cell? ⟨b, o + i * 4 + 3, none⟩ = some v ∧ l[i].2.1.size ≤ 140737488355328 ∧ BV D w u l[i].2.2.1 ∧ BV D w v l[i].2.2.2 := by
  obtain ⟨b, o, cs, h1, h2, h4, u, v, h5, h0, h6, h7⟩ := h i hi
  subst h5
  have e0 := h4 0 (by simp)
  have e1 := h4 1 (by simp)
  have e2 := h4 2 (by simp)
  have e3 := h4 3 (by simp)
  exact ⟨b, o, u, v, h1, h2, by simpa [deedEl] using e0, by simpa [deedEl, Nat.add_assoc] using e1, by simpa [deedEl, Nat.add_assoc] using e2, by simpa [deedEl, Nat.add_assoc] using e3, h0, h6, h7⟩
/-- A struct of an int, a string and two slices of bytes. -/
theorem opens_deed {P : Program} {s ti tt t e : TypeId} {f0 f1 f2 f3 : Field} (hs : P.underlying s = some (.struct #[f0, f1, f2, f3])) (o0 : f0.offset = 0) (o1 : f1.offset = 1) (o2 : f2.offset = 2) (o3 : f3.offset = 3) (t0 : f0.type = ti) (t1 : f1.type = tt) (t2 : f2.type = t) (t3 : f3.type = t)
    (ci : P.cellsOf ti = 1) (cc : P.cellsOf tt = 1) (ct : P.cellsOf t = 1) (cs4 : P.cellsOf s = 4) (hi : P.underlying ti = some (.int .i64)) (hst : P.underlying tt = some .string)
    (ht : P.underlying t = some (.slice e)) (he : P.underlying e = some (.int .u8)) (hc : P.cellsOf e = 1) (hb : 1 ≤ P.bytesOf e) : Opens P s deedEl := by
  intro H enc w base spare held fuel cs x h hw
  obtain ⟨xs, n, _, rfl, hlen, hxl, hf⟩ := DataW.trod_struct hs h
  have g0 := hf 0 f0 rfl
  have g1 := hf 1 f1 rfl
  have g2 := hf 2 f2 rfl
  have g3 := hf 3 f3 rfl
  rw [o0, t0, ci] at g0
  rw [o1, t1, cc] at g1
  rw [o2, t2, ct] at g2
  rw [o3, t3, ct] at g3
  rw [cs4] at hlen
  match xs, hxl, cs, hlen with
  | [y0, y1, y2, y3], _, [v0, v1, v2, v3], _ =>
    simp only [List.drop_zero, List.take_succ_cons, List.take_zero, List.getElem?_cons_zero] at g0
    simp only [List.drop_succ_cons, List.drop_zero, List.take_succ_cons, List.take_zero, List.getElem?_cons_succ, List.getElem?_cons_zero] at g1
    simp only [List.drop_succ_cons, List.drop_zero, List.take_succ_cons, List.take_zero, List.getElem?_cons_succ, List.getElem?_cons_zero] at g2
    simp only [List.drop_succ_cons, List.drop_zero, List.take_succ_cons, List.take_zero, List.getElem?_cons_succ, List.getElem?_cons_zero] at g3
    have w1 : ∀ n ∈ y1.1.weights P tt, n ≤ reachBytes := fun n hn => hw n (by
      simp only [DataW.weights, hs, List.map_cons, List.map_nil, DataW.weightsEach, t0, t1, t2, t3, List.mem_append]
      exact .inr (.inl hn))
    have w2 : ∀ n ∈ y2.1.weights P t, n ≤ reachBytes := fun n hn => hw n (by
      simp only [DataW.weights, hs, List.map_cons, List.map_nil, DataW.weightsEach, t0, t1, t2, t3, List.mem_append]
      exact .inr (.inr (.inl hn)))
    have w3 : ∀ n ∈ y3.1.weights P t, n ≤ reachBytes := fun n hn => hw n (by
      simp only [DataW.weights, hs, List.map_cons, List.map_nil, DataW.weightsEach, t0, t1, t2, t3, List.mem_append]
      exact .inr (.inr (.inr (.inl hn))))
    obtain ⟨x0, hx0, _, _⟩ := DataW.trod_int hi g0
    obtain ⟨s1, hs1, rfl, _⟩ := DataW.trod_string hst g1
    obtain ⟨k2, u2, hu2, h2⟩ := opens_bytes ht he hc hb _ _ _ _ _ _ _ _ _ g2 w2
    obtain ⟨k3, u3, hu3, h3⟩ := opens_bytes ht he hc hb _ _ _ _ _ _ _ _ _ g3 w3
    simp only [List.cons.injEq, and_true] at hx0 hs1 hu2 hu3
    subst hx0
    subst hs1
    subst hu2
    subst hu3
    have hsz : s1.size ≤ 140737488355328 := by
      have := w1 s1.data.toList.length (by simp [DataW.weights])
      have e : s1.data.toList.length = s1.size := by rw [Array.length_toList]; rfl
      have r : reachBytes = 140737488351232 := by decide
      omega
    exact ⟨(x0, s1, k2, k3), _, _, rfl, hsz, h2, h3⟩

/-! ### Plain: what deeds do -/
def goodD (n : Bts) (data pad : Bts) : Bool := namedK n && decide (data.length = pad.length) && decide (data.length ≤ 999)
def vputT (out : List (Bts × Bts)) (n data pad : Bts) : List (Bts × Bts) := if goodD n data pad = true ∧ tget out n = none then tput out n (1 :: pad) else out
def deedT (out : List (Bts × Bts)) (d : DeedK) : List (Bts × Bts) := if d.1 = 0 then vputT out (sB d.2.1) d.2.2.1 d.2.2.2 else if d.1 = 2 then tdel out (sB d.2.1) else out
def deedsT (out : List (Bts × Bts)) (l : List DeedK) : List (Bts × Bts) := l.foldl deedT out
theorem deedsT_succ {out : List (Bts × Bts)} {l : List DeedK} {n : Nat} (h : n < l.length) : deedsT out (l.take (n + 1)) = deedT (deedsT out (l.take n)) l[n] := by
  unfold deedsT
  rw [List.take_add_one, List.getElem?_eq_getElem h, List.foldl_append]
  rfl
theorem vputT_len (out : List (Bts × Bts)) (n data pad : Bts) : (vputT out n data pad).length ≤ out.length + 1 := by
  unfold vputT
  split
  · rw [tput_len]; split <;> omega
  · omega
theorem deedT_len (out : List (Bts × Bts)) (d : DeedK) : (deedT out d).length ≤ out.length + 1 := by
  unfold deedT
  split
  · exact vputT_len _ _ _ _
  · split
    · have := tdel_len out (sB d.2.1); omega
    · omega
theorem deedsT_len : ∀ (l : List DeedK) (out : List (Bts × Bts)), (deedsT out l).length ≤ out.length + l.length
  | [], out => by simp [deedsT]
  | d :: l, out => by
    have h1 := deedsT_len l (deedT out d)
    have h2 := deedT_len out d
    unfold deedsT at h1 ⊢
    rw [List.foldl_cons, List.length_cons]
    omega
theorem tget_tput_ne : ∀ {l : List (Bts × Bts)} {k v n : Bts}, k ≠ n → tget (tput l k v) n = tget l n
  | [], k, v, n, h => by simp [tput, tget, h]
  | p :: l, k, v, n, h => by
    rw [tput]
    split
    · rename_i e
      rw [tget, tget, if_neg h, if_neg (by rw [e]; exact h)]
    · rw [tget, tget, tget_tput_ne h]
theorem tget_tput_eq : ∀ {l : List (Bts × Bts)} {k v : Bts}, tget (tput l k v) k = some v
  | [], k, v => by simp [tput, tget]
  | p :: l, k, v => by
    rw [tput]
    split
    · rw [tget, if_pos rfl]
    · rename_i e
      rw [tget, if_neg e, tget_tput_eq]
theorem tget_tdel_ne : ∀ {l : List (Bts × Bts)} {k n : Bts}, k ≠ n → tget (tdel l k) n = tget l n
  | [], k, n, h => rfl
  | p :: l, k, n, h => by
    rw [tdel]
    split
    · rename_i e
      rw [tget, if_neg (by rw [e]; exact h)]
    · rw [tget, tget, tget_tdel_ne h]
/-- Whether done does all deeds. -/
def okD (name : ByteArray) (d : DeedK) : Bool := decide (d.2.2.1.length ≤ 2000) && decide (d.2.2.2.length ≤ 2000) && decide (d.2.1.size ≤ 2000) && decide (d.2.1 ≠ name)
end Go.Proofs.Ytaopjdjbpamhhaa
/- Proved: contract of a vault's Put, whatever it is given; of the law function done. Conditions: vaults, bytes and deeds in memory. -/
namespace Go.Proofs.Ytaopjdjbpamhhaa
open Go Go.RowKit
set_option linter.unusedVariables false
set_option linter.unusedSimpArgs false
/-- What Put returns: the error, the name and the bytes. -/
def putR (l : List (Bts × Bts)) (n data pad : Bts) : Int := if goodD n data pad = true then (if (tget l n).isSome = true then 4 else 0) else 1
def sealN (r : Int) (s : ByteArray) : ByteArray := if r = 0 then s else { data := #[] }
def sealB (r : Int) (data pad : Bts) : Bts := if r = 0 then xorB data pad else []
set_option maxRecDepth 100000 in
set_option maxHeartbeats 4000000 in
theorem vPut_bad {seed : Int} {w : World} {v : Nat} {l : List (Bts × Bts)} {F D1 D2 : Nat → Prop} {s : ByteArray} {v1 v2 : Value} {data pad : Bts} (h : VltAt seed w v l F) (h1 : BV D1 w v1 data) (h2 : BV D2 w v2 pad)
    (hg : goodD (sB s) data pad = false) (hs : s.size ≤ 140737488355328) :
    Calls Try.prog 67 #[bp v, .string s, v1, v2] w fun e w' => e = .returned (.tuple #[.agg #[.string { data := #[] }, .slice none 0 0], .int .i64 1]) ∧ Kept Noneof w w' := by
  have H := Lib.hid h
  have HS := Lib.hid hs
  obtain ⟨a1, c1, rfl, _⟩ := h1
  obtain ⟨a2, c2, rfl, _⟩ := h2
  have HG := Lib.hid hg
  clear hs hg h
  go_enter Try.func67, Try.ntmps67
  go_wp2_with fail
  have K1 := (Kept.refl Noneof w).alloc (.cells #[.string { data := #[] }, .slice none 0 0] 105)
  have G := heap_alloc_new w (.cells #[.string { data := #[] }, .slice none 0 0] 105)
  generalize w.alloc (.cells #[.string { data := #[] }, .slice none 0 0] 105) = w1 at *
  refine (vnone_calls (H.out.still K1)).mono ?_
  rintro e w1' ⟨rfl, rfl⟩
  go_wp2_with fail
  refine (swnamed_calls HS.out).mono ?_
  rintro e w2 ⟨rfl, k2⟩
  have K2 := Lib.hid (K1.tr k2)
  replace G := Lib.hid (k2.obj (fun h => h) G)
  clear K1 k2
  have f0 : w2.cell? ⟨w.heap.size, 0, none⟩ = some (.string { data := #[] }) := by simp [World.cell?, G.out]
  have f1 : w2.cell? ⟨w.heap.size, 1, none⟩ = some (.slice none 0 0) := by simp [World.cell?, G.out]
  have ff : ∀ j, w2.frozen? ⟨w.heap.size, j, none⟩ = false := fun j => by simp [World.frozen?, G.out]
  have KT := Lib.hid (((Kept.refl (fun b => b = w.heap.size) w2).setCell (p := ⟨w.heap.size, 0, none⟩) (.inl rfl) (.string { data := #[] })).setCell (p := ⟨w.heap.size, 1, none⟩) (.inl rfl) (.slice none 0 0))
  have GF := Lib.hid (setCell_obj (setCell_obj G.out (.string { data := #[] }) (j := 0)) (.slice none 0 0) (j := 1))
  cases hn : namedK (sB s)
  · go_wp2
    refine bodyPost_ret (results_cell_row_tmp rfl _ _ w.heap.size _ #[_, _] (0, 0) _ rfl GF.out Try.underlying105 rfl (by kernel_rfl)) rfl ?_
    exact ⟨rfl, K2.out.trans KT.out fun b e => .inr (by omega)⟩
  by_cases hl : data.length = pad.length
  rotate_left
  · have e1 : ((data.length : Int) != (pad.length : Int)) = true := by rw [bne_iff_ne]; omega
    clear hl
    go_wp2
    refine bodyPost_ret (results_cell_row_tmp rfl _ _ w.heap.size _ #[_, _] (0, 0) _ rfl GF.out Try.underlying105 rfl (by kernel_rfl)) rfl ?_
    exact ⟨rfl, K2.out.trans KT.out fun b e => .inr (by omega)⟩
  have h9 : ¬ data.length ≤ 999 := fun h9 => by
    have := HG.out
    simp [goodD, hn, hl] at this
    omega
  rw [← hl]
  have e9 : decide ((999 : Int) < (data.length : Int)) = true := decide_eq_true (by omega)
  clear hl h9 hn
  go_wp2
  refine bodyPost_ret (results_cell_row_tmp rfl _ _ w.heap.size _ #[_, _] (0, 0) _ rfl GF.out Try.underlying105 rfl (by kernel_rfl)) rfl ?_
  exact ⟨rfl, K2.out.trans KT.out fun b e => .inr (by omega)⟩
set_option maxRecDepth 100000 in
set_option maxHeartbeats 4000000 in
theorem vPut_twice {seed : Int} {w : World} {v : Nat} {l : List (Bts × Bts)} {F D1 D2 : Nat → Prop} {s : ByteArray} {v1 v2 : Value} {data pad : Bts} (h : VltAt seed w v l F) (h1 : BV D1 w v1 data) (h2 : BV D2 w v2 pad)
    (hg : goodD (sB s) data pad = true) (ht : (tget l (sB s)).isSome = true) (hs : s.size ≤ 140737488355328) :
    Calls Try.prog 67 #[bp v, .string s, v1, v2] w fun e w' => e = .returned (.tuple #[.agg #[.string { data := #[] }, .slice none 0 0], .int .i64 4]) ∧ Kept Noneof w w' := by
  have H := Lib.hid h
  have HS := Lib.hid hs
  have HT := Lib.hid ht
  obtain ⟨a1, c1, rfl, _⟩ := h1
  obtain ⟨a2, c2, rfl, _⟩ := h2
  simp only [goodD, Bool.and_eq_true, decide_eq_true_eq] at hg
  obtain ⟨⟨hn, hl⟩, h9⟩ := hg
  have HN := Lib.hid hn
  obtain ⟨t, F0, hv, htt, hFv, hF0⟩ := h
  have HV := Lib.hid hv
  have TT := Lib.hid htt
  rw [← hl]
  have h9' : decide ((999 : Int) < (data.length : Int)) = false := decide_eq_false (by omega)
  clear hn hs hv htt hFv hF0 h9 hl ht
  go_enter Try.func67, Try.ntmps67
  go_wp2_with fail
  have K1 := (Kept.refl Noneof w).alloc (.cells #[.string { data := #[] }, .slice none 0 0] 105)
  have G := heap_alloc_new w (.cells #[.string { data := #[] }, .slice none 0 0] 105)
  generalize w.alloc (.cells #[.string { data := #[] }, .slice none 0 0] 105) = w1 at *
  refine (vnone_calls (H.out.still K1)).mono ?_
  rintro e w1' ⟨rfl, rfl⟩
  go_wp2_with fail
  refine (swnamed_calls HS.out).mono ?_
  rintro e w2 ⟨rfl, k2⟩
  rw [HN.out]
  have K2 := Lib.hid (K1.tr k2)
  replace G := Lib.hid (k2.obj (fun h => h) G)
  clear K1 k2
  have cv : w2.cell? ⟨v, 0, none⟩ = some (bp t) := vlt_cell (K2.out.obj (fun h => h) HV.out)
  obtain ⟨cc, hc, hb, hk⟩ := bytes_conv (w := w2) HS.out
  replace hc := hc w2 rfl
  have HB := Lib.hid hb
  have K3 := Lib.hid (K2.out.tr hk)
  replace G := Lib.hid (hk.obj (fun h => h) G.out)
  generalize Lib.bytesWorld w2 5 s = w3 at *
  clear hb hk
  go_wp2_with fail
  clear hc cv
  refine (slGet_calls (TT.out.still K3.out) HB.out).mono ?_
  rintro e w4 ⟨hres, k4⟩
  have hres : ∃ v', e = .returned (.tuple #[v', .int .i64 0]) ∧ ∃ a n c, v' = .slice a n c := by
    rcases hres with ⟨x, v', hx, e, o⟩ | ⟨hx, _⟩
    · exact ⟨v', e, o.slice'⟩
    · have := HT.out
      rw [hx] at this
      cases this
  obtain ⟨v', rfl, xa, xn, xc, rfl⟩ := hres
  have K4 := Lib.hid (K3.out.tr k4)
  replace G := Lib.hid (k4.obj (fun h => h) G.out)
  clear k4 HB h9'
  have f0 : w4.cell? ⟨w.heap.size, 0, none⟩ = some (.string { data := #[] }) := by simp [World.cell?, G.out]
  have f1 : w4.cell? ⟨w.heap.size, 1, none⟩ = some (.slice none 0 0) := by simp [World.cell?, G.out]
  have ff : ∀ j, w4.frozen? ⟨w.heap.size, j, none⟩ = false := fun j => by simp [World.frozen?, G.out]
  have KT := Lib.hid (((Kept.refl (fun b => b = w.heap.size) w4).setCell (p := ⟨w.heap.size, 0, none⟩) (.inl rfl) (.string { data := #[] })).setCell (p := ⟨w.heap.size, 1, none⟩) (.inl rfl) (.slice none 0 0))
  have GF := Lib.hid (setCell_obj (setCell_obj G.out (.string { data := #[] }) (j := 0)) (.slice none 0 0) (j := 1))
  go_wp2
  refine bodyPost_ret (results_cell_row_tmp rfl _ _ w.heap.size _ #[_, _] (0, 0) _ rfl GF.out Try.underlying105 rfl (by kernel_rfl)) rfl ?_
  exact ⟨rfl, K4.out.trans KT.out fun b e => .inr (by omega)⟩
theorem vPut_any {seed : Int} {w : World} {v : Nat} {l : List (Bts × Bts)} {F D1 D2 : Nat → Prop} {s : ByteArray} {v1 v2 : Value} {data pad : Bts} (h : VltAt seed w v l F) (h1 : BV D1 w v1 data) (h2 : BV D2 w v2 pad) (hFl : ∀ b, F b → b < w.heap.size) (hd1 : ∀ b, D1 b → ¬ F b) (hd2 : ∀ b, D2 b → ¬ F b)
    (hr : l.length < 100000) (hs : s.size ≤ 140737488355328) :
    Calls Try.prog 67 #[bp v, .string s, v1, v2] w fun e w' => ∃ v' F', e = .returned (.tuple #[.agg #[.string (sealN (putR l (sB s) data pad) s), v'], .int .i64 (putR l (sB s) data pad)]) ∧ BW (fun b => w.heap.size ≤ b ∧ ¬ F' b) w' v' (sealB (putR l (sB s) data pad) data pad) ∧ VltAt seed w' v (vputT l (sB s) data pad) F' ∧ (∀ b, F' b → (F b ∨ w.heap.size ≤ b) ∧ b < w'.heap.size) ∧ Kept F w w' := by
  have nil : ∀ (D : Nat → Prop) (w : World), BW D w (.slice none 0 0) [] := fun D w => BW.nil D w
  by_cases hg : goodD (sB s) data pad = true
  · by_cases ht : (tget l (sB s)).isSome = true
    · refine (vPut_twice h h1 h2 hg ht hs).mono ?_
      rintro e w' ⟨rfl, k⟩
      have e4 : putR l (sB s) data pad = 4 := by unfold putR; rw [if_pos hg, if_pos ht]
      have ev : vputT l (sB s) data pad = l := by
        unfold vputT
        rw [if_neg]
        rintro ⟨_, hh⟩
        rw [hh] at ht
        cases ht
      rw [e4, ev]
      exact ⟨_, F, rfl, nil _ _, h.still k, fun b hb => ⟨.inl hb, Nat.lt_of_lt_of_le (hFl b hb) k.size⟩, k.mono fun _ h => h.elim⟩
    · have ht' : tget l (sB s) = none := by simpa using ht
      have hg' := hg
      simp only [goodD, Bool.and_eq_true, decide_eq_true_eq] at hg'
      refine (vPut_ok h h1 h2 hFl hd1 hd2 hg'.1.1 hg'.1.2 hg'.2 ht' hr hs).mono ?_
      rintro e w' ⟨v', F', rfl, b', t', hF', k⟩
      have e0 : putR l (sB s) data pad = 0 := by unfold putR; rw [if_pos hg, if_neg ht]
      have ev : vputT l (sB s) data pad = tput l (sB s) (1 :: pad) := by unfold vputT; rw [if_pos ⟨hg, ht'⟩]
      rw [e0, ev]
      refine ⟨v', fun b => F' b ∧ b < w'.heap.size, rfl, ?_, t'.wide fun b hb hl => ⟨hb, hl⟩, fun b hb => ⟨hF' b hb.1, hb.2⟩, k⟩
      exact BW.mono b' fun b hb _ => ⟨⟨hb.1, fun hh => hb.2 hh.1⟩, rfl⟩
  · have hg' : goodD (sB s) data pad = false := by simpa using hg
    refine (vPut_bad h h1 h2 hg' hs).mono ?_
    rintro e w' ⟨rfl, k⟩
    have e1 : putR l (sB s) data pad = 1 := by unfold putR; rw [if_neg hg]
    have ev : vputT l (sB s) data pad = l := by
      unfold vputT
      rw [if_neg]
      rintro ⟨hh, _⟩
      exact hg hh
    rw [e1, ev]
    exact ⟨_, F, rfl, nil _ _, h.still k, fun b hb => ⟨.inl hb, Nat.lt_of_lt_of_le (hFl b hb) k.size⟩, k.mono fun _ h => h.elim⟩
end Go.Proofs.Ytaopjdjbpamhhaa
/- Proved: contract of the law function done. Conditions: a vault and deeds in memory. -/
namespace Go.Proofs.Ytaopjdjbpamhhaa
open Go Go.RowKit
set_option linter.unusedVariables false
set_option linter.unusedSimpArgs false
set_option maxRecDepth 100000 in
set_option maxHeartbeats 4000000 in
theorem l7done_calls {seed : Int} {w : World} {v : Nat} {T : List (Bts × Bts)} {F D1 : Nat → Prop} {name : ByteArray} {dv : Value} {l : List DeedK} (h : VltAt seed w v T F) (h1 : SV deedEl D1 w dv l) (hFl : ∀ b, F b → b < w.heap.size) (hD : ∀ b, D1 b → ¬ F b) (hr : T.length + l.length ≤ 1000) :
    Calls Try.prog 66 #[bp v, .string name, dv] w fun e w' => e = .returned (.bool (l.all (okD name))) ∧ (l.all (okD name) = true → ∃ F', VltAt seed w' v (deedsT T l) F' ∧ ∀ b, F' b → (F b ∨ w.heap.size ≤ b) ∧ b < w'.heap.size) ∧ Kept F w w' := by
  have H := Lib.hid h
  have H1 := Lib.hid (h1.bd deedEl_k)
  have HD := Lib.hid hD
  obtain ⟨a, c, rfl, ⟨hc, _⟩, hm, _⟩ := h1
  obtain ⟨n, hn⟩ : ∃ n, l.length = n := ⟨_, rfl⟩
  rw [hn] at hc hm hr ⊢
  replace hn := Lib.hid hn
  obtain ⟨res, hres⟩ : ∃ r, l.all (okD name) = r := ⟨_, rfl⟩
  rw [hres]
  replace hres := Lib.hid hres
  have VS := Lib.hid (show ∃ F', VltAt seed w v (deedsT T (l.take 0)) F' ∧ ∀ b, F' b → (F b ∨ w.heap.size ≤ b) ∧ b < w.heap.size from ⟨F, h, fun b hb => ⟨.inl hb, hFl b hb⟩⟩)
  clear h hFl hD
  go_enter Try.func66, Try.ntmps66
  go_upto_region 2 with (fail)
  go_loopw [11] (fun iv wr => ∃ i : Nat, i ≤ n ∧ iv = .int .i64 i ∧ Hid (∃ F', VltAt seed wr v (deedsT T (l.take i)) F' ∧ ∀ b, F' b → (F b ∨ w.heap.size ≤ b) ∧ b < wr.heap.size) ∧ Hid (∀ d ∈ l.take i, okD name d = true) ∧ Hid (Kept F w wr)) (fun iv _ => n - (intOf iv).toNat)
  case atStart => exact ⟨0, Nat.zero_le _, rfl, VS, Lib.hid (by simp), Lib.hid (Kept.refl _ _)⟩
  clear VS
  obtain ⟨i, hi, rfl, VS, AL, KW⟩ := hrel
  by_cases hlt : i < n
  rotate_left
  · obtain rfl : n = i := by omega
    have hall : res = true := by
      rw [← hres.out, List.all_eq_true]
      have := AL.out
      rw [List.take_of_length_le (by rw [hn.out]; exact Nat.le_refl _)] at this
      exact this
    subst hall
    rw [List.take_of_length_le (by rw [hn.out]; exact Nat.le_refl _)] at VS
    clear hlt
    go_wp2
    go_ret
    exact ⟨rfl, VS.out, KW.out⟩
  have hlt' : (i : Int) < (n : Int) := by omega
  have hil : i < l.length := by rw [hn.out]; exact hlt
  have hsv := H1.out.kept deedEl_k KW.out fun b h _ hf => HD.out b h.1 hf
  rw [hn.out] at hsv
  obtain ⟨_, _, hsl, _, _, rd⟩ := hsv
  simp only [Value.slice.injEq] at hsl
  obtain ⟨rfl, -, rfl⟩ := hsl
  obtain ⟨b, o, u, x, rfl, db, e0, e1, e2, e3, hsz, hk, hv⟩ := Rd.deed rd hil
  have NX := Lib.hid (deedsT_succ (out := T) hil)
  have LN := Lib.hid (show (deedsT T (l.take i)).length < 100000 by have := deedsT_len (l.take i) T; rw [List.length_take] at this; omega)
  have NO := Lib.hid (fun h : okD name l[i] = false => show res = false by
    rw [← hres.out, List.all_eq_false]
    exact ⟨l[i], List.getElem_mem hil, by rw [h]; simp⟩)
  have YES := Lib.hid (fun h : okD name l[i] = true => show ∀ d ∈ l.take (i + 1), okD name d = true from fun d hd => by
    rw [List.take_add_one, List.getElem?_eq_getElem hil] at hd
    simp only [Option.toList_some, List.mem_append, List.mem_singleton] at hd
    rcases hd with hd | rfl
    · exact AL.out d hd
    · exact h)
  generalize l[i] = dd at *
  obtain ⟨kd, nm, data, pad⟩ := dd
  simp only at e0 e1 e2 e3 hsz hk hv
  have hk' := hk
  have hv' := hv
  obtain ⟨ka, kc, rfl, _⟩ := hk'
  obtain ⟨va, vc, rfl, _⟩ := hv'
  have HSZ := Lib.hid hsz
  have HK := Lib.hid hk
  have HV := Lib.hid hv
  clear rd hil AL hk hv db hsz
  go_upto_region 4 with (fail)
  clear e0 e1 e2 e3
  have kA := (Kept.refl Noneof wr).alloc (.cells #[.int .i64 kd, .string nm, .slice ka data.length kc, .slice va pad.length vc] 126)
  have qA := heap_alloc_new wr (.cells #[.int .i64 kd, .string nm, .slice ka data.length kc, .slice va pad.length vc] 126)
  have sA := Lib.hid (show (wr.alloc (.cells #[.int .i64 kd, .string nm, .slice ka data.length kc, .slice va pad.length vc] 126)).heap.size = wr.heap.size + 1 by simp)
  generalize wr.alloc (.cells #[.int .i64 kd, .string nm, .slice ka data.length kc, .slice va pad.length vc] 126) = wA at *
  have VA := Lib.hid (show ∃ F', VltAt seed wA v (deedsT T (l.take i)) F' ∧ (∀ b, F' b → (F b ∨ w.heap.size ≤ b) ∧ b < wr.heap.size) by
    obtain ⟨F', t, hf⟩ := VS.out
    exact ⟨F', t.still kA, hf⟩)
  replace HK := Lib.hid (HK.out.still' kA)
  replace HV := Lib.hid (HV.out.still' kA)
  have KA := Lib.hid (KW.out.trans kA fun _ h => h.elim)
  have KWR := Lib.hid KW.out.size
  clear VS KW kA
  generalize hbA : wr.heap.size = bA at *
  have CL := Lib.hid (fun (w' : World) (h : w'.heap[bA]? = some (.cells #[.int .i64 kd, .string nm, .slice ka data.length kc, .slice va pad.length vc] 126)) => show w'.cell? ⟨bA, 0, none⟩ = some (.int .i64 kd) ∧ w'.cell? ⟨bA, 1, none⟩ = some (.string nm) ∧ w'.cell? ⟨bA, 2, none⟩ = some (.slice ka data.length kc) ∧ w'.cell? ⟨bA, 3, none⟩ = some (.slice va pad.length vc) by simp [World.cell?, h])
  obtain ⟨c0, c1, c2, c3⟩ := CL.out wA qA
  have QA := Lib.hid qA
  clear qA hbA
  have OK := Lib.hid (show okD name (kd, nm, data, pad) = (decide (data.length ≤ 2000) && decide (pad.length ≤ 2000) && decide (nm.size ≤ 2000) && decide (nm ≠ name)) from rfl)
  have out : ∀ (b : Bool), okD name (kd, nm, data, pad) = b → (b = false → res = false) := fun b h hb => NO.out (by rw [h, hb])
  replace out := Lib.hid out
  by_cases q1 : data.length ≤ 2000
  rotate_left
  · have y : res = false := out.out _ rfl (by rw [OK.out]; simp [q1])
    have q1' : decide ((2000 : Int) < (data.length : Int)) = true := decide_eq_true (by omega)
    subst y
    clear q1
    go_wp2
    go_ret
    exact ⟨rfl, KA.out⟩
  have q1' : decide ((2000 : Int) < (data.length : Int)) = false := decide_eq_false (by omega)
  by_cases q2 : pad.length ≤ 2000
  rotate_left
  · have y : res = false := out.out _ rfl (by rw [OK.out]; simp [q2])
    have q2' : decide ((2000 : Int) < (pad.length : Int)) = true := decide_eq_true (by omega)
    subst y
    clear q1 q2
    go_wp2
    go_ret
    exact ⟨rfl, KA.out⟩
  have q2' : decide ((2000 : Int) < (pad.length : Int)) = false := decide_eq_false (by omega)
  by_cases q3 : nm.size ≤ 2000
  rotate_left
  · have y : res = false := out.out _ rfl (by rw [OK.out]; simp [q3])
    have q3' : decide ((2000 : Int) < (nm.size : Int)) = true := decide_eq_true (by omega)
    subst y
    clear q1 q2 q3
    go_wp2
    go_ret
    exact ⟨rfl, KA.out⟩
  have q3' : decide ((2000 : Int) < (nm.size : Int)) = false := decide_eq_false (by omega)
  by_cases q4 : nm = name
  · have y : res = false := out.out _ rfl (by rw [OK.out]; simp [q4])
    subst y
    subst q4
    clear q1 q2 q3
    go_wp2
    go_ret
    exact ⟨rfl, KA.out⟩
  have yes := Lib.hid (YES.out (by rw [OK.out]; simp [q1, q2, q3, q4]))
  clear q1 q2 q3 YES NO OK out
  have q4' : (nm.toList == name.toList) = false := (Lib.bytes_beq_false_iff _ _).2 q4
  go_upto_region 6 with (fail)
  clear q1' q2' q3' q4 q4'
  by_cases k0 : kd = 0
  · subst k0
    have NX1 := Lib.hid (show deedsT T (l.take (i + 1)) = vputT (deedsT T (l.take i)) (sB nm) data pad from NX.out)
    clear NX
    go_wp2_with fail
    obtain ⟨F', tv, hf⟩ := VA.out
    refine (vPut_any tv HK.out HV.out (fun b h => by have := (hf b h).2; have := sA.out; omega) (fun b h hh => by have h3 := (hf b hh).1; have := h.2; rcases h3 with h3 | h3; exact HD.out b h.1 h3; omega) (fun b h hh => by have h3 := (hf b hh).1; have := h.2; rcases h3 with h3 | h3; exact HD.out b h.1 h3; omega) LN.out HSZ.out).mono ?_
    rintro e w2 ⟨v', F2, rfl, _, t2, hf2, k2⟩
    rw [← NX1.out] at t2
    have V2 := Lib.hid (show ∃ F', VltAt seed w2 v (deedsT T (l.take (i + 1))) F' ∧ ∀ b, F' b → (F b ∨ w.heap.size ≤ b) ∧ b < w2.heap.size from ⟨F2, t2, fun b hb => ⟨(hf2 b hb).1.elim (fun h => (hf b h).1) fun h => .inr (by have := KWR.out; have := sA.out; omega), (hf2 b hb).2⟩⟩)
    have K2 := Lib.hid (KA.out.trans k2 fun b h => (hf b h).1)
    obtain ⟨d0, d1, d2, d3⟩ := CL.out w2 (k2.obj (fun h => by have := (hf _ h).2; omega) QA.out)
    clear tv hf t2 hf2 k2 VA KA HK HV QA CL NX1 c0 c1 c2 c3
    go_wp2
    go_roundw
    case rel => exact ⟨i + 1, by omega, by go_num, V2, yes, K2⟩
    case measure => simp [intOf]; omega
  · have k0' : (kd == 0) = false := by simpa using k0
    by_cases k2 : kd = 2
    · subst k2
      have NX1 := Lib.hid (show deedsT T (l.take (i + 1)) = tdel (deedsT T (l.take i)) (sB nm) from NX.out)
      clear NX k0
      go_wp2_with fail
      obtain ⟨F', tv, hf⟩ := VA.out
      refine (vForget_calls tv (fun b h => by have := (hf b h).2; have := sA.out; omega) HSZ.out).mono ?_
      rintro e w2 ⟨rfl, t2, k2⟩
      rw [← NX1.out] at t2
      have V2 := Lib.hid (show ∃ F', VltAt seed w2 v (deedsT T (l.take (i + 1))) F' ∧ ∀ b, F' b → (F b ∨ w.heap.size ≤ b) ∧ b < w2.heap.size from ⟨F', t2, fun b hb => ⟨(hf b hb).1, by have := (hf b hb).2; have := k2.size; have := sA.out; omega⟩⟩)
      have K2 := Lib.hid (KA.out.trans k2 fun b h => (hf b h).1)
      clear tv hf t2 k2 VA KA HK HV QA CL NX1 c0 c1 c2 c3
      go_wp2
      go_roundw
      case rel => exact ⟨i + 1, by omega, by go_num, V2, yes, K2⟩
      case measure => simp [intOf]; omega
    · have k2' : (kd == 2) = false := by simpa using k2
      have NX1 := Lib.hid (show deedsT T (l.take (i + 1)) = deedsT T (l.take i) by rw [NX.out, deedT, if_neg k0, if_neg k2])
      have V2 := Lib.hid (show ∃ F', VltAt seed wA v (deedsT T (l.take (i + 1))) F' ∧ ∀ b, F' b → (F b ∨ w.heap.size ≤ b) ∧ b < wA.heap.size by
        obtain ⟨F', t, hf⟩ := VA.out
        exact ⟨F', by rw [NX1.out]; exact t, fun b hb => ⟨(hf b hb).1, by have := (hf b hb).2; have := sA.out; omega⟩⟩)
      clear VA HK HV QA CL NX1 c1 c2 c3 NX k0 k2
      go_wp2
      go_roundw
      case rel => exact ⟨i + 1, by omega, by go_num, V2, yes, KA⟩
      case measure => simp [intOf]; omega
end Go.Proofs.Ytaopjdjbpamhhaa
/- Proved: contract of the talk of a mirror (Mirror's closure), where a span has no node. Conditions: what TalkIn says. -/
namespace Go.Proofs.Ytaopjdjbpamhhaa
open Go Go.RowKit
set_option linter.unusedVariables false
set_option linter.unusedSimpArgs false
/-- The keys that go, and the pairs that come. -/
def gones (seed : Int) (u : Tr) : Tr → Bts → Bts → Bool → List Bts
  | .nil, low, high, bd => if sameAt seed u .nil low high bd = true then [] else spanKeys u.pairs low high bd
  | .nd l k v r, low, high, bd => if sameAt seed u (.nd l k v r) low high bd = true then [] else gones seed u l low k true ++ gones seed u r (k ++ [0]) high bd
def comes (seed : Int) (u : Tr) : Tr → Bts → Bts → Bool → List (Bts × Bts)
  | .nil, _, _, _ => []
  | .nd l k v r, low, high, bd => if sameAt seed u (.nd l k v r) low high bd = true then [] else (k, v) :: (comes seed u l low k true ++ comes seed u r (k ++ [0]) high bd)
theorem Own.obj {α : Type} {e : TypeId} {E : El α} {D : Nat → Prop} {B : Nat} {w : World} {v : Value} {l : List α} (h : Own e E D B w v l) {b : Nat} (hb : v.ownBlock = some b) : ∃ cur, w.heap[b]? = some (.cells cur e) := by
  obtain ⟨_, _, _, xs, ⟨_, h1⟩, _⟩ := h
  rcases h1 with ⟨rfl, _⟩ | ⟨g, cap, cur, rfl, _, hg, _⟩
  · cases hb
  · simp only [Value.ownBlock, Option.some.injEq] at hb
    subst hb
    exact ⟨cur, hg⟩
end Go.Proofs.Ytaopjdjbpamhhaa
/- Proved: contract of the talk of a mirror (Mirror's closure), where a span has a node. Conditions: what TalkIn says. -/
namespace Go.Proofs.Ytaopjdjbpamhhaa
open Go Go.RowKit
set_option linter.unusedVariables false
set_option linter.unusedSimpArgs false
theorem Rd.node {D : Nat → Prop} {w : World} {a : Option Addr} {l : List ND} (h : Rd nodeEl D w a l) {i : Nat} (hi : i < l.length) : ∃ b o u v, a = some ⟨b, o, none⟩ ∧ D b ∧ w.cell? ⟨b, o + i * 6, none⟩ = some u ∧ w.cell? ⟨b, o + i * 6 + 1, none⟩ = some v ∧ w.cell? ⟨b, o + i * 6 + 2, none⟩ = some (.int .u64 l[i].dg) ∧ w.cell? ⟨b, o + i * 6 + 3, none⟩ = some (.int .i64 l[i].size) ∧ w.cell? ⟨b, o + i * 6 + 4, none⟩ = some (.int .i64 l[i].left) ∧ w.cell? ⟨b, o + i * 6 + 5, none⟩ = some (.int .i64 l[i].right) ∧ BV D w u l[i].k ∧ BV D w v l[i].v := by
  obtain ⟨b, o, cs, rfl, hD, hc, u, v, rfl, h1, h2⟩ := h i hi
  have k : nodeEl.k = 6 := rfl
  rw [k] at hc
  exact ⟨b, o, u, v, rfl, hD, hc 0 (by simp), hc 1 (by simp), hc 2 (by simp), hc 3 (by simp), hc 4 (by simp), hc 5 (by simp), h1, h2⟩

theorem TalkS.tr {c : TK} {vo vg vc vo' vg' vc' : Value} {n : Nat} (h : ∀ b, (vo'.ownBlock = some b → vo.ownBlock = some b ∨ n ≤ b) ∧ (vg'.ownBlock = some b → vg.ownBlock = some b ∨ n ≤ b) ∧ (vc'.ownBlock = some b → vc.ownBlock = some b ∨ n ≤ b)) (b : Nat) (hb : TalkS c vo' vg' vc' b) : TalkS c vo vg vc b ∨ n ≤ b := by
  rcases hb with e | e | e | e | e | e
  · exact .inl (.inl e)
  · exact .inl (.inr (.inl e))
  · exact .inl (.inr (.inr (.inl e)))
  · exact ((h b).1 e).imp (fun e => .inr (.inr (.inr (.inl e)))) id
  · exact ((h b).2.1 e).imp (fun e => .inr (.inr (.inr (.inr (.inl e))))) id
  · exact ((h b).2.2 e).imp (fun e => .inr (.inr (.inr (.inr (.inr e))))) id
end Go.Proofs.Ytaopjdjbpamhhaa
/- Proved: contract of swap.Mirror on two maps of one seed. Conditions: maps in memory, at different places, whose blocks are different. -/
namespace Go.Proofs.Ytaopjdjbpamhhaa
open Go Go.RowKit
set_option linter.unusedVariables false
set_option linter.unusedSimpArgs false
theorem Rd.bytes {D : Nat → Prop} {w : World} {a : Option Addr} {l : List Bts} (h : Rd bytesEl D w a l) {i : Nat} (hi : i < l.length) : ∃ b o v, a = some ⟨b, o, none⟩ ∧ D b ∧ w.cell? ⟨b, o + i, none⟩ = some v ∧ BV D w v l[i] := by
  obtain ⟨b, o, cs, rfl, hD, hc, v, rfl, h1⟩ := h i hi
  have k : bytesEl.k = 1 := rfl
  rw [k] at hc
  exact ⟨b, o, v, rfl, hD, by simpa using hc 0 (by simp), h1⟩
end Go.Proofs.Ytaopjdjbpamhhaa
/- Proved: contract of the reference 02's Get. Conditions: pairs in memory. -/
namespace Go.Proofs.Ytaopjdjbpamhhaa
open Go Go.RowKit
set_option linter.unusedVariables false
set_option linter.unusedSimpArgs false
set_option maxRecDepth 100000 in
set_option maxHeartbeats 1000000 in
theorem r2Get_calls {D1 D2 : Nat → Prop} {v1 v2 : Value} {l : List (Bts × Bts)} {key : Bts} {w : World} (h1 : SV pairEl D1 w v1 l) (h2 : BV D2 w v2 key) :
    Calls Try.prog 143 #[v1, v2] w fun e w' => ((∃ v x, getK l key = some x ∧ e = .returned (.tuple #[v, .int .i64 0]) ∧ BV D1 w v x) ∨ (getK l key = none ∧ e = .returned (.tuple #[.slice none 0 0, .int .i64 3]))) ∧ Drew w w' := by
  have H1 := Lib.hid h1
  have H2 := Lib.hid h2
  obtain ⟨a, c, rfl, _, m, rd⟩ := h1
  have RD := Lib.hid rd
  obtain ⟨a2, c2, rfl, _⟩ := h2
  clear rd
  go_enter Try.func143, Try.ntmps143
  go_wp2_with fail
  refine (r2Has_calls H1.out H2.out).mono ?_
  rintro e w1 ⟨rfl, n1, rfl⟩
  cases hh : hasK l key
  · go_wp2
    go_ret2
    exact ⟨.inr ⟨by rw [hasK_getK] at hh; simpa using hh, rfl⟩, ⟨n1, rfl⟩⟩
  · have hlt := hasK_lt hh
    obtain ⟨b1, o1, uk, uv, rfl, hDb, g0, g1, hkv, hvv⟩ := Rd.pair RD.out hlt
    have HVV := Lib.hid hvv
    obtain ⟨a8, c8, rfl, _⟩ := id hvv
    clear hkv hvv
    go_wp2_with fail
    refine (r2Rank_calls (w := w.drewN n1) (H1.out.at rfl) (H2.out.at rfl)).mono ?_
    rintro e w2 ⟨rfl, n2, rfl⟩
    go_wp2
    go_ret2
    obtain ⟨x, hx⟩ := Option.isSome_iff_exists.1 (by rw [← hasK_getK]; exact hh : (getK l key).isSome = true)
    obtain ⟨y, hy⟩ := rank_getK hx
    have hxx : l[rank l key].2 = x := by
      rw [List.getElem?_eq_getElem hlt] at hy
      rw [Option.some.inj hy]
    refine ⟨.inl ⟨_, x, hx, rfl, ?_⟩, ⟨n1 + n2, rfl⟩⟩
    · rw [← hxx]; exact HVV.out.at rfl
end Go.Proofs.Ytaopjdjbpamhhaa
/- Proved: contracts of the reference's Xor, Put, Open and Forget of vaults. Conditions: bytes and pairs in memory. -/
namespace Go.Proofs.Ytaopjdjbpamhhaa
open Go Go.RowKit
set_option linter.unusedVariables false
set_option linter.unusedSimpArgs false
set_option maxRecDepth 100000 in
set_option maxHeartbeats 1000000 in
theorem r7Xor_calls {D1 D2 : Nat → Prop} {v1 v2 : Value} {a b : Bts} {w : World} (h1 : BV D1 w v1 a) (h2 : BV D2 w v2 b) (hl : a.length = b.length) :
    Calls Try.prog 137 #[v1, v2] w fun e w' => ∃ v', e = .returned v' ∧ Own 5 byteEl Noneof w.heap.size w' v' (xorB a b) ∧ Kept Noneof w w' := by
  have H1 := Lib.hid (h1.bd byteEl_k)
  have H2 := Lib.hid (h2.bd byteEl_k)
  have HM := Lib.hid h1.len
  obtain ⟨a1, c1, rfl, _⟩ := h1
  obtain ⟨a2, c2, rfl, _⟩ := h2
  rw [← hl] at H2 ⊢
  have HL := Lib.hid hl
  obtain ⟨n, hn⟩ : ∃ n, a.length = n := ⟨_, rfl⟩
  rw [hn] at H1 H2 HM ⊢
  have hm := HM.out
  replace hn := Lib.hid hn
  clear hl
  go_enter Try.func137, Try.ntmps137
  go_upto_region 3 with (fail)
  have k0 := (Kept.refl Noneof w).alloc (.cells #[] 5)
  have O0 := Lib.hid (Own.lit0 5 byteEl Noneof w)
  generalize w.alloc (.cells #[] 5) = w0 at *
  generalize Value.slice (some ⟨w.heap.size, 0, none⟩) 0 0 = v0 at *
  have K0 := Lib.hid k0
  clear k0
  go_loopw [5, 6] (fun v iv wr => ∃ i : Nat, i ≤ n ∧ iv = .int .i64 i ∧ Hid (Own 5 byteEl Noneof w.heap.size wr v ((xorB a b).take i)) ∧ Hid (Kept Noneof w wr)) (fun _ iv _ => n - (intOf iv).toNat)
  case atStart => exact ⟨0, Nat.zero_le _, rfl, by rw [List.take_zero]; exact O0, K0⟩
  clear O0 K0
  obtain ⟨i, hi, rfl, O, KW⟩ := hrel
  by_cases hlt : i < n
  rotate_left
  · obtain rfl : n = i := by omega
    rw [List.take_of_length_le (by rw [xorB_len, hn.out]; omega)] at O
    obtain ⟨x1, x2, x3, rfl⟩ := O.out.slice'
    go_wp2
    go_ret
    exact ⟨_, rfl, O.out, KW.out⟩
  have hlt' : (i : Int) < (n : Int) := by omega
  have l1 : i < a.length := by rw [hn.out]; exact hlt
  have l2 : i < b.length := by rw [← HL.out]; exact l1
  have hs1 := H1.out.still' KW.out
  have hs2 := H2.out.still' KW.out
  obtain ⟨_, _, hsl, _, _, rd1⟩ := hs1
  simp only [Value.slice.injEq] at hsl
  obtain ⟨rfl, -, rfl⟩ := hsl
  obtain ⟨_, _, hsl, _, _, rd2⟩ := hs2
  simp only [Value.slice.injEq] at hsl
  obtain ⟨rfl, -, rfl⟩ := hsl
  obtain ⟨b1, o1, rfl, d1, g1⟩ := Rd.byte rd1 l1
  obtain ⟨b2, o2, rfl, d2, g2⟩ := Rd.byte rd2 l2
  have NX := Lib.hid (show (xorB a b).take (i + 1) = (xorB a b).take i ++ [a[i] ^^^ b[i]] by
    rw [List.take_add_one, xorB_get l1 l2]
    rfl)
  have XB := Lib.hid (bits_xor_u8 a[i] b[i])
  have LE := Lib.hid (show ((xorB a b).take i).length + 1 ≤ n by rw [List.length_take]; omega)
  clear rd1 rd2
  generalize a[i] ^^^ b[i] = y at *
  generalize ((a[i].toNat : Nat) : Int) = x1 at *
  generalize ((b[i].toNat : Nat) : Int) = x2 at *
  obtain ⟨oa, on, oc, rfl⟩ := O.out.slice'
  have D1' := Lib.hid d1.2
  have D2' := Lib.hid d2.2
  clear d1 d2 l1 l2
  go_wp2_with fail
  refine wp_region_chain 12 [10, 11] (fun w' => w'.cell? ⟨b1, o1 + i, none⟩ = some (.int .u8 x1) ∧ w'.cell? ⟨b2, o2 + i, none⟩ = some (.int .u8 x2)) (by kernel_rfl) (by kernel_rfl) ?_ ?_
  · exact ⟨g1, g2⟩
  refine SeqW.out ?_
  simp only [List.take_succ_cons, List.take_zero, List.drop_succ_cons, List.drop_zero]
  have kd := (Kept.refl Noneof wr).drew
  replace g1 := kd.cell (p := ⟨b1, o1 + i, none⟩) (fun h => h) g1
  replace g2 := kd.cell (p := ⟨b2, o2 + i, none⟩) (fun h => h) g2
  replace O := Lib.hid (O.out.kept kd fun _ h => h.elim)
  replace KW := Lib.hid (KW.out.tr kd)
  generalize wr.drew = wd at *
  clear kd
  iterate 10 (refine SeqW.val (v := ?_) (by rfl) (by rfl) (fun wx hSw => ?_) ?_; rotate_left; (focus ((try dsimp only at hSw); go_simp; (try with_reducible rfl))); (try simp only [Act.put, List.setIfInBounds_toArray, List.set_cons_zero, List.set_cons_succ]))
  rw [XB.out]
  refine SeqW.act (by rfl) rfl (by rfl) (by rfl) (fun K hK => ?_)
  go_simp
  have kA := (Kept.refl Noneof wd).alloc (.cells #[.int .u8 ((y.toNat : Nat) : Int)] 5)
  have qA := heap_alloc_new wd (.cells #[.int .u8 ((y.toNat : Nat) : Int)] 5)
  refine hK.out _ _ ⟨kA.cell (p := ⟨b1, o1 + i, none⟩) (fun h => h) g1, kA.cell (p := ⟨b2, o2 + i, none⟩) (fun h => h) g2⟩ ?_
  replace g1 := kA.cell (p := ⟨b1, o1 + i, none⟩) (fun h => h) g1
  replace g2 := kA.cell (p := ⟨b2, o2 + i, none⟩) (fun h => h) g2
  replace O := Lib.hid (O.out.kept kA fun _ h => h.elim)
  replace KW := Lib.hid (KW.out.tr kA)
  generalize wd.alloc (.cells #[.int .u8 ((y.toNat : Nat) : Int)] 5) = wa at *
  clear K hK kA
  (try simp only [Act.put, List.setIfInBounds_toArray, List.set_cons_zero, List.set_cons_succ])
  refine SeqW.act (by rfl) rfl (by rfl) (by rfl) (fun K hK => ?_)
  refine wp_app_one (E := byteEl) (D := Noneof) (D' := Noneof) (.tmp 14) (.tmp 24) _ rfl tBytes _ _ rfl O.out wd.heap.size [.int .u8 ((y.toNat : Nat) : Int)] y rfl ⟨_, _, qA⟩ rfl (fun _ h => h.elim) (by have := LE.out; omega) (by omega) KW.out.size ?_
  intro v5 w5 ho5 k5 b5
  rw [← NX.out] at ho5
  have O5 := Lib.hid ho5
  have KW5 := Lib.hid (KW.out.trans k5 fun b e => .inr (O.out.lt b e).1)
  refine hK.out _ _ ⟨k5.cell (p := ⟨b1, o1 + i, none⟩) (fun e => by have := (O.out.lt b1 e).1; have := D1'.out; omega) g1, k5.cell (p := ⟨b2, o2 + i, none⟩) (fun e => by have := (O.out.lt b2 e).1; have := D2'.out; omega) g2⟩ ?_
  clear K hK ho5 k5 b5 O KW g1 g2 qA
  (try simp only [Act.put, List.setIfInBounds_toArray, List.set_cons_zero, List.set_cons_succ])
  refine SeqW.nil ?_
  go_wp2
  go_roundw
  case rel => exact ⟨i + 1, by omega, by go_num, O5, KW5⟩
  case measure => simp [intOf]; omega

/-! ### Put -/
theorem results_cell_row_tmp2 {P : Program} {fn : Func} {p u u2 : Tmp} {ty : TypeId} (h : fn.results = #[.cell p ty, .tmp u, .tmp u2]) (tmps : Array Value) (w : World) (g : Nat) (t : TypeId) (cs : Array Value) (fr : Nat × Nat) (d : TypeDesc)
    (hp : tmps.getD p undef = .pointer (some ⟨g, 0, none⟩)) (hg : w.heap[g]? = some (.cells cs t fr))
    (hu : P.underlying ty = some d) (hd : (match d with | .struct _ | .array _ _ => true | _ => false) = true) (hi : (P.info? ty).map (·.size) = some cs.size) :
    (results fn tmps).run P w = .ok (.tuple #[.agg cs, tmps.getD u undef, tmps.getD u2 undef]) w := by
  have hp' : tmps[p]?.getD undef = .pointer (some ⟨g, 0, none⟩) := by simpa using hp
  simp [results, h, hp', asAddr, Sem.run_bind, Result.andThen, run_loadVar_row w g t ty cs fr d hg hu hd hi]
/-- What Put returns of the error. -/
def rputR (l : List (Bts × Bts)) (n data pad : Bts) : Int := if goodD n data pad = true then (if hasK l n = true then 4 else 0) else 1
def rputL (l : List (Bts × Bts)) (n data pad : Bts) : List (Bts × Bts) := if rputR l n data pad = 0 then putK l n (1 :: pad) else l
set_option maxRecDepth 100000 in
set_option maxHeartbeats 4000000 in
theorem r7Put_calls {w : World} {D D1 D2 : Nat → Prop} {v0 v1 v2 : Value} {s : ByteArray} {l : List (Bts × Bts)} {data pad : Bts} (h0 : SV pairEl D w v0 l) (h1 : BV D1 w v1 data) (h2 : BV D2 w v2 pad) (hr : l.length < 100000) (hs : s.size ≤ 140737488355328) :
    Calls Try.prog 68 #[v0, .string s, v1, v2] w fun e w' => ∃ x y, e = .returned (.tuple #[.agg #[.string (sealN (rputR l (sB s) data pad) s), x], y, .int .i64 (rputR l (sB s) data pad)]) ∧ BV (fun b => w.heap.size ≤ b) w' x (sealB (rputR l (sB s) data pad) data pad) ∧ SV pairEl (fun b => D b ∨ w.heap.size ≤ b) w' y (rputL l (sB s) data pad) ∧ Kept Noneof w w' := by
  have H0 := Lib.hid (h0.bd pairEl_k)
  have H1 := Lib.hid h1
  have H2 := Lib.hid h2
  have HS := Lib.hid hs
  have HR := Lib.hid hr
  obtain ⟨a0, c0, rfl, _⟩ := h0
  obtain ⟨a1, c1, rfl, _⟩ := h1
  obtain ⟨a2, c2, rfl, _⟩ := h2
  obtain ⟨r, hrr⟩ : ∃ r, rputR l (sB s) data pad = r := ⟨_, rfl⟩
  obtain ⟨L, hL⟩ : ∃ L, rputL l (sB s) data pad = L := ⟨_, rfl⟩
  rw [hrr, hL]
  have RR := Lib.hid hrr
  have RL := Lib.hid (show (if r = 0 then putK l (sB s) (1 :: pad) else l) = L by rw [← hL, ← hrr]; rfl)
  clear hs hr hrr hL
  go_enter Try.func68, Try.ntmps68
  go_wp2_with fail
  have K1 := Lib.hid ((Kept.refl Noneof w).alloc (.cells #[.string { data := #[] }, .slice none 0 0] 105))
  have G := Lib.hid (heap_alloc_new w (.cells #[.string { data := #[] }, .slice none 0 0] 105))
  generalize w.alloc (.cells #[.string { data := #[] }, .slice none 0 0] 105) = w1 at *
  refine (r7Named_calls HS.out).mono ?_
  rintro e w1' ⟨rfl, rfl⟩
  have f0 : w1'.cell? ⟨w.heap.size, 0, none⟩ = some (.string { data := #[] }) := by simp [World.cell?, G.out]
  have f1 : w1'.cell? ⟨w.heap.size, 1, none⟩ = some (.slice none 0 0) := by simp [World.cell?, G.out]
  have ff : ∀ j, w1'.frozen? ⟨w.heap.size, j, none⟩ = false := fun j => by simp [World.frozen?, G.out]
  have KT := Lib.hid (((Kept.refl (fun b => b = w.heap.size) w1').setCell (p := ⟨w.heap.size, 0, none⟩) (.inl rfl) (.string { data := #[] })).setCell (p := ⟨w.heap.size, 1, none⟩) (.inl rfl) (.slice none 0 0))
  have GF := Lib.hid (setCell_obj (setCell_obj G.out (.string { data := #[] }) (j := 0)) (.slice none 0 0) (j := 1))
  have KZ := Lib.hid (K1.out.trans KT.out fun b e => .inr (by omega))
  have BAD := Lib.hid (fun h : goodD (sB s) data pad = false => (show r = 1 ∧ L = l by
    have e1 : r = 1 := by rw [← RR.out]; unfold rputR; rw [if_neg (by rw [h]; simp)]
    refine ⟨e1, ?_⟩
    rw [← RL.out, e1]
    rfl))
  cases hn : namedK (sB s)
  · obtain ⟨rfl, rfl⟩ := BAD.out (by simp [goodD, hn])
    go_wp2
    refine bodyPost_ret (results_cell_row_tmp2 rfl _ _ w.heap.size _ #[_, _] (0, 0) _ rfl GF.out Try.underlying105 rfl (by kernel_rfl)) rfl ?_
    exact ⟨_, _, rfl, BV.nil _ _, (H0.out.kept pairEl_k KZ.out fun _ _ _ h => h).wide pairEl_k fun b h _ => .inl h.1, KZ.out⟩
  by_cases hl : data.length = pad.length
  rotate_left
  · obtain ⟨rfl, rfl⟩ := BAD.out (by simp [goodD, hl])
    have e1 : ((data.length : Int) != (pad.length : Int)) = true := by rw [bne_iff_ne]; omega
    clear hl
    go_wp2
    refine bodyPost_ret (results_cell_row_tmp2 rfl _ _ w.heap.size _ #[_, _] (0, 0) _ rfl GF.out Try.underlying105 rfl (by kernel_rfl)) rfl ?_
    exact ⟨_, _, rfl, BV.nil _ _, (H0.out.kept pairEl_k KZ.out fun _ _ _ h => h).wide pairEl_k fun b h _ => .inl h.1, KZ.out⟩
  have HL := Lib.hid hl
  rw [← hl] at H2 ⊢
  by_cases h9 : data.length ≤ 999
  rotate_left
  · obtain ⟨rfl, rfl⟩ := BAD.out (by simp [goodD, h9])
    have e9 : decide ((999 : Int) < (data.length : Int)) = true := decide_eq_true (by omega)
    clear hl h9
    go_wp2
    refine bodyPost_ret (results_cell_row_tmp2 rfl _ _ w.heap.size _ #[_, _] (0, 0) _ rfl GF.out Try.underlying105 rfl (by kernel_rfl)) rfl ?_
    exact ⟨_, _, rfl, BV.nil _ _, (H0.out.kept pairEl_k KZ.out fun _ _ _ h => h).wide pairEl_k fun b h _ => .inl h.1, KZ.out⟩
  have GD := Lib.hid (show goodD (sB s) data pad = true by unfold goodD; rw [hn, decide_eq_true hl, decide_eq_true h9]; rfl)
  have e9 : decide ((999 : Int) < (data.length : Int)) = false := decide_eq_false (by omega)
  have H9 := Lib.hid h9
  clear BAD hl h9 f0 f1 ff KT GF KZ
  obtain ⟨cc, hc, hb, hk⟩ := bytes_conv (w := w1') HS.out
  replace hc := hc w1' rfl
  have HB := Lib.hid hb
  have K2 := Lib.hid (K1.out.tr hk)
  replace G := Lib.hid (hk.obj (fun h => h) G.out)
  generalize Lib.bytesWorld w1' 5 s = w2 at *
  clear hb hk K1
  go_wp2_with fail
  clear hc e9
  refine (r2Has_calls (H0.out.still' K2.out) HB.out).mono ?_
  rintro e w3 ⟨rfl, d3⟩
  have k3 := (Kept.refl Noneof w2).drewn d3
  have K3 := Lib.hid (K2.out.tr k3)
  replace G := Lib.hid (k3.obj (fun h => h) G.out)
  clear k3 d3 HB K2
  cases hh : hasK l (sB s)
  rotate_left
  · have f0 : w3.cell? ⟨w.heap.size, 0, none⟩ = some (.string { data := #[] }) := by simp [World.cell?, G.out]
    have f1 : w3.cell? ⟨w.heap.size, 1, none⟩ = some (.slice none 0 0) := by simp [World.cell?, G.out]
    have ff : ∀ j, w3.frozen? ⟨w.heap.size, j, none⟩ = false := fun j => by simp [World.frozen?, G.out]
    have KT := Lib.hid (((Kept.refl (fun b => b = w.heap.size) w3).setCell (p := ⟨w.heap.size, 0, none⟩) (.inl rfl) (.string { data := #[] })).setCell (p := ⟨w.heap.size, 1, none⟩) (.inl rfl) (.slice none 0 0))
    have GF := Lib.hid (setCell_obj (setCell_obj G.out (.string { data := #[] }) (j := 0)) (.slice none 0 0) (j := 1))
    have KZ := Lib.hid (K3.out.trans KT.out fun b e => .inr (by omega))
    have e4 : r = 4 := by rw [← RR.out]; unfold rputR; rw [if_pos GD.out, if_pos hh]
    subst e4
    obtain rfl : l = L := RL.out
    go_wp2
    refine bodyPost_ret (results_cell_row_tmp2 rfl _ _ w.heap.size _ #[_, _] (0, 0) _ rfl GF.out Try.underlying105 rfl (by kernel_rfl)) rfl ?_
    exact ⟨_, _, rfl, BV.nil _ _, (H0.out.kept pairEl_k KZ.out fun _ _ _ h => h).wide pairEl_k fun b h _ => .inl h.1, KZ.out⟩
  have e0 : r = 0 := by rw [← RR.out]; unfold rputR; rw [if_pos GD.out, if_neg (by rw [hh]; simp)]
  subst e0
  obtain rfl : putK l (sB s) (1 :: pad) = L := RL.out
  have hr2 : decide ((100000 : Int) ≤ (l.length : Int)) = false := decide_eq_false (by have := HR.out; omega)
  clear hh
  go_upto_region 7 with (fail)
  have kA := Lib.hid ((Kept.refl Noneof w3).alloc (.cells #[.int .u8 1] 5))
  have OA := Lib.hid (show Own 5 byteEl Noneof w3.heap.size (w3.alloc (.cells #[.int .u8 1] 5)) (.slice (some ⟨w3.heap.size, 0, none⟩) 1 1) [1] from Own.lit1b w3 1)
  have hpl := Lib.hid (show pad.length ≤ 999 by rw [← HL.out]; exact H9.out)
  go_wp2_with (at_builtin; refine wl_app_bytes rfl (.tmp 40) (.tmp 41) _ rfl tBytes _ [1] rfl OA.out _ pad rfl (H2.out.still' (K3.out.tr kA.out)) ?c4 ?c6 ?_; (case c4 => have := hpl.out; simp; omega); (case c6 => exact kA.out.size))
  intro v5 w5 ho5 k5 b5
  have O5 := Lib.hid (show Own 5 byteEl Noneof w3.heap.size w5 v5 (1 :: pad) from ho5)
  have K5 := Lib.hid ((K3.out.tr kA.out).trans k5 fun b e => .inr (by have := (OA.out.lt b e).1; have := K3.out.size; omega))
  replace G := Lib.hid (k5.obj (fun e => by have := (OA.out.lt _ e).1; have := block_lt G.out; omega) (kA.out.obj (fun h => h) G.out))
  have S3 := Lib.hid K3.out.size
  have GL := Lib.hid (block_lt G.out)
  obtain ⟨x1, x2, x3, rfl⟩ := O5.out.slice'
  clear ho5 k5 b5 OA kA K3
  go_wp2_with fail
  refine (r7Xor_calls (H1.out.still' K5.out) (H2.out.still' K5.out) HL.out).mono ?_
  rintro e w6 ⟨v6, rfl, o6, k6⟩
  have O6 := Lib.hid o6
  obtain ⟨y1, y2, y3, rfl⟩ := o6.slice'
  have K6 := Lib.hid (K5.out.tr k6)
  replace G := Lib.hid (k6.obj (fun h => h) G.out)
  replace O5 := Lib.hid (O5.out.kept k6 fun _ h => h.elim)
  have S5 := Lib.hid K5.out.size
  clear o6 k6 K5
  obtain ⟨cc2, hc, hb, hk⟩ := bytes_conv (w := w6) HS.out
  replace hc := hc w6 rfl
  have HB := Lib.hid hb
  have K7 := Lib.hid (K6.out.tr hk)
  replace G := Lib.hid (hk.obj (fun h => h) G.out)
  replace O5 := Lib.hid (O5.out.kept hk fun _ h => h.elim)
  replace O6 := Lib.hid (O6.out.kept hk fun _ h => h.elim)
  generalize Lib.bytesWorld w6 5 s = w7 at *
  clear hb hk K6
  go_wp2_with fail
  clear hc
  refine (r2Put_calls (H0.out.still' K7.out) HB.out O5.out.sv (by have := HR.out; omega)).mono ?_
  rintro e w8 ⟨v8, rfl, o8, k8⟩
  have GL7 := block_lt G.out
  have O8 := Lib.hid (show SV pairEl (fun b => D b ∧ b < w.heap.size ∨ w.heap.size < b) w8 v8 _ from o8.sv.wide pairEl_k fun b h _ => h.elim (fun h => h.elim .inl fun h => .inr (by omega)) fun h => .inr (by omega))
  have K8 := Lib.hid (K7.out.tr k8)
  replace G := Lib.hid (k8.obj (fun h => h) G.out)
  replace O6 := Lib.hid (O6.out.kept k8 fun _ h => h.elim)
  obtain ⟨z1, z2, z3, rfl⟩ := o8.slice'
  clear o8 k8 K7 O5
  have f0 : w8.cell? ⟨w.heap.size, 0, none⟩ = some (.string { data := #[] }) := by simp [World.cell?, G.out]
  have f1 : w8.cell? ⟨w.heap.size, 1, none⟩ = some (.slice none 0 0) := by simp [World.cell?, G.out]
  have ff : ∀ j, w8.frozen? ⟨w.heap.size, j, none⟩ = false := fun j => by simp [World.frozen?, G.out]
  have KT := Lib.hid (((Kept.refl (fun b => b = w.heap.size) w8).setCell (p := ⟨w.heap.size, 0, none⟩) (.inl rfl) (.string s)).setCell (p := ⟨w.heap.size, 1, none⟩) (.inl rfl) (.slice y1 y2 y3))
  have GF := Lib.hid (setCell_obj (setCell_obj G.out (.string s) (j := 0)) (.slice y1 y2 y3) (j := 1))
  go_wp2
  refine bodyPost_ret (results_cell_row_tmp2 rfl _ _ w.heap.size _ #[_, _] (0, 0) _ rfl GF.out Try.underlying105 rfl (by kernel_rfl)) rfl ?_
  refine ⟨_, _, rfl, ?_, ?_, K8.out.trans KT.out fun b e => .inr (by omega)⟩
  · have := O6.out.sv.wide (D' := fun b => w.heap.size < b) byteEl_k fun b h _ => h.elim (fun h => h.elim) fun h => by have := GL.out; omega
    exact (this.kept byteEl_k KT.out fun b h _ e => by omega).wide byteEl_k fun b h _ => by omega
  · exact (O8.out.kept pairEl_k KT.out fun b h _ e => by omega).wide pairEl_k fun b h _ => h.elim (fun h => .inl h.1) fun h => .inr (by omega)
end Go.Proofs.Ytaopjdjbpamhhaa
/- Proved: contracts of the reference's Open and Forget of vaults. Conditions: bytes and pairs in memory. -/
namespace Go.Proofs.Ytaopjdjbpamhhaa
open Go Go.RowKit
set_option linter.unusedVariables false
set_option linter.unusedSimpArgs false
set_option maxRecDepth 100000 in
set_option maxHeartbeats 4000000 in
theorem r7Open_calls {w : World} {D D1 : Nat → Prop} {v0 v1 : Value} {s : ByteArray} {l : List (Bts × Bts)} {bs : Bts} (h0 : SV pairEl D w v0 l) (h1 : BV D1 w v1 bs) (hs : s.size ≤ 140737488355328) :
    Calls Try.prog 83 #[v0, .agg #[.string s, v1]] w fun e w' => ∃ x, e = .returned (.tuple #[x, .int .i64 (openK (getK l (sB s)) bs).1]) ∧ Own 5 byteEl Noneof w.heap.size w' x (openK (getK l (sB s)) bs).2 ∧ Kept Noneof w w' := by
  have H0 := Lib.hid h0
  have H1 := Lib.hid h1
  have HS := Lib.hid hs
  obtain ⟨⟨er, rb⟩, hres⟩ : ∃ r, openK (getK l (sB s)) bs = r := ⟨_, rfl⟩
  rw [hres]
  have RES := Lib.hid hres
  obtain ⟨a0, c0, rfl, _⟩ := h0
  obtain ⟨a1, c1, rfl, _, hm, _⟩ := h1
  clear hs hres
  go_enter Try.func83, Try.ntmps83
  go_upto_region 1 with (fail)
  have K1 := (Kept.refl Noneof w).alloc (.cells #[.string s, .slice a1 bs.length c1] 105)
  have G := Lib.hid (heap_alloc_new w (.cells #[.string s, .slice a1 bs.length c1] 105))
  generalize w.alloc (.cells #[.string s, .slice a1 bs.length c1] 105) = w1 at *
  have f0 : w1.cell? ⟨w.heap.size, 0, none⟩ = some (.string s) := by simp [World.cell?, G.out]
  obtain ⟨cc, hc, hb, hk⟩ := bytes_conv (w := w1) HS.out
  replace hc := hc w1 rfl
  have HB := Lib.hid hb
  have K2 := Lib.hid (K1.tr hk)
  replace G := Lib.hid (hk.obj (fun h => h) G.out)
  generalize Lib.bytesWorld w1 5 s = w2 at *
  clear hb hk K1
  go_wp2_with fail
  clear hc f0
  refine (r2Get_calls (H0.out.still' K2.out) HB.out).mono ?_
  rintro e w3 ⟨hres, d3⟩
  have k3 := (Kept.refl Noneof w2).drewn d3
  have K3 := Lib.hid (K2.out.tr k3)
  replace G := Lib.hid (k3.obj (fun h => h) G.out)
  clear HB d3
  rcases hres with ⟨v', x, hx, rfl, bx⟩ | ⟨hx, rfl⟩
  rotate_left
  · have R2 := RES.out
    rw [hx] at R2
    obtain ⟨rfl, rfl⟩ := Prod.mk.inj R2
    clear k3 hx RES R2
    go_wp2
    go_ret2
    exact ⟨_, rfl, Own.nil _ _ _ _ _, K3.out⟩
  have R2 := RES.out
  rw [hx] at R2
  unfold openK at R2
  simp only at R2
  have BX := Lib.hid (bx.still' k3)
  obtain ⟨x1, x3, rfl, _, hxm, _⟩ := bx
  obtain ⟨m, hm2⟩ : ∃ m, x.length = m := ⟨_, rfl⟩
  rw [hm2] at R2 hxm ⊢
  have HM := Lib.hid hm2
  have g1 : w3.cell? ⟨w.heap.size, 1, none⟩ = some (.slice a1 bs.length c1) := by simp [World.cell?, G.out]
  clear k3 hx RES hm2 K2
  by_cases hl : m = bs.length + 1
  rotate_left
  · rw [if_neg hl] at R2
    obtain ⟨rfl, rfl⟩ := Prod.mk.inj R2
    have e1 : ((m : Int) - 1 != (bs.length : Int)) = true := by rw [bne_iff_ne]; omega
    clear hl R2
    go_wp2
    go_ret2
    exact ⟨_, rfl, Own.nil _ _ _ _ _, K3.out⟩
  rw [if_pos hl] at R2
  obtain ⟨rfl, hrb⟩ := Prod.mk.inj R2
  have RB := Lib.hid hrb
  clear R2 hrb
  subst hl
  go_upto_region 6 with (fail)
  refine wp_region_chain 7 [4] (fun w' => w'.cell? ⟨w.heap.size, 1, none⟩ = some (.slice a1 bs.length c1)) (by kernel_rfl) (by kernel_rfl) ?_ ?_
  · exact g1
  refine SeqW.out ?_
  simp only [List.take_succ_cons, List.take_zero, List.drop_succ_cons, List.drop_zero]
  have kd := (Kept.refl Noneof w3).drew
  have K5 := Lib.hid (K3.out.tr kd)
  replace BX := Lib.hid (BX.out.still' kd)
  replace g1 := kd.cell (p := ⟨w.heap.size, 1, none⟩) (fun h => h) g1
  generalize w3.drew = wf at *
  clear kd
  have hb1 : (1 : Int) ≤ (bs.length : Int) + 1 := by omega
  iterate 4 (refine SeqW.val (v := ?_) (by rfl) (by rfl) (fun wx hSw => ?_) ?_; rotate_left; (focus ((try dsimp only at hSw); go_simp; (try with_reducible rfl))); (try simp only [Act.put, List.setIfInBounds_toArray, List.set_cons_zero, List.set_cons_succ]))
  refine SeqW.act (by rfl) rfl (by rfl) (by rfl) (fun K hK => ?_)
  go_simp
  have XD := SV.drop (n := 1) (d := 1) BX.out (by rw [HM.out]; omega) rfl
  rw [HM.out] at XD
  refine (r7Xor_calls (H1.out.still' K5.out) XD (by rw [List.length_drop, HM.out]; omega)).mono ?_
  rintro e w6 ⟨v6, rfl, o6, k6⟩
  refine hK.out _ _ (k6.cell (p := ⟨w.heap.size, 1, none⟩) (fun h => h) g1) ?_
  have O6 := Lib.hid (o6.base K5.out.size)
  have K6 := Lib.hid (K5.out.tr k6)
  clear K hK o6 k6
  (try simp only [Act.put, List.setIfInBounds_toArray, List.set_cons_zero, List.set_cons_succ])
  iterate 2 (refine SeqW.val (v := ?_) (by rfl) (by rfl) (fun wx hSw => ?_) ?_; rotate_left; (focus ((try dsimp only at hSw); go_simp; (try with_reducible rfl))); (try simp only [Act.put, List.setIfInBounds_toArray, List.set_cons_zero, List.set_cons_succ]))
  refine SeqW.nil ?_
  obtain ⟨y1, y2, y3, rfl⟩ := O6.out.slice'
  clear g1 hb1
  rw [RB.out] at O6
  go_wp2
  all_goals
    go_ret2
    exact ⟨_, rfl, O6.out, K6.out⟩
set_option maxRecDepth 100000 in
set_option maxHeartbeats 4000000 in
theorem r7Forget_calls {w : World} {D : Nat → Prop} {v0 : Value} {s : ByteArray} {l : List (Bts × Bts)} (h0 : SV pairEl D w v0 l) (hr : l.length ≤ 100000000) (hs : s.size ≤ 140737488355328) :
    Calls Try.prog 84 #[v0, .string s] w fun e w' => ∃ x, e = .returned (.tuple #[x, .int .i64 (if hasK l (sB s) = true then 0 else 3)]) ∧ SV pairEl (fun b => D b ∨ w.heap.size ≤ b) w' x (if hasK l (sB s) = true then dropK l (sB s) else l) ∧ Kept Noneof w w' := by
  have H0 := Lib.hid h0
  have HS := Lib.hid hs
  have HR := Lib.hid hr
  obtain ⟨a0, c0, rfl, _⟩ := h0
  obtain ⟨bb, hbb⟩ : ∃ b, hasK l (sB s) = b := ⟨_, rfl⟩
  rw [hbb]
  replace hbb := Lib.hid hbb
  clear hs hr
  obtain ⟨cc, hc, hb, hk⟩ := bytes_conv (w := w) HS.out
  replace hc := hc w rfl
  have HB := Lib.hid hb
  have K1 := Lib.hid hk
  generalize Lib.bytesWorld w 5 s = w1 at *
  clear hb hk
  go_enter Try.func84, Try.ntmps84
  go_wp2_with fail
  clear hc
  refine (r2Has_calls (H0.out.still' K1.out) HB.out).mono ?_
  rintro e w2 ⟨rfl, d2⟩
  rw [hbb.out]
  have k2 := (Kept.refl Noneof w1).drewn d2
  have K2 := Lib.hid (K1.out.tr k2)
  clear HB d2 k2 K1
  cases bb
  · go_wp2
    go_ret2
    exact ⟨_, rfl, (H0.out.still' K2.out).wide pairEl_k fun b h _ => .inl h, K2.out⟩
  obtain ⟨cc, hc, hb, hk⟩ := bytes_conv (w := w2) HS.out
  replace hc := hc w2 rfl
  have HB := Lib.hid hb
  have K3 := Lib.hid (K2.out.tr hk)
  generalize Lib.bytesWorld w2 5 s = w3 at *
  clear hb hk K2
  go_wp2_with fail
  clear hc
  refine (r2Drop_calls (H0.out.still' K3.out) HB.out HR.out).mono ?_
  rintro e w4 ⟨v', rfl, s4, k4⟩
  have S4 := Lib.hid (show SV pairEl (fun b => D b ∨ w.heap.size ≤ b) w4 v' (dropK l (sB s)) from s4.wide pairEl_k fun b h _ => h.elim .inl fun h => .inr (Nat.le_trans K3.out.size h))
  have K4 := Lib.hid (K3.out.tr k4)
  obtain ⟨y1, y3, rfl, _⟩ := s4
  clear k4
  generalize (dropK l (sB s)).length = dl at *
  go_wp2
  go_ret2
  exact ⟨_, rfl, S4.out, K4.out⟩
end Go.Proofs.Ytaopjdjbpamhhaa
/- Proved: contract of a vault's Image. Conditions: a vault in memory. -/
namespace Go.Proofs.Ytaopjdjbpamhhaa
open Go Go.RowKit
set_option linter.unusedVariables false
set_option linter.unusedSimpArgs false
theorem vImage_calls {seed : Int} {w : World} {v : Nat} {l : List (Bts × Bts)} {F : Nat → Prop} (h : VltAt seed w v l F) :
    Calls Try.prog 71 #[bp v] w fun e w' => ∃ v', e = .returned v' ∧ Own 5 byteEl Noneof w.heap.size w' v' (imgT seed l) ∧ Kept Noneof w w' := by
  have H := Lib.hid h
  obtain ⟨t, F0, hv, ht, _⟩ := h
  have cv := vlt_cell hv
  have TT := Lib.hid ht
  clear hv ht
  go_enter Try.func71, Try.ntmps71
  go_wp2_with fail
  refine (vnone_calls H.out).mono ?_
  rintro e w1' ⟨rfl, rfl⟩
  go_wp2_with fail
  refine (slImage_calls TT.out).mono ?_
  rintro e w2 ⟨v', rfl, o, k⟩
  have O := Lib.hid o
  have K := Lib.hid k
  obtain ⟨x1, x2, x3, rfl⟩ := o.slice'
  clear o k cv
  go_wp2
  go_ret
  exact ⟨_, rfl, O.out, K.out⟩
end Go.Proofs.Ytaopjdjbpamhhaa
/- Proved: contracts of two vaults' functions side by side. Plain: what is left of a pad that came and went. Conditions: vaults in memory that share no block. -/
namespace Go.Proofs.Ytaopjdjbpamhhaa
open Go Go.RowKit
set_option linter.unusedVariables false
set_option linter.unusedSimpArgs false
/-- Two vaults that share no block, both in blocks from B on; the blocks X are none of theirs. -/
structure VTwo (seed : Int) (B : Nat) (X : Nat → Prop) (w : World) (v u : Nat) (T1 T2 : List (Bts × Bts)) (F1 F2 : Nat → Prop) : Prop where
  a : VltAt seed w v T1 F1
  b : VltAt seed w u T2 F2
  da : ∀ b, F1 b → B ≤ b ∧ b < w.heap.size
  db : ∀ b, F2 b → B ≤ b ∧ b < w.heap.size
  no : ∀ b, F1 b → ¬ F2 b
  xx : ∀ b, X b → b < w.heap.size ∧ ¬ F1 b ∧ ¬ F2 b
  bs : B ≤ w.heap.size
section
variable {seed : Int} {B : Nat} {X : Nat → Prop} {w w' : World} {v u : Nat} {T1 T2 : List (Bts × Bts)} {F1 F2 : Nat → Prop}
theorem VTwo.swap (h : VTwo seed B X w v u T1 T2 F1 F2) : VTwo seed B X w u v T2 T1 F2 F1 := ⟨h.b, h.a, h.db, h.da, fun b hb ha => h.no b ha hb, fun b hb => ⟨(h.xx b hb).1, (h.xx b hb).2.2, (h.xx b hb).2.1⟩, h.bs⟩
theorem VTwo.still (h : VTwo seed B X w v u T1 T2 F1 F2) (k : Kept Noneof w w') : VTwo seed B X w' v u T1 T2 F1 F2 :=
  ⟨h.a.still k, h.b.still k, fun b hb => ⟨(h.da b hb).1, Nat.lt_of_lt_of_le (h.da b hb).2 k.size⟩, fun b hb => ⟨(h.db b hb).1, Nat.lt_of_lt_of_le (h.db b hb).2 k.size⟩, h.no, fun b hb => ⟨Nat.lt_of_lt_of_le (h.xx b hb).1 k.size, (h.xx b hb).2⟩, Nat.le_trans h.bs k.size⟩
theorem VTwo.more (h : VTwo seed B X w v u T1 T2 F1 F2) (Y : Nat → Prop) (hY : ∀ b, Y b → b < w.heap.size ∧ ¬ F1 b ∧ ¬ F2 b) : VTwo seed B (fun b => X b ∨ Y b) w v u T1 T2 F1 F2 :=
  ⟨h.a, h.b, h.da, h.db, h.no, fun b hb => hb.elim (h.xx b) (hY b), h.bs⟩
/-- A step of the first vault. -/
theorem VTwo.step (h : VTwo seed B X w v u T1 T2 F1 F2) {T1' : List (Bts × Bts)} {F' : Nat → Prop} (hv : VltAt seed w' v T1' F') (hf : ∀ b, F' b → (F1 b ∨ w.heap.size ≤ b) ∧ b < w'.heap.size) (k : Kept F1 w w') :
    VTwo seed B X w' v u T1' T2 F' F2 ∧ Kept (fun b => B ≤ b ∧ ¬ X b) w w' := by
  refine ⟨⟨hv, h.b.kept k fun b hb ha => h.no b ha hb, fun b hb => ⟨?_, (hf b hb).2⟩, fun b hb => ⟨(h.db b hb).1, Nat.lt_of_lt_of_le (h.db b hb).2 k.size⟩, fun b hb hh => ?_, fun b hb => ⟨Nat.lt_of_lt_of_le (h.xx b hb).1 k.size, fun hh => ?_, (h.xx b hb).2.2⟩, Nat.le_trans h.bs k.size⟩, k.mono fun b hb => ⟨(h.da b hb).1, fun hx => (h.xx b hx).2.1 hb⟩⟩
  · rcases (hf b hb).1 with h' | h'
    · exact (h.da b h').1
    · exact Nat.le_trans h.bs h'
  · rcases (hf b hb).1 with h' | h'
    · exact h.no b h' hh
    · have := (h.db b hh).2
      omega
  · rcases (hf b hh).1 with h' | h'
    · exact (h.xx b hb).2.1 h'
    · have := (h.xx b hb).1
      omega
theorem VTwo.done (h : VTwo seed B X w v u T1 T2 F1 F2) {D1 : Nat → Prop} {name : ByteArray} {dv : Value} {l : List DeedK} (h1 : SV deedEl D1 w dv l) (hD : ∀ b, D1 b → b < B) (hr : T1.length + l.length ≤ 1000) :
    Calls Try.prog 66 #[bp v, .string name, dv] w fun e w' => e = .returned (.bool (l.all (okD name))) ∧ (l.all (okD name) = true → ∃ F', VTwo seed B X w' v u (deedsT T1 l) T2 F' F2) ∧ Kept (fun b => B ≤ b ∧ ¬ X b) w w' := by
  refine (l7done_calls h.a h1 (fun b hb => (h.da b hb).2) (fun b hb hf => by have := hD b hb; have := (h.da b hf).1; omega) hr).mono ?_
  rintro e w2 ⟨rfl, hv, k⟩
  refine ⟨rfl, fun ha => ?_, k.mono fun b hb => ⟨(h.da b hb).1, fun hx => (h.xx b hx).2.1 hb⟩⟩
  obtain ⟨F', t, hf⟩ := hv ha
  exact ⟨F', (h.step t hf k).1⟩
theorem VTwo.put (h : VTwo seed B X w v u T1 T2 F1 F2) {D1 D2 : Nat → Prop} {s : ByteArray} {v1 v2 : Value} {data pad : Bts} (h1 : BV D1 w v1 data) (h2 : BV D2 w v2 pad) (hd1 : ∀ b, D1 b → b < B ∨ X b) (hd2 : ∀ b, D2 b → b < B ∨ X b) (hr : T1.length < 100000) (hs : s.size ≤ 140737488355328) :
    Calls Try.prog 67 #[bp v, .string s, v1, v2] w fun e w' => ∃ v' F', e = .returned (.tuple #[.agg #[.string (sealN (putR T1 (sB s) data pad) s), v'], .int .i64 (putR T1 (sB s) data pad)]) ∧ BW (fun b => w.heap.size ≤ b ∧ b < w'.heap.size ∧ ¬ F' b ∧ ¬ F2 b) w' v' (sealB (putR T1 (sB s) data pad) data pad) ∧ VTwo seed B X w' v u (vputT T1 (sB s) data pad) T2 F' F2 ∧ Kept (fun b => B ≤ b ∧ ¬ X b) w w' := by
  have no : ∀ b, b < B ∨ X b → ¬ F1 b := fun b hb hf => by
    rcases hb with hb | hb
    · have := (h.da b hf).1; omega
    · exact (h.xx b hb).2.1 hf
  refine (vPut_any h.a h1 h2 (fun b hb => (h.da b hb).2) (fun b hb => no b (hd1 b hb)) (fun b hb => no b (hd2 b hb)) hr hs).mono ?_
  rintro e w2 ⟨v', F', rfl, bv, t, hf, k⟩
  obtain ⟨t2, k2⟩ := h.step t hf k
  exact ⟨v', F', rfl, bv.mono fun b hb hl => ⟨⟨hb.1, hl, hb.2, fun hh => by have := (h.db b hh).2; have := hb.1; omega⟩, rfl⟩, t2, k2⟩
theorem VTwo.forget (h : VTwo seed B X w v u T1 T2 F1 F2) {s : ByteArray} (hs : s.size ≤ 140737488355328) :
    Calls Try.prog 70 #[bp v, .string s] w fun e w' => e = .returned (.int .i64 (dropE T1 (sB s))) ∧ VTwo seed B X w' v u (tdel T1 (sB s)) T2 F1 F2 ∧ Kept (fun b => B ≤ b ∧ ¬ X b) w w' := by
  refine (vForget_calls h.a (fun b hb => (h.da b hb).2) hs).mono ?_
  rintro e w2 ⟨rfl, t, k⟩
  obtain ⟨t2, k2⟩ := h.step t (fun b hb => ⟨.inl hb, Nat.lt_of_lt_of_le (h.da b hb).2 k.size⟩) k
  exact ⟨rfl, t2, k2⟩
end
/-! ### Plain -/
end Go.Proofs.Ytaopjdjbpamhhaa
