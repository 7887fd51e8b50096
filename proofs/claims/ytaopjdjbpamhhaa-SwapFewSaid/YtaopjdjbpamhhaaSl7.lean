/- Proved: contracts of the reference 07's Most and of the law SwapFew's own code. Conditions: pairs in memory. -/
import Derived.Test.YtaopjdjbpamhhaaSl5
import Derived.Test.YtaopjdjbpamhhaaSl6
import Derived.Test.YtaopjdjbpamhhaaLaw3
namespace Go.Proofs.Ytaopjdjbpamhhaa
open Go Go.RowKit
set_option linter.unusedVariables false
set_option linter.unusedSimpArgs false

theorem differK_le (a b : List (Bts × Bts)) : differK a b ≤ a.length + b.length := Nat.add_le_add List.countP_le_length List.countP_le_length
def mostK (d h : Nat) : Nat := 1 + 2 * d * (h + 1)
theorem most_math {d h : Nat} (h1 : d ≤ 100000) (h2 : h ≤ 100000) : IntKind.i64.wrap (2 * (d : Int) * ((h : Int) + 1)) = ((2 * d * (h + 1) : Nat) : Int) ∧ 2 * d * (h + 1) ≤ 20000200000 := by
  have h3 : 2 * d * (h + 1) ≤ 200000 * 100001 := Nat.mul_le_mul (by omega) (by omega)
  refine ⟨?_, by omega⟩
  have e : 2 * (d : Int) * ((h : Int) + 1) = ((2 * d * (h + 1) : Nat) : Int) := by rw [Int.natCast_mul, Int.natCast_mul]; rfl
  rw [e]
  exact IntWalk.i64_in _ ⟨by omega, by omega⟩

set_option maxRecDepth 100000 in
set_option maxHeartbeats 1000000 in
theorem r7Most_calls {seed : Int} {D1 D2 : Nat → Prop} {v1 v2 : Value} {t : Tr} {b : List (Bts × Bts)} {w : World} (hg : t.good seed) (hs : t.size ≤ 50000) (hb : b.length ≤ 50000) (h1 : SV pairEl D1 w v1 t.pairs) (h2 : SV pairEl D2 w v2 b) :
    Calls Try.prog 64 #[.int .u64 seed, v1, v2] w fun e w' => e = .returned (.int .i64 (mostK (differK t.pairs b) t.tall)) ∧ Kept Noneof w w' := by
  have H1 := Lib.hid h1
  have H2 := Lib.hid h2
  have HG := Lib.hid hg
  have hd := differK_le t.pairs b
  rw [Tr.pairs_len] at hd
  have ht := Tr.tall_size t
  have hd' : differK t.pairs b ≤ 100000 := by omega
  have ht' : t.tall ≤ 100000 := by omega
  have HS := Lib.hid hs
  obtain ⟨q1, q2⟩ := most_math hd' ht'
  generalize hP : 2 * differK t.pairs b * (t.tall + 1) = p at *
  have HP := Lib.hid hP
  have Q1 := Lib.hid q1
  obtain ⟨a1, c1, rfl, _⟩ := h1
  obtain ⟨a2, c2, rfl, _⟩ := h2
  clear hg hs hb hd ht hP q1
  go_enter Try.func64, Try.ntmps64
  go_wp2_with fail
  refine (r7Differ_calls H1.out H2.out).mono ?_
  rintro e w1 ⟨rfl, n1, rfl⟩
  go_wp2_with fail
  refine (r7Tall_calls t HG.out (by have := HS.out; omega) _ (w.drewN n1) (H1.out.at rfl)).mono ?_
  rintro e w2 ⟨rfl, k2⟩
  have q1 := Q1.out
  go_wp2
  go_ret
  exact ⟨ret_int (by rw [mostK, HP.out]; omega), ((Kept.refl Noneof w).drewN n1).tr k2⟩

theorem few_plain {seed : Int} {t u : Tr} (ht : t.good seed) (hu : u.good seed) : 1 ≤ (talk seed u t [] [] false).length ∧ (talk seed u t [] [] false).length ≤ mostK (differK t.pairs u.pairs) t.tall := by
  refine ⟨talk_pos _ _ _ _, ?_⟩
  have h := talk_few (Tr.good_srt ht) hu t [] [] false ht (filter_all _).symm
  rw [← differ_diffS] at h
  refine Nat.le_trans h ?_
  unfold mostK
  have : differK t.pairs u.pairs * t.tall ≤ differK t.pairs u.pairs * (t.tall + 1) := Nat.mul_le_mul_left _ (Nat.le_succ _)
  rw [Nat.mul_assoc]
  omega
/-- The map of some pairs. -/
abbrev fillT (seed : Int) (l : List (Bts × Bts)) : Tr := putAll seed .nil l
theorem fillT_good (seed : Int) (l : List (Bts × Bts)) : (fillT seed l).good seed := putAll_good (seed := seed) (u := .nil) trivial
theorem fillT_pairs (seed : Int) (l : List (Bts × Bts)) : (fillT seed l).pairs = sortedL l := putAll_pairs (seed := seed) (u := .nil) trivial
theorem fillT_size (seed : Int) (l : List (Bts × Bts)) : (fillT seed l).size ≤ l.length := by
  have := putAll_size seed l .nil
  simpa [Tr.size] using this
theorem fillT_okP {seed : Int} {l : List (Bts × Bts)} (h : ∀ p ∈ l, allowedK p.1 p.2 = true) : (fillT seed l).ok := by
  have : ∀ (l : List (Bts × Bts)) (u : Tr), u.ok → (∀ p ∈ l, allowedK p.1 p.2 = true) → (putAll seed u l).ok := by
    intro l
    induction l with
    | nil => exact fun u h _ => h
    | cons p l ih =>
      intro u hu h
      have hp := h p (by simp)
      simp only [allowedK, Bool.and_eq_true, decide_eq_true_eq] at hp
      rw [putAll_cons]
      exact ih _ (Tr.put_ok ⟨hp.1.1, hp.1.2, hp.2⟩ hu) fun q hq => h q (by simp [hq])
  exact this l .nil trivial h
theorem MapAt.lt {seed : Int} {w : World} {m : Nat} {t : Tr} {F : Nat → Prop} (h : MapAt seed w m t F) : m < w.heap.size := by
  obtain ⟨p, S, D, h⟩ := h
  exact block_lt h.ho

set_option maxRecDepth 100000 in
set_option maxHeartbeats 2000000 in
theorem swapFew_walk {seed : Int} {D1 D2 : Nat → Prop} {w : World} {v1 v2 : Value} {l1 l2 : List (Bts × Bts)} (h1 : SV pairEl D1 w v1 l1) (h2 : SV pairEl D2 w v2 l2) (hl1 : ∀ b, D1 b → b < w.heap.size) (hl2 : ∀ b, D2 b → b < w.heap.size) :
    Calls Try.prog 15 #[.int .u64 seed, v1, v2] w fun e w' => e = .returned (.bool true) ∧ Kept Noneof w w' := by
  have H1 := Lib.hid h1
  have H2 := Lib.hid h2
  obtain ⟨a1, c1, rfl, _⟩ := h1
  obtain ⟨a2, c2, rfl, _⟩ := h2
  go_enter Try.func15, Try.ntmps15
  go_wp2_with fail
  refine (l7few_calls H1.out).mono ?_
  rintro e w1 ⟨rfl, k1⟩
  have K1 := Lib.hid k1
  clear k1
  cases hf1 : fewK l1
  · go_wp2
    go_ret
    exact ⟨rfl, K1.out⟩
  have F1 := Lib.hid hf1
  clear hf1
  go_wp2_with fail
  refine (l7few_calls (H2.out.kept pairEl_k K1.out fun _ _ _ h => h)).mono ?_
  rintro e w2 ⟨rfl, k2⟩
  have K2 := Lib.hid (K1.out.tr k2)
  clear k2
  cases hf2 : fewK l2
  · go_wp2
    go_ret
    exact ⟨rfl, K2.out⟩
  have F2 := Lib.hid hf2
  clear hf2
  go_wp2_with fail
  refine (l7filled_calls (seed := seed) (H1.out.kept pairEl_k K2.out fun _ _ _ h => h) F1.out).mono ?_
  rintro e w3 ⟨m1, G1, rfl, hm1, hg1, _, k3⟩
  have K3 := Lib.hid (K2.out.tr k3)
  have M1 := Lib.hid hm1
  clear hm1 hg1 k3
  go_wp2_with fail
  refine (l7filled_calls (seed := seed) (H2.out.kept pairEl_k K3.out fun _ _ _ h => h) F2.out).mono ?_
  rintro e w4 ⟨m2, G2, rfl, hm2, hg2, hlo, k4⟩
  have K4 := Lib.hid (K3.out.tr k4)
  have M1b := Lib.hid (M1.out.kept k4 fun _ _ h => h)
  have NE := Lib.hid (show m1 ≠ m2 by have := M1.out.lt; omega)
  have M2 := Lib.hid hm2
  have HG2 := Lib.hid (show ∀ b, G2 b → w.heap.size ≤ b from fun b h => Nat.le_trans K3.out.size (hg2 b h))
  clear hm2 hg2 k4 hlo M1
  go_wp2_with fail
  refine (l7sorted_calls (H1.out.kept pairEl_k K4.out fun _ _ _ h => h) (fewK_iff F1.out).1).mono ?_
  rintro e w5 ⟨v5, rfl, s5, k5⟩
  have K5 := Lib.hid (K4.out.tr k5)
  have M1c := Lib.hid (M1b.out.kept k5 fun _ _ h => h)
  have M2c := Lib.hid (M2.out.kept k5 fun _ _ h => h)
  have S5 := Lib.hid s5
  obtain ⟨a5, c5, rfl, _⟩ := s5
  clear k5 M1b M2
  go_wp2_with fail
  refine (l7sorted_calls (H2.out.kept pairEl_k K5.out fun _ _ _ h => h) (fewK_iff F2.out).1).mono ?_
  rintro e w6 ⟨v6, rfl, s6, k6⟩
  have K6 := Lib.hid (K5.out.tr k6)
  have M1d := Lib.hid (M1c.out.kept k6 fun _ _ h => h)
  have M2d := Lib.hid (M2c.out.kept k6 fun _ _ h => h)
  have S5b := Lib.hid (S5.out.kept pairEl_k k6 fun _ _ _ h => h)
  have S6 := Lib.hid s6
  obtain ⟨a6, c6, rfl, _⟩ := s6
  clear k6 M1c M2c S5
  have z1 := Lib.hid (Nat.le_trans (fillT_size seed l1) (fewK_iff F1.out).1)
  have z2 := Lib.hid (Nat.le_trans (fillT_size seed l2) (fewK_iff F2.out).1)
  have e1 := fillT_pairs seed l1
  have e2 := fillT_pairs seed l2
  have E1 := Lib.hid e1
  have E2 := Lib.hid e2
  clear e1 e2
  go_wp2_with fail
  refine (r7Most_calls (t := fillT seed l1) (fillT_good seed l1) (by have := z1.out; omega) (b := sortedL l2) (by rw [← E2.out, Tr.pairs_len]; have := z2.out; omega) (by rw [E1.out]; exact S5b.out) S6.out).mono ?_
  rintro e w7 ⟨rfl, k7⟩
  have K7 := Lib.hid (K6.out.tr k7)
  have M1e := Lib.hid (M1d.out.kept k7 fun _ _ h => h)
  have M2e := Lib.hid ((M2d.out.kept k7 fun _ _ h => h).wide (F' := fun b => G2 b ∧ b < w7.heap.size) fun b h hl => ⟨h, hl⟩)
  clear k7 M1d M2d
  have OK := Lib.hid (fillT_okP (seed := seed) (fewK_iff F1.out).2)
  have FP := Lib.hid (few_plain (fillT_good seed l1) (fillT_good seed l2))
  rw [E2.out] at FP
  generalize mostK (differK (fillT seed l1).pairs (sortedL l2)) (fillT seed l1).tall = M at *
  go_wp2_with fail
  refine (swMirror_calls (t := fillT seed l1) (u := fillT seed l2) M1e.out M2e.out NE.out (Tr.good_srt (fillT_good seed l2)) OK.out (by have := z1.out; omega) (by have := z2.out; omega) (by have := z1.out; have := z2.out; omega) fun b h => h.2).mono ?_
  rintro e w8 ⟨v8, G3, rfl, s8, _, _, k8⟩
  have K8 := Lib.hid (K7.out.trans k8 fun b h => .inr (HG2.out b h.1))
  obtain ⟨a8, c8, rfl, _⟩ := s8
  generalize (talk seed (fillT seed l2) (fillT seed l1) [] [] false).length = T at *
  have f1 := FP.out.1
  have f2 := FP.out.2
  clear k8
  go_wp2
  go_ret
  exact ⟨ret_bool (by simp), K8.out⟩
end Go.Proofs.Ytaopjdjbpamhhaa
