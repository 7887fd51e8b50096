/- Proved: the law SlotsOneLayout returns true for all its arguments, and each argument reads afterwards as it read before. No condition beyond the statement's own. -/
import Derived.Test.YtaopjdjbpamhhaaPkN
import Derived.Test.YtaopjdjbpamhhaaPkA
import Derived.Deep.DeepCutAuto
import Derived.Test.YtaopjdjbpamhhaaRows
import Derived.Test.YtaopjdjbpamhhaaFacts
import Derived.ProofKit
import Derived.OpenShut
import Derived.ShutString
import Derived.ChangeOld
import Derived.ChangeMaps5
import Derived.SizedLaws
import Derived.Carry
/- Proved: plain: a layout of items in another order. No program. Conditions: different keys. -/
namespace Go.Proofs.Ytaopjdjbpamhhaa
open Go Go.RowKit
set_option linter.unusedVariables false
set_option linter.unusedSimpArgs false

/-- The numbers in the cells, each by another one. -/
def mapC (f : Nat → Nat) (x : Int) : Int := if x < 0 then x else (f x.toNat : Int)
theorem fullC_map (f : Nat → Nat) (out : List Int) (c : Nat) : fullC (out.map (mapC f)) c = fullC out c := by
  unfold fullC
  rw [List.getD_eq_getElem?_getD, List.getD_eq_getElem?_getD, List.getElem?_map]
  cases h : out[c]? with
  | none => rfl
  | some x =>
    simp only [Option.map_some, Option.getD_some, mapC]
    refine decide_eq_decide.2 ?_
    split <;> omega
theorem probe_map (f : Nat → Nat) (out : List Int) (cells : Nat) : ∀ k c, probe (out.map (mapC f)) cells k c = probe out cells k c
  | 0, _ => rfl
  | k + 1, c => by rw [probe, probe, fullC_map, probe_map f out cells k]
theorem layF_map (f : Nat → Nat) (cells : Nat) (home : Nat → Nat) : ∀ (o : List Nat) (out : List Int), (o.map f).foldl (fun out i => lay1 cells out (home i) i) (out.map (mapC f)) = (o.foldl (fun out i => lay1 cells out (home (f i)) i) out).map (mapC f)
  | [], _ => rfl
  | i :: o, out => by
    rw [List.map_cons, List.foldl_cons, List.foldl_cons, ← layF_map f cells home o]
    congr 1
    unfold lay1
    rw [probe_map, List.map_set]
    congr 1
    try (unfold mapC; rw [if_neg (by omega), Int.toNat_natCast])
/-- How many cells are full. -/
def fullN (out : List Int) : Nat := out.countP fun x => decide (0 ≤ x)
theorem fullN_set : ∀ {out : List Int} {p : Nat} {x : Int} (h : p < out.length), out[p] < 0 → 0 ≤ x → fullN (out.set p x) = fullN out + 1
  | y :: out, 0, x, _, h1, h2 => by
    simp only [List.getElem_cons_zero] at h1
    simp only [fullN, List.set_cons_zero, List.countP_cons]
    rw [if_pos (by simpa using h2), if_neg (by simp; omega)]
    try omega
  | y :: out, p + 1, x, h, h1, h2 => by
    simp only [List.getElem_cons_succ] at h1
    have ih := fullN_set (out := out) (p := p) (x := x) (by simpa using h) h1 h2
    simp only [fullN, List.set_cons_succ, List.countP_cons] at ih ⊢
    omega
theorem layF_fullN {cells : Nat} {home : Nat → Nat} : ∀ {l : List Nat}, l.length ≤ cells → l.Nodup → (∀ i ∈ l, home i < cells) → fullN (layF cells home l) = l.length := by
  intro l
  induction h : l.reverse generalizing l with
  | nil =>
    obtain rfl : l = [] := by simpa using h
    intro _ _ _
    unfold layF fullN
    rw [List.foldl_nil, List.countP_eq_zero.2 (fun x hx => by obtain ⟨_, rfl⟩ := List.mem_replicate.1 hx; simp)]
    rfl
  | cons i r ih =>
    obtain rfl : l = r.reverse ++ [i] := by
      have := congrArg List.reverse h
      simpa using this
    intro h1 h2 h3
    simp only [List.length_append, List.length_cons, List.length_nil] at h1
    rw [List.nodup_append] at h2
    have e := ih (l := r.reverse) (by simp) (by omega) h2.1 fun j hj => h3 j (by simp [hj])
    have hla := layF_laid (cells := cells) (home := home) (l := r.reverse) (by omega) h2.1 fun j hj => h3 j (by simp [hj])
    obtain ⟨k, hw, hn, hp⟩ := probe_free (h3 i (by simp)) (hla.free (by omega))
    rw [layF_snoc, List.length_append, List.length_cons, List.length_nil, ← e]
    unfold lay1
    rw [hp]
    have hk : stepC cells (home i) k < (layF cells home r.reverse).length := by rw [layF_length]; exact stepC_lt (by have := h3 i (by simp); omega)
    refine fullN_set hk ?_ (by omega)
    rw [fullC_of hk] at hn
    simpa using hn
/-- The same items, turned about. -/
def turnP (n turn i : Nat) : Nat := if turn % 2 = 1 then n - 1 - (i + turn / 2) % n else (i + turn / 2) % n
theorem turnP_lt {n turn i : Nat} (h : 0 < n) : turnP n turn i < n := by
  unfold turnP
  have := Nat.mod_lt (i + turn / 2) h
  split <;> omega
theorem turnP_inj {n turn i j : Nat} (hi : i < n) (hj : j < n) (h : turnP n turn i = turnP n turn j) : i = j := by
  have h1 : (i + turn / 2) % n = (j + turn / 2) % n := by
    unfold turnP at h
    have a := Nat.mod_lt (i + turn / 2) (show 0 < n by omega)
    have b := Nat.mod_lt (j + turn / 2) (show 0 < n by omega)
    split at h <;> omega
  generalize turn / 2 = t at h1
  have e1 := Nat.div_add_mod (i + t) n
  have e2 := Nat.div_add_mod (j + t) n
  rw [h1] at e1
  generalize (j + t) % n = r at *
  rcases Nat.lt_trichotomy ((i + t) / n) ((j + t) / n) with h | h | h
  · have := Nat.mul_le_mul_left n (show (i + t) / n + 1 ≤ (j + t) / n from h)
    rw [Nat.mul_add, Nat.mul_one] at this
    omega
  · rw [h] at e1; omega
  · have := Nat.mul_le_mul_left n (show (j + t) / n + 1 ≤ (i + t) / n from h)
    rw [Nat.mul_add, Nat.mul_one] at this
    omega
def turned (l : List ItemK) (turn k : Nat) : List ItemK := (List.range k).map fun i => l.getD (turnP l.length turn i) default
theorem turned_len (l : List ItemK) (turn k : Nat) : (turned l turn k).length = k := by simp [turned]
theorem turned_succ {l : List ItemK} {turn k : Nat} (h : turnP l.length turn k < l.length) : turned l turn k ++ [l[turnP l.length turn k]] = turned l turn (k + 1) := by
  unfold turned
  rw [List.range_succ, List.map_append]
  congr 1
  simp [List.getD_eq_getElem?_getD, List.getElem?_eq_getElem h]
/-- Different keys. -/
def DiffK (l : List ItemK) : Prop := ∀ i j (hi : i < l.length) (hj : j < l.length), i ≠ j → l[i].2.2 ≠ l[j].2.2
theorem befI_total {x y : ItemK} (h : x.2.2 ≠ y.2.2) (hn : befI y x = false) : befI x y = true := by
  unfold befI at *
  by_cases e : x.2.1 = y.2.1
  · rw [if_pos e.symm] at hn
    rw [if_pos e]
    unfold lessK at *
    simp only [decide_eq_true_eq, decide_eq_false_iff_not] at *
    have := cmpB_neg x.2.2 y.2.2
    have : cmpB x.2.2 y.2.2 ≠ 0 := fun z => h (cmpB_zero z)
    omega
  · rw [if_neg (fun z => e z.symm)] at hn
    rw [if_neg e]
    simp only [decide_eq_true_eq, decide_eq_false_iff_not] at *
    omega
/-- The order of the turned items is the order of the items. -/
theorem turned_ord {l : List ItemK} {turn : Nat} {o : List Nat} (hd : DiffK l) (ho : Ordd (befN befI (turned l turn l.length)) l.length o) : Ordd (befN befI l) l.length (o.map (turnP l.length turn)) := by
  have hg : ∀ i, i < l.length → (turned l turn l.length).getD i default = l.getD (turnP l.length turn i) default := fun i hi => by
    rw [List.getD_eq_getElem?_getD, List.getElem?_eq_getElem (by rw [turned_len]; exact hi)]
    simp [turned]
  have hinj : (o.map (turnP l.length turn)).Nodup := by
    rw [List.Nodup, List.pairwise_map]
    refine ho.nodup.imp_of_mem fun {a b} ha hb hab e => hab (turnP_inj (ho.mem.1 ha) (ho.mem.1 hb) e)
  refine ⟨(List.perm_ext_iff_of_nodup hinj List.nodup_range).2 fun j => ⟨fun hj => ?_, fun hj => ?_⟩, ?_⟩
  · obtain ⟨i, hi, rfl⟩ := List.mem_map.1 hj
    have := ho.mem.1 hi
    exact List.mem_range.2 (turnP_lt (by omega))
  · refine Classical.byContradiction fun hn => ?_
    have := nodup_le (m := j :: o.map (turnP l.length turn)) (l := List.range l.length) (List.nodup_cons.2 ⟨hn, hinj⟩) fun x hx => by
      rcases List.mem_cons.1 hx with rfl | hx
      · exact hj
      · obtain ⟨i, hi, rfl⟩ := List.mem_map.1 hx
        have := ho.mem.1 hi
        exact List.mem_range.2 (turnP_lt (by omega))
    have hl := ho.len
    simp at this
    omega
  · rw [List.pairwise_map]
    refine List.Pairwise.imp_of_mem (fun {a b} ha hb hab => ?_) (List.Pairwise.and ho.srt ho.nodup)
    obtain ⟨hab, hne⟩ := hab
    have ha := ho.mem.1 ha
    have hb := ho.mem.1 hb
    unfold Befs befN at hab
    rw [hg a ha, hg b hb] at hab
    rcases hab with h | ⟨h, _⟩
    · exact .inl h
    · left
      have la := turnP_lt (n := l.length) (turn := turn) (i := a) (by omega)
      have lb := turnP_lt (n := l.length) (turn := turn) (i := b) (by omega)
      unfold befN
      rw [List.getD_eq_getElem?_getD, List.getD_eq_getElem?_getD, List.getElem?_eq_getElem la, List.getElem?_eq_getElem lb] at h ⊢
      simp only [Option.getD_some] at h ⊢
      exact befI_total (hd _ _ la lb fun e => hne (turnP_inj ha hb e)) h
/-- Cell by cell. -/
theorem turned_lay {cells : Nat} {l : List ItemK} {turn : Nat} {o o' : List Nat} (hd : DiffK l) (ho : Ordd (befN befI l) l.length o) (ho' : Ordd (befN befI (turned l turn l.length)) l.length o') : layI cells l o = (layI cells (turned l turn l.length) o').map (mapC (turnP l.length turn)) := by
  have e := ho.uniq (befN_swo befI_swo l) (turned_ord hd ho')
  subst e
  have hg : ∀ i, i < l.length → (turned l turn l.length).getD i default = l.getD (turnP l.length turn i) default := fun i hi => by
    rw [List.getD_eq_getElem?_getD, List.getElem?_eq_getElem (by rw [turned_len]; exact hi)]
    simp [turned]
  unfold layI layF
  have h0 : List.replicate cells (-1 : Int) = (List.replicate cells (-1)).map (mapC (turnP l.length turn)) := by rw [List.map_replicate]; rfl
  conv => lhs; rw [h0]
  rw [layF_map]
  congr 1
  refine layF_congr fun i hi => ?_
  rw [hg i (ho'.mem.1 hi)]
end Go.Proofs.Ytaopjdjbpamhhaa
/- Proved: the law function SlotsLays returns true for all its arguments. Conditions: items and numbers in memory. -/
namespace Go.Proofs.Ytaopjdjbpamhhaa
open Go Go.RowKit
set_option linter.unusedVariables false
set_option linter.unusedSimpArgs false

theorem l1lay_any {w : World} {cells : Int} {items : Value} {l : List ItemK} {D : Nat → Prop} (hs : SV itemEl D w items l) (hD : ∀ b, D b → b < w.heap.size) :
    Calls Try.prog 41 #[.int .i64 cells, items] w fun e w' => ∃ v L, e = .returned v ∧ IV (fun b => w.heap.size ≤ b) w' v L ∧ LayIs cells l L ∧ Kept Noneof w w' := by
  by_cases h : cells < 1 ∨ 1048576 < cells ∨ cells < (l.length : Int)
  · obtain ⟨a, c, rfl, _⟩ := hs
    refine (l1lay_bad h).mono ?_
    rintro e w' ⟨rfl, k⟩
    exact ⟨_, [], rfl, IV.nil _ _, .inl ⟨h, rfl⟩, k⟩
  · obtain ⟨n, rfl⟩ : ∃ n : Nat, cells = n := ⟨cells.toNat, by omega⟩
    refine (l1lay_calls hs (by omega) (by omega) (by omega) hD).mono ?_
    rintro e w' ⟨g, ord, rfl, ho, hown, k⟩
    have hlen : (layI n l ord).length = n := layF_length _ _ _
    have sv := hown.sv
    refine ⟨_, layI n l ord, rfl, sv.wide intEl_k fun b hb _ => hb.elim (fun h => h.elim) id, .inr ⟨by omega, by omega, by omega, ord, ho, by rw [Int.toNat_natCast]⟩, k⟩
theorem r1Lay_any {w : World} {cells : Int} {items : Value} {l : List ItemK} {D : Nat → Prop} (hs : SV itemEl D w items l) (hD : ∀ b, D b → b < w.heap.size) :
    Calls Try.prog 42 #[.int .i64 cells, items] w fun e w' => ∃ v L, e = .returned v ∧ IV (fun b => w.heap.size ≤ b) w' v L ∧ LayIs cells l L ∧ Kept Noneof w w' := by
  by_cases h : cells < 1 ∨ 1048576 < cells ∨ cells < (l.length : Int)
  · obtain ⟨a, c, rfl, _⟩ := hs
    refine (r1Lay_bad h).mono ?_
    rintro e w' ⟨rfl, rfl⟩
    exact ⟨_, [], rfl, IV.nil _ _, .inl ⟨h, rfl⟩, Kept.refl _ _⟩
  · obtain ⟨n, rfl⟩ : ∃ n : Nat, cells = n := ⟨cells.toNat, by omega⟩
    refine (r1Lay_calls hs (by omega) (by omega) (by omega) hD).mono ?_
    rintro e w' ⟨g, ord, rfl, ho, hown, k⟩
    have sv := hown.sv
    refine ⟨_, layI n l ord, rfl, sv.wide intEl_k fun b hb _ => hb.elim (fun h => h.elim) id, .inr ⟨by omega, by omega, by omega, ord, ho, by rw [Int.toNat_natCast]⟩, k⟩
theorem lys1_calls {w : World} {x : Int} : Calls Try.prog 43 #[.int .i64 x] w fun e w' => e = .returned (.int .i64 x) ∧ Kept Noneof w w' := by
  go_enter Try.func43, Try.ntmps43
  go_wp2
  go_ret
  exact ⟨rfl, Kept.refl _ _⟩
theorem lys2_calls {w : World} {x y : Int} : Calls Try.prog 44 #[.int .i64 x, .int .i64 y] w fun e w' => e = .returned (.bool (gtB x y)) ∧ Kept Noneof w w' := by
  have O := Lib.hid (show decide (y < x) = gtB x y from rfl)
  generalize gtB x y = r at *
  go_enter Try.func44, Try.ntmps44
  go_wp2
  go_ret
  exact ⟨by rw [← O.out]; rfl, Kept.refl _ _⟩
/-- The layout of numbers by the law's functions. -/
theorem lysN_any {w : World} {cells : Int} {items : Value} {l : List Int} {D : Nat → Prop} (hs : IV D w items l) (hr : i64s l) (hD : ∀ b, D b → b < w.heap.size) :
    Calls Try.prog 32 #[.int .i64 cells, items, .func (.func 43) #[] #[], .func (.func 44) #[] #[]] w fun e w' => ∃ v L, e = .returned v ∧ IV (fun b => w.heap.size ≤ b) w' v L ∧ LayIs cells (l.map plainK) L ∧ Kept Noneof w w' := by
  by_cases h : cells < 1 ∨ 1048576 < cells ∨ cells < (l.length : Int)
  · obtain ⟨a, c, rfl, _⟩ := hs
    refine (slLayout_int_bad h).mono ?_
    rintro e w' ⟨rfl, k⟩
    exact ⟨_, [], rfl, IV.nil _ _, .inl ⟨by rw [List.length_map]; exact h, rfl⟩, k⟩
  · obtain ⟨n, rfl⟩ : ∃ n : Nat, cells = n := ⟨cells.toNat, by omega⟩
    refine (slLayout_int_calls (w := w) (cells := n) (sf := 43) (bf := 44) (scb := #[]) (bcb := #[]) (items := items) (l := l) (st := fun x => x) (bef := gtB) (D := D) (X := Noneof) (J := fun _ _ => True) (I := fun _ => True) hs
      ⟨fun args w => enters_of Try.func43 (by kernel_rfl) rfl args w, fun i hi wx cs _ hr => by
        obtain rfl : cs = [.int .i64 l[i]] := hr
        refine (lys1_calls (x := l[i])).mono ?_
        rintro e w' ⟨rfl, kk⟩
        exact ⟨rfl, trivial, kk⟩, fun _ _ _ _ _ => trivial⟩
      ⟨fun args w => enters_of Try.func44 (by kernel_rfl) rfl args w, fun wx cs ds x y _ hr hr' => by
        obtain rfl : cs = [.int .i64 x] := hr
        obtain rfl : ds = [.int .i64 y] := hr'
        refine (lys2_calls (x := x) (y := y)).mono ?_
        rintro e w' ⟨rfl, kk⟩
        exact ⟨rfl, trivial, kk⟩, gtB_swo, fun _ _ _ _ => trivial⟩
      trivial (fun _ _ => trivial) (by omega) (by omega) (by omega) (fun _ h => h.elim) (fun _ _ h => h) hD).mono ?_
    rintro e w' ⟨g, ord, rfl, ho, hown, _, k⟩
    have sv := hown.sv
    exact ⟨_, _, rfl, sv.wide intEl_k fun b hb _ => hb.elim (fun h => h.elim) id, layIs_plain hr (by omega) (by omega) (by omega) ho, k⟩
theorem tItems : SlT Try.prog 57 61 3 40 (.agg #[.int .i64 0, .int .u64 0, .slice none 0 0]) := SlT.of (by kernel_rfl) (by kernel_rfl) rfl (by decide)

set_option maxRecDepth 100000 in
set_option maxHeartbeats 8000000 in
theorem slotsLays_walk {w : World} {cells : Int} {items nums : Value} {l : List ItemK} {ns : List Int} {D1 D2 : Nat → Prop} (h1 : SV itemEl D1 w items l) (h2 : IV D2 w nums ns) (hr : i64s ns) :
    Calls Try.prog 7 #[.int .i64 cells, items, nums] w fun e w' => e = .returned (.bool true) ∧ Kept Noneof w w' := by
  have H1 := Lib.hid (h1.bd itemEl_k)
  have H2 := Lib.hid (h2.bd intEl_k)
  have RN := Lib.hid hr
  obtain ⟨a, c, rfl, ⟨hc, _⟩, hm, _⟩ := h1
  obtain ⟨a', c', rfl, ⟨hc', _⟩, hm', _⟩ := h2
  clear hr
  by_cases b1 : 400 < l.length
  · have b1' : (400 : Int) < (l.length : Int) := by omega
    go_enter Try.func7, Try.ntmps7
    go_wp2_with fail
    refine (l1awake_calls _).mono ?_
    rintro e w1 ⟨rfl, k1⟩
    have K := Lib.hid k1
    clear k1
    go_wp2
    go_ret
    exact ⟨rfl, K.out⟩
  · by_cases b2 : 400 < ns.length
    · have b1' : ¬ (400 : Int) < (l.length : Int) := by omega
      have b2' : (400 : Int) < (ns.length : Int) := by omega
      go_enter Try.func7, Try.ntmps7
      go_wp2_with fail
      refine (l1awake_calls _).mono ?_
      rintro e w1 ⟨rfl, k1⟩
      have K := Lib.hid k1
      clear k1
      go_wp2
      go_ret
      exact ⟨rfl, K.out⟩
    · by_cases b3 : 2000 < cells ∧ cells ≤ 1048576
      · have b1' : ¬ (400 : Int) < (l.length : Int) := by omega
        have b2' : ¬ (400 : Int) < (ns.length : Int) := by omega
        obtain ⟨b3', b4⟩ := b3
        have b4' : decide (cells ≤ 1048576) = true := decide_eq_true b4
        clear b4
        go_enter Try.func7, Try.ntmps7
        go_wp2_with fail
        refine (l1awake_calls _).mono ?_
        rintro e w1 ⟨rfl, k1⟩
        have K := Lib.hid k1
        clear k1
        go_wp2
        go_ret
        exact ⟨rfl, K.out⟩
      · have b1' : ¬ (400 : Int) < (l.length : Int) := by omega
        have b2' : ¬ (400 : Int) < (ns.length : Int) := by omega
        have b2n : ns.length ≤ 400 := by omega
        by_cases c1 : 2000 < cells
        focus
          have c2 : decide (cells ≤ 1048576) = false := decide_eq_false (by omega)
          clear b3
          go_enter Try.func7, Try.ntmps7
          go_wp2_with fail
        rotate_left
        focus
          clear b3
          go_enter Try.func7, Try.ntmps7
          go_wp2_with fail
        rotate_left
        all_goals
          try clear c2
          try clear b1 b1' b2'
          refine (l1lay_any H1.out fun b h => h.2).mono ?_
          rintro e w1 ⟨v1, L1, rfl, i1, y1, k1⟩
          have I1 := Lib.hid i1
          have Y1 := Lib.hid y1
          have K1 := Lib.hid k1
          clear i1 y1 k1
          go_wp2_with fail
          refine (r1Lay_any (H1.out.still' K1.out itemEl_k) fun b h => Nat.lt_of_lt_of_le h.2 K1.out.size).mono ?_
          rintro e w2 ⟨v2, L2, rfl, i2, y2, k2⟩
          obtain rfl := Y1.out.uniq y2
          have I2 := Lib.hid i2
          have K2 := Lib.hid (K1.out.tr k2)
          replace I1 := Lib.hid (I1.out.still' k2 intEl_k)
          clear i2 y2 k2 K1 Y1
          go_wp2_with fail
          refine (l1same_calls I1.out I2.out).mono ?_
          rintro e w3 ⟨rfl, d3⟩
          rw [decide_eq_true (show L1 = L1 from rfl)]
          have K3 := Lib.hid (K2.out.drewn d3)
          clear d3 K2 I1 I2
          go_wp2_with fail
          have ol := Own.lit0 61 itemEl Noneof w3
          have k4 := (Kept.refl Noneof w3).alloc (.cells #[] 61)
          have OL := Lib.hid (show Own 61 itemEl Noneof w3.heap.size (w3.alloc (.cells #[] 61)) (.slice (some ⟨w3.heap.size, 0, none⟩) 0 0) ((ns.take 0).map plainK) from ol)
          have K4 := Lib.hid (K3.out.tr k4)
          have S4 := Lib.hid k4.size
          clear ol k4
          go_loopw [7, 8] (fun v kv wr => ∃ k : Nat, k ≤ ns.length ∧ kv = .int .i64 k ∧ Hid (Own 61 itemEl Noneof w3.heap.size wr v ((ns.take k).map plainK)) ∧ Hid (Kept Noneof w wr) ∧ Hid (w3.heap.size ≤ wr.heap.size)) (fun _ kv _ => ns.length - (intOf kv).toNat)
          case atStart => exact ⟨0, Nat.zero_le _, rfl, OL, K4, S4⟩
          clear OL K4 S4
          obtain ⟨k, hk, rfl, O, KW, SZ⟩ := hrel
          obtain ⟨oa, on, oc, rfl⟩ := O.out.slice'
          by_cases hlt : k < ns.length
          · have hlt' : (k : Int) < (ns.length : Int) := by omega
            obtain ⟨_, _, hsl, _, _, rd⟩ := H2.out.still' KW.out intEl_k
            simp only [Value.slice.injEq] at hsl
            obtain ⟨rfl, -, rfl⟩ := hsl
            obtain ⟨b, o, rfl, db, e0⟩ := Rd.int rd hlt
            have SN := Lib.hid (show (ns.take k).map plainK ++ [plainK ns[k]] = (ns.take (k + 1)).map plainK by rw [List.take_add_one, List.getElem?_eq_getElem hlt, List.map_append]; rfl)
            have LE := Lib.hid (show ((ns.take k).map plainK).length ≤ 400 by rw [List.length_map, List.length_take]; omega)
            have RK := Lib.hid (show bits .xor .u64 (IntKind.u64.wrap ns[k]) 9223372036854775808 = rankN ns[k] from rfl)
            have GB := Lib.hid O.out.lt
            generalize ns[k] = x at *
            have DB := Lib.hid db.2
            clear rd db
            go_wp2_with fail
            refine wp_region_chain 14 [12, 13] (fun w' => w'.cell? ⟨b, o + k, none⟩ = some (.int .i64 x)) (by kernel_rfl) (by kernel_rfl) ?_ ?_
            · exact e0
            refine SeqW.out ?_
            simp only [List.take_succ_cons, List.take_zero, List.drop_succ_cons, List.drop_zero]
            have kd := (Kept.refl Noneof wr).drew
            replace e0 := kd.cell (p := ⟨b, o + k, none⟩) (fun h => h) e0
            replace O := Lib.hid (O.out.kept kd fun _ h => h.elim)
            replace KW := Lib.hid (KW.out.tr kd)
            replace SZ := Lib.hid (Nat.le_trans SZ.out kd.size)
            generalize wr.drew = wd at *
            clear kd
            iterate 12 (refine SeqW.val (v := ?_) (by rfl) (by rfl) (fun wx hSw => ?_) ?_; rotate_left; (focus ((try dsimp only at hSw); go_simp; (try with_reducible rfl))); (try simp only [Act.put, List.setIfInBounds_toArray, List.set_cons_zero, List.set_cons_succ]))
            rw [RK.out]
            refine SeqW.act (by rfl) rfl (by rfl) (by rfl) (fun K hK => ?_)
            go_simp
            have kA := (Kept.refl Noneof wd).alloc (.cells #[.int .i64 x, .int .u64 (rankN x), .slice none 0 0] 61)
            have qA := heap_alloc_new wd (.cells #[.int .i64 x, .int .u64 (rankN x), .slice none 0 0] 61)
            have sA : (wd.alloc (.cells #[.int .i64 x, .int .u64 (rankN x), .slice none 0 0] 61)).heap.size = wd.heap.size + 1 := by simp
            refine hK.out _ _ (kA.cell (p := ⟨b, o + k, none⟩) (fun h => h) e0) ?_
            replace e0 := kA.cell (p := ⟨b, o + k, none⟩) (fun h => h) e0
            have GB2 := Lib.hid O.out.lt
            replace O := Lib.hid (O.out.kept kA fun _ h => h.elim)
            replace KW := Lib.hid (KW.out.tr kA)
            replace SZ := Lib.hid (Nat.le_trans SZ.out kA.size)
            generalize wd.alloc (.cells #[.int .i64 x, .int .u64 (rankN x), .slice none 0 0] 61) = wa at *
            clear K hK kA
            (try simp only [Act.put, List.setIfInBounds_toArray, List.set_cons_zero, List.set_cons_succ])
            refine SeqW.act (by rfl) rfl (by rfl) (by rfl) (fun K hK => ?_)
            refine wp_app_one (E := itemEl) (D := Noneof) (D' := Noneof) (.tmp 42) (.tmp 54) _ rfl tItems _ _ rfl O.out wd.heap.size [.int .i64 x, .int .u64 (rankN x), .slice none 0 0] (plainK x) rfl ⟨_, _, qA⟩ ⟨_, rfl, BV.nil _ _⟩ (fun _ h => h.elim) (by have := LE.out; omega) (by omega) SZ.out ?_
            intro v5 w5 ho5 k5 b5
            rw [SN.out] at ho5
            have O5 := Lib.hid ho5
            have hbw : ¬ (Value.slice oa on oc).ownBlock = some b := fun e => by have := (O.out.lt b e).1; have := DB.out; have := K3.out.size; omega
            have K5 := Lib.hid (KW.out.trans k5 fun b e => .inr (by have := (O.out.lt b e).1; have := K3.out.size; omega))
            have S5 := Lib.hid (Nat.le_trans SZ.out k5.size)
            refine hK.out _ _ (k5.cell (p := ⟨b, o + k, none⟩) hbw e0) ?_
            clear K hK ho5 k5 b5 hbw O KW SZ e0
            (try simp only [Act.put, List.setIfInBounds_toArray, List.set_cons_zero, List.set_cons_succ])
            refine SeqW.nil ?_
            go_wp2
            go_roundw
            case rel => exact ⟨k + 1, by omega, by go_num, O5, K5, S5⟩
            case measure => simp [intOf]; omega
          · obtain rfl : k = ns.length := by omega
            have OP := Lib.hid (show Own 61 itemEl Noneof w3.heap.size wr (.slice oa on oc) (ns.map plainK) by
              have := O.out
              rwa [List.take_of_length_le (Nat.le_refl _)] at this)
            clear O hlt
            go_wp2_with fail
            refine (lysN_any (H2.out.still' KW.out intEl_k) RN.out fun b h => Nat.lt_of_lt_of_le h.2 KW.out.size).mono ?_
            rintro e w5 ⟨v5, L5, rfl, i5, y5, k5⟩
            have I5 := Lib.hid i5
            have Y5 := Lib.hid y5
            have K5 := Lib.hid (KW.out.tr k5)
            replace OP := Lib.hid (OP.out.kept k5 fun _ h => h.elim)
            clear i5 y5 k5 KW
            go_wp2_with fail
            refine (r1Lay_any (OP.out.sv.bd itemEl_k) fun b h => h.2).mono ?_
            rintro e w6 ⟨v6, L6, rfl, i6, y6, k6⟩
            obtain rfl := Y5.out.uniq y6
            have I6 := Lib.hid i6
            have K6 := Lib.hid (K5.out.tr k6)
            replace I5 := Lib.hid (I5.out.still' k6 intEl_k)
            clear i6 y6 k6 K5 Y5 OP
            go_wp2_with fail
            refine (l1same_calls I5.out I6.out).mono ?_
            rintro e w7 ⟨rfl, d7⟩
            rw [decide_eq_true (show L5 = L5 from rfl)]
            have K7 := Lib.hid (K6.out.drewn d7)
            clear d7 K6 I5 I6
            go_wp2_with fail
            refine (slLayout_int_nost).mono ?_
            rintro e w8 ⟨rfl, k8⟩
            have K8 := Lib.hid (K7.out.tr k8)
            clear k8 K7
            go_wp2_with fail
            refine (l1awake_calls _).mono ?_
            rintro e w9 ⟨rfl, k9⟩
            have K9 := Lib.hid (K8.out.tr k9)
            clear k9 K8
            go_wp2_with fail
            refine (slLayout_r1Item_nobe).mono ?_
            rintro e wA ⟨rfl, kA⟩
            have KA := Lib.hid (K9.out.tr kA)
            clear kA K9
            go_wp2
            go_ret
            exact ⟨rfl, KA.out⟩
end Go.Proofs.Ytaopjdjbpamhhaa
/- Proved: the law function SlotsOneLayout returns true for all its arguments. Conditions: items in memory. -/
namespace Go.Proofs.Ytaopjdjbpamhhaa
open Go Go.RowKit
set_option linter.unusedVariables false
set_option linter.unusedSimpArgs false

/-- Where the items come from. -/
def placeL (n turn k : Nat) : List Int := (List.range k).map fun i => (turnP n turn i : Int)
theorem placeL_len (n turn k : Nat) : (placeL n turn k).length = k := by simp [placeL]
theorem placeL_succ (n turn k : Nat) : placeL n turn k ++ [(turnP n turn k : Int)] = placeL n turn (k + 1) := by simp [placeL, List.range_succ]
/-- The key of an item. -/
def keyI (l : List ItemK) (i : Nat) : Bts := (l.getD i default).2.2
theorem keyI_at {l : List ItemK} {i : Nat} (h : i < l.length) : keyI l i = l[i].2.2 := by
  unfold keyI
  rw [List.getD_eq_getElem?_getD, List.getElem?_eq_getElem h]; rfl
theorem diffK_of {l : List ItemK} (h : ∀ i, i < l.length → ∀ k, k < i → keyI l i ≠ keyI l k) : DiffK l := by
  intro i j hi hj hij
  rw [← keyI_at hi, ← keyI_at hj]
  rcases Nat.lt_or_gt_of_ne hij with c | c
  · exact fun e => h j hj i c e.symm
  · exact h i hi j c

/-- The cells of the two layouts, side by side. -/
theorem one_cell {cs t n : Nat} {l : List ItemK} {o o' : List Nat} (hn : l.length = n) (h1 : 1 ≤ cs) (h2 : n ≤ cs) (hd : DiffK l) (ho : Ordd (befN befI l) l.length o) (ho' : Ordd (befN befI (turned l t n)) (turned l t n).length o') {c : Nat} (hc : c < cs) :
    ((layI cs l o).getD c (-1) = -1 ∧ (layI cs (turned l t n) o').getD c (-1) = -1) ∨ ∃ j, j < n ∧ (layI cs (turned l t n) o').getD c (-1) = (j : Nat) ∧ (layI cs l o).getD c (-1) = (turnP n t j : Nat) := by
  subst hn
  rw [turned_len] at ho'
  have e := turned_lay (cells := cs) hd ho ho'
  have hL : Laid cs (fun i => homeN cs ((turned l t l.length).getD i default).1) o' (layI cs (turned l t l.length) o') := layF_laid (by rw [ho'.len]; exact h2) ho'.nodup fun i _ => homeN_lt _ h1
  have hlen : (layI cs (turned l t l.length) o').length = cs := layF_length _ _ _
  rw [e]
  have hg : ∀ x, (layI cs (turned l t l.length) o').getD c (-1) = x → ((layI cs (turned l t l.length) o').map (mapC (turnP l.length t))).getD c (-1) = mapC (turnP l.length t) x := fun x hx => by
    rw [List.getD_eq_getElem?_getD, List.getElem?_map]
    rw [List.getD_eq_getElem?_getD, List.getElem?_eq_getElem (by rw [hlen]; exact hc)] at hx
    rw [List.getElem?_eq_getElem (by rw [hlen]; exact hc)]
    simp only [Option.getD_some, Option.map_some] at hx ⊢
    rw [hx]
  rcases hL.cell c hc with h | ⟨i, hi, h⟩
  · exact .inl ⟨by rw [hg _ h]; rfl, h⟩
  · refine .inr ⟨i, ho'.mem.1 hi, h, ?_⟩
    rw [hg _ h, mapC, if_neg (by omega), Int.toNat_natCast]
theorem fullN_step {out : List Int} {c : Nat} (h : c < out.length) : fullN (out.take (c + 1)) = fullN (out.take c) + if 0 ≤ out[c] then 1 else 0 := by
  unfold fullN
  rw [List.take_add_one, List.getElem?_eq_getElem h, List.countP_append]
  simp only [Option.toList_some, List.countP_cons, List.countP_nil, Nat.zero_add]
  congr 1
  by_cases hc : 0 ≤ out[c] <;> simp [hc]

set_option maxRecDepth 100000 in
set_option maxHeartbeats 16000000 in
theorem slotsOneLayout_walk {w : World} {cells tr : Int} {items : Value} {l : List ItemK} {D1 : Nat → Prop} (h1 : SV itemEl D1 w items l) (h0 : 0 ≤ tr) (h255 : tr ≤ 255) :
    Calls Try.prog 9 #[.int .i64 cells, items, .int .u8 tr] w fun e w' => e = .returned (.bool true) ∧ Kept Noneof w w' := by
  have H1 := Lib.hid (h1.bd itemEl_k)
  obtain ⟨a, c, rfl, ⟨hc, _⟩, hm, _⟩ := h1
  obtain ⟨n, hn⟩ : ∃ n, l.length = n := ⟨_, rfl⟩
  rw [hn] at hc hm ⊢
  replace hn := Lib.hid hn
  by_cases b1 : 200 < n
  · have b1' : (200 : Int) < (n : Int) := by omega
    clear b1
    go_enter Try.func9, Try.ntmps9
    go_wp2_with fail
    (refine (l1awake_calls _).mono ?_; rintro e w1 ⟨rfl, k1⟩; have K := Lib.hid k1; clear k1; go_wp2; go_ret; exact ⟨rfl, K.out⟩)
  · have b1' : ¬ (200 : Int) < (n : Int) := by omega
    by_cases b2 : cells < 1
    · clear b1
      go_enter Try.func9, Try.ntmps9
      go_wp2_with fail
      (refine (l1awake_calls _).mono ?_; rintro e w1 ⟨rfl, k1⟩; have K := Lib.hid k1; clear k1; go_wp2; go_ret; exact ⟨rfl, K.out⟩)
    · by_cases b3 : 2000 < cells
      · clear b1
        go_enter Try.func9, Try.ntmps9
        go_wp2_with fail
        (refine (l1awake_calls _).mono ?_; rintro e w1 ⟨rfl, k1⟩; have K := Lib.hid k1; clear k1; go_wp2; go_ret; exact ⟨rfl, K.out⟩)
      · by_cases b4 : cells < (n : Int)
        · clear b1
          go_enter Try.func9, Try.ntmps9
          go_wp2_with fail
          (refine (l1awake_calls _).mono ?_; rintro e w1 ⟨rfl, k1⟩; have K := Lib.hid k1; clear k1; go_wp2; go_ret; exact ⟨rfl, K.out⟩)
        · obtain ⟨cs, rfl⟩ : ∃ cs : Nat, cells = cs := ⟨cells.toNat, by omega⟩
          obtain ⟨t, rfl⟩ : ∃ t : Nat, tr = t := ⟨tr.toNat, by omega⟩
          have c1 : 1 ≤ cs := by omega
          have c2 : cs ≤ 2000 := by omega
          have c3 : n ≤ cs := by omega
          have c4 : n ≤ 200 := by omega
          go_enter Try.func9, Try.ntmps9
          go_wp2_with fail
          clear b1 b1' b2 b3 b4
          go_loopw [8] (fun iv wr => ∃ i : Nat, i ≤ n ∧ iv = .int .i64 i ∧ Hid (∀ j, j < i → ∀ k, k < j → keyI l j ≠ keyI l k) ∧ Hid (Kept Noneof w wr)) (fun iv _ => n - (intOf iv).toNat)
          case atStart => exact ⟨0, Nat.zero_le _, rfl, Lib.hid (fun _ h => by omega), Lib.hid (Kept.refl _ _)⟩
          obtain ⟨i, hi, rfl, DF, KW⟩ := hrel
          by_cases hlt : i < n
          · have hlt' : (i : Int) < (n : Int) := by omega
            have hil : i < l.length := by rw [hn.out]; exact hlt
            go_wp2_with fail
            go_loopw [9] (fun kv wr => ∃ k : Nat, k ≤ i ∧ kv = .int .i64 k ∧ Hid (∀ k', k' < k → keyI l i ≠ keyI l k') ∧ Hid (Kept Noneof w wr)) (fun kv _ => i - (intOf kv).toNat)
            case atStart => exact ⟨0, Nat.zero_le _, rfl, Lib.hid (fun _ h => by omega), KW⟩
            clear KW
            obtain ⟨k, hk, rfl, DK, KW⟩ := hrel
            by_cases hki : k < i
            · have hki' : (k : Int) < (i : Int) := by omega
              have hkl : k < l.length := by omega
              have hkn : (k : Int) < (n : Int) := by omega
              have KI := Lib.hid (keyI_at hil)
              have KK := Lib.hid (keyI_at hkl)
              have hsv := H1.out.still' KW.out itemEl_k
              rw [hn.out] at hsv
              obtain ⟨_, _, hsl, _, _, rd⟩ := hsv
              simp only [Value.slice.injEq] at hsl
              obtain ⟨rfl, -, rfl⟩ := hsl
              obtain ⟨b, o1, vp, rfl, _, _, _, p2, hvp⟩ := Rd.item rd hil
              obtain ⟨b', o', vq, e', _, _, _, q2, hvq⟩ := Rd.item rd hkl
              simp only [Option.some.injEq, Addr.mk.injEq, and_true] at e'
              obtain ⟨rfl, rfl⟩ := e'
              have HP := Lib.hid hvp
              have HQ := Lib.hid hvq
              generalize l[i] = xp at *
              generalize l[k] = xq at *
              clear rd hvp hvq hil hkl
              go_wp2_with fail
              refine wp_region_chain 11 [10] (fun w' => w'.cell? ⟨b, o1 + i * 3 + 2, none⟩ = some vp ∧ w'.cell? ⟨b, o1 + k * 3 + 2, none⟩ = some vq) (by kernel_rfl) (by kernel_rfl) ?_ ?_
              · exact ⟨p2, q2⟩
              refine SeqW.out ?_
              simp only [List.take_succ_cons, List.take_zero, List.drop_succ_cons, List.drop_zero]
              have kd := (Kept.refl Noneof wr).drew
              replace p2 := kd.cell (p := ⟨b, o1 + i * 3 + 2, none⟩) (fun h => h) p2
              replace q2 := kd.cell (p := ⟨b, o1 + k * 3 + 2, none⟩) (fun h => h) q2
              replace KW := Lib.hid (KW.out.tr kd)
              replace HP := Lib.hid (HP.out.still' kd)
              replace HQ := Lib.hid (HQ.out.still' kd)
              generalize wr.drew = wd at *
              clear kd
              iterate 10 (refine SeqW.val (v := ?_) (by rfl) (by rfl) (fun wx hSw => ?_) ?_; rotate_left; (focus ((try dsimp only at hSw); go_simp; (try with_reducible rfl))); (try simp only [Act.put, List.setIfInBounds_toArray, List.set_cons_zero, List.set_cons_succ]))
              refine SeqW.act (by rfl) rfl (by rfl) (by rfl) (fun K hK => ?_)
              go_simp
              refine (r1Same_calls HP.out HQ.out).mono ?_
              rintro e we ⟨rfl, de⟩
              have ke := (Kept.refl Noneof wd).drewn de
              refine hK.out _ _ ⟨ke.cell (p := ⟨b, o1 + i * 3 + 2, none⟩) (fun h => h) p2, ke.cell (p := ⟨b, o1 + k * 3 + 2, none⟩) (fun h => h) q2⟩ ?_
              replace KW := Lib.hid (KW.out.tr ke)
              clear K hK de ke p2 q2 HP HQ
              (try simp only [Act.put, List.setIfInBounds_toArray, List.set_cons_zero, List.set_cons_succ])
              refine SeqW.nil ?_
              by_cases he : xp.2.2 = xq.2.2
              · have hd : decide (xp.2.2 = xq.2.2) = true := decide_eq_true he
                rw [hd]
                clear he hd
                go_wp2_with fail
                (refine (l1awake_calls _).mono ?_; rintro e w1 ⟨rfl, k1⟩; have K := Lib.hid (KW.out.tr k1); clear k1; go_wp2; go_ret; exact ⟨rfl, K.out⟩)
              · have hd : decide (xp.2.2 = xq.2.2) = false := decide_eq_false he
                rw [hd]
                have DN := Lib.hid (show ∀ k', k' < k + 1 → keyI l i ≠ keyI l k' from fun k' h => by
                  rcases Nat.lt_or_ge k' k with h2 | h2
                  · exact DK.out k' h2
                  · obtain rfl : k' = k := by omega
                    rw [KI.out, KK.out]; exact he)
                clear he hd
                go_wp2
                go_roundw
                case rel => exact ⟨k + 1, by omega, by go_num, DN, KW⟩
                case measure => simp [intOf]; omega
            · obtain rfl : i = k := by omega
              have DN := Lib.hid (show ∀ j, j < i + 1 → ∀ k, k < j → keyI l j ≠ keyI l k from fun j h => by
                rcases Nat.lt_or_ge j i with h2 | h2
                · exact DF.out j h2
                · obtain rfl : j = i := by omega
                  exact DK.out)
              go_wp2
              go_roundw
              case rel => exact ⟨i + 1, by omega, by go_num, DN, KW⟩
              case measure => simp [intOf]; omega
          · obtain rfl : n = i := by omega
            have DD := Lib.hid (diffK_of (l := l) (by rw [hn.out]; exact DF.out))
            clear DF hlt hi
            go_wp2_with fail
            have ol := Own.lit0 61 itemEl (fun b => D1 b ∧ b < w.heap.size) wr
            have k4 := (Kept.refl Noneof wr).alloc (.cells #[] 61)
            have s4 : (wr.alloc (.cells #[] 61)).heap.size = wr.heap.size + 1 := by simp
            have oi := Own.lit0 3 intEl Noneof (wr.alloc (.cells #[] 61))
            rw [s4] at oi
            have k5 := (Kept.refl Noneof (wr.alloc (.cells #[] 61))).alloc (.cells #[] 3)
            have OL := Lib.hid (show Own 61 itemEl (fun b => D1 b ∧ b < w.heap.size) wr.heap.size ((wr.alloc (.cells #[] 61)).alloc (.cells #[] 3)) (.slice (some ⟨wr.heap.size, 0, none⟩) 0 0) (turned l t 0) from ol.kept k5 fun _ h => h.elim)
            have OI := Lib.hid (show Own 3 intEl Noneof wr.heap.size ((wr.alloc (.cells #[] 61)).alloc (.cells #[] 3)) (.slice (some ⟨wr.heap.size + 1, 0, none⟩) 0 0) (placeL n t 0) from oi.base (by omega))
            have K5 := Lib.hid ((KW.out.tr k4).tr k5)
            have S0 := Lib.hid (show w.heap.size ≤ wr.heap.size from KW.out.size)
            have NE0 := Lib.hid (show ∀ b, (Value.slice (some ⟨wr.heap.size, 0, none⟩) 0 0).ownBlock = some b → (Value.slice (some ⟨wr.heap.size + 1, 0, none⟩) 0 0).ownBlock ≠ some b from fun b e1 e2 => by
              have h1 : wr.heap.size = b := (by simpa [Value.ownBlock] using e1)
              have h2 : wr.heap.size + 1 = b := (by simpa [Value.ownBlock] using e2)
              omega)
            have B0 := Lib.hid (show wr.heap.size ≤ ((wr.alloc (.cells #[] 61)).alloc (.cells #[] 3)).heap.size from Nat.le_trans k4.size k5.size)
            clear ol k4 s4 oi k5 KW
            generalize (wr.alloc (.cells #[] 61)).alloc (.cells #[] 3) = w5 at *
            generalize wr.heap.size = B at *
            go_loopw [10, 11, 12] (fun v u iv wr => ∃ i : Nat, i ≤ n ∧ iv = .int .i64 i ∧ Hid (Own 61 itemEl (fun b => D1 b ∧ b < w.heap.size) B wr v (turned l t i)) ∧ Hid (Own 3 intEl Noneof B wr u (placeL n t i)) ∧ Hid (Kept Noneof w wr) ∧ Hid (∀ b, v.ownBlock = some b → u.ownBlock ≠ some b) ∧ Hid (B ≤ wr.heap.size)) (fun _ _ iv _ => n - (intOf iv).toNat)
            case atStart => exact ⟨0, Nat.zero_le _, rfl, OL, OI, K5, NE0, B0⟩
            clear OL OI K5 NE0 B0
            obtain ⟨i, hi, rfl, O, OI, KW, NE, BS⟩ := hrel
            obtain ⟨oa, on, oc, rfl⟩ := O.out.slice'
            obtain ⟨ia, inn, ic, rfl⟩ := OI.out.slice'
            by_cases hlt : i < n
            · have hlt' : (i : Int) < (n : Int) := by omega
              have hnz : ((n : Int) == 0) = false := by simp; omega
              have ml := Lib.hid (turnP_lt (n := n) (turn := t) (i := i) (by omega))
              have TE := Lib.hid (show turnP n t i = if t % 2 = 1 then n - 1 - (i + t / 2) % n else (i + t / 2) % n from rfl)
              have QL := Lib.hid (Nat.mod_lt (i + t / 2) (show 0 < n by omega))
              have e1 : ((i : Int) + (t : Int) / 2) % (n : Int) = (((i + t / 2) % n : Nat) : Int) := by push_cast; rfl
              replace e1 := Lib.hid e1
              have wu : IntKind.i64.wrap ((t : Int) / 2) = (t : Int) / 2 := IntWalk.i64_in _ ⟨by omega, by omega⟩
              go_upto_region 17 with (fail)
              rw [e1.out]
              clear e1 wu hnz
              generalize (i + t / 2) % n = q at *
              obtain ⟨m, hme⟩ : ∃ m, turnP n t i = m := ⟨_, rfl⟩
              have PS := Lib.hid (placeL_succ n t i)
              have hml : turnP l.length t i < l.length := by rw [hn.out]; exact ml.out
              have TS := Lib.hid (turned_succ hml)
              have hmn : m < n := by rw [← hme]; exact ml.out
              have hmL : m < l.length := by rw [hn.out]; exact hmn
              have TS2 := Lib.hid (show turned l t i ++ [l[m]] = turned l t (i + 1) by
                rw [← TS.out]
                congr 2
                simp only [hn.out, hme])
              rw [hme] at TE PS
              clear TS hml ml hme
              have hq := QL.out
              have hte := TE.out
              clear TE QL
              by_cases odd : t % 2 = 1
              focus
                have o1 : ((t : Int) % 2 == 1) = true := by simp; omega
                have e2 : ((n : Int) - 1 - (q : Int)) = (m : Int) := by rw [if_pos odd] at hte; omega
                replace e2 := Lib.hid e2
                clear odd hte
                go_upto_region 19 with (fail)
                rw [e2.out]
                clear e2 o1
              rotate_left
              focus
                have o1 : ((t : Int) % 2 == 1) = false := by simp; omega
                rw [if_neg odd] at hte
                subst hte
                clear odd
                go_upto_region 19 with (fail)
                clear o1
              rotate_left
              all_goals
                clear hq
                have hsv := H1.out.still' KW.out itemEl_k
                rw [hn.out] at hsv
                obtain ⟨_, _, hsl, _, _, rd⟩ := hsv
                simp only [Value.slice.injEq] at hsl
                obtain ⟨rfl, -, rfl⟩ := hsl
                obtain ⟨b, o, vk, rfl, db, e0, e1, e2, hk⟩ := Rd.item rd hmL
                obtain ⟨ka, kn, kc, rfl⟩ := hk.sl
                have HK := Lib.hid hk
                generalize l[m] = x at *
                clear rd hk db
                have hmn' : (m : Int) < (n : Int) := by omega
                have ha1 : (wr.alloc (.cells #[.int .i64 x.1, .int .u64 x.2.1, .slice ka kn kc] 61)).heap.size = wr.heap.size + 1 := by simp
                have kA := Lib.hid ((Kept.refl Noneof wr).alloc (.cells #[.int .i64 x.1, .int .u64 x.2.1, .slice ka kn kc] 61))
                have qA := Lib.hid (heap_alloc_new wr (.cells #[.int .i64 x.1, .int .u64 x.2.1, .slice ka kn kc] 61))
                replace ha1 := Lib.hid ha1
                go_wp2_with (at_builtin; refine wl_app_one (E := itemEl) (D := fun b => D1 b ∧ b < w.heap.size) (D' := fun b => D1 b ∧ b < w.heap.size) rfl (.tmp 81) (.tmp 86) _ rfl tItems _ _ rfl (O.out.kept kA.out fun _ h => h.elim) wr.heap.size [.int .i64 x.1, .int .u64 x.2.1, .slice ka kn kc] x rfl ?c1 ?c2 ?c3 ?c4 ?c5 ?c6 ?_)
                case c1 => exact ⟨_, _, qA.out⟩
                case c2 => exact ⟨_, rfl, HK.out.still' kA.out⟩
                case c3 => exact fun b h _ => ⟨h, fun e => by have := (O.out.lt b e).1; have := S0.out; have := h.2; omega⟩
                case c4 => rw [turned_len]; omega
                case c5 => omega
                case c6 => have := BS.out; rw [ha1.out]; omega
                intro v5 w5 ho5 k5 b5
                rw [TS2.out] at ho5
                obtain ⟨oa5, on5, oc5, rfl⟩ := ho5.slice'
                have HO5 := Lib.hid ho5
                have B5 := Lib.hid b5
                have OI5 := Lib.hid ((OI.out.kept kA.out fun _ h => h.elim).kept k5 fun b h _ => ⟨fun h => h, NE.out b h⟩)
                have KW5 := Lib.hid ((KW.out.tr kA.out).trans k5 fun b e => .inr (by have := (O.out.lt b e).1; have := S0.out; omega))
                have BS5 := Lib.hid (show B ≤ w5.heap.size by have := k5.size; have := ha1.out; have := BS.out; omega)
                have SW5 := Lib.hid (show wr.heap.size ≤ w5.heap.size by have := k5.size; have := ha1.out; omega)
                clear ho5 k5 b5
                have ha2 := Lib.hid (show (w5.alloc (.cells #[.int .i64 m] 3)).heap.size = w5.heap.size + 1 by simp)
                have kB := Lib.hid ((Kept.refl Noneof w5).alloc (.cells #[.int .i64 m] 3))
                have qB := Lib.hid (heap_alloc_new w5 (.cells #[.int .i64 m] 3))
                go_wp2_with (at_builtin; refine wl_app_one (E := intEl) (D := Noneof) (D' := Noneof) rfl (.tmp 88) (.tmp 90) _ rfl tInts _ _ rfl (OI5.out.kept kB.out fun _ h => h.elim) w5.heap.size [.int .i64 (m : Int)] (m : Int) rfl ?c1 ?c2 ?c3 ?c4 ?c5 ?c6 ?_)
                case c1 => exact ⟨_, _, qB.out⟩
                case c2 => exact (rfl : _ = _)
                case c3 => exact fun _ h => h.elim
                case c4 => rw [placeL_len]; omega
                case c5 => omega
                case c6 => have := BS5.out; rw [ha2.out]; omega
                intro v7 w7 ho7 k7 b7
                rw [PS.out] at ho7
                have HO7 := Lib.hid ((HO5.out.kept kB.out fun _ h => h.elim).kept k7 fun b h _ => ⟨fun hd => by have := (OI.out.lt b h).1; have := S0.out; have := hd.2; omega, fun e => by
                  rcases B5.out b e with h2 | h2
                  · exact NE.out b h2 h
                  · have := (OI.out.lt b h).2; have := ha1.out; omega⟩)
                have NE7 := Lib.hid (show ∀ b, (Value.slice oa5 on5 oc5).ownBlock = some b → v7.ownBlock ≠ some b from fun b e1 e2 => by
                  have l5 := (HO5.out.lt b e1).2
                  rcases b7 b e2 with h2 | h2
                  · rcases B5.out b e1 with h3 | h3
                    · exact NE.out b h3 h2
                    · have := (OI.out.lt b h2).2; have := ha1.out; omega
                  · have := ha2.out; omega)
                have OI7 := Lib.hid ho7
                have KW7 := Lib.hid ((KW5.out.tr kB.out).trans k7 fun b e => .inr (by have := (OI.out.lt b e).1; have := S0.out; omega))
                have BS7 := Lib.hid (show B ≤ w7.heap.size by have := k7.size; have := ha2.out; have := BS5.out; omega)
                clear ho7 k7 b7 kA qA kB qB ha1 ha2 HO5 B5 OI5 KW5 BS5 SW5 HK O OI KW NE BS
                go_wp2
                go_roundw
                case rel => exact ⟨i + 1, by omega, by go_num, HO7, OI7, KW7, NE7, BS7⟩
                case measure => simp [intOf]; omega
            · obtain rfl : n = i := by omega
              clear hlt hi NE
              have SI := Lib.hid (show SV itemEl (fun b => D1 b ∧ b < w.heap.size) wr (.slice a n c) l by
                have := H1.out.still' KW.out itemEl_k
                rwa [hn.out] at this)
              go_wp2_with fail
              refine (l1lay_calls (l := l) SI.out c1 (by omega) (by rw [hn.out]; exact c3) fun b h => Nat.lt_of_lt_of_le h.2 KW.out.size).mono ?_
              rintro e w1 ⟨g1, ord1, rfl, ho1, hown1, k1⟩
              have OR1 := Lib.hid ho1
              have A1 := Lib.hid hown1
              have K1 := Lib.hid (KW.out.tr k1)
              replace O := Lib.hid (O.out.kept k1 fun _ h => h.elim)
              replace OI := Lib.hid (OI.out.kept k1 fun _ h => h.elim)
              clear ho1 hown1 k1 KW SI
              go_wp2_with fail
              refine (l1lay_calls (l := turned l t n) (O.out.sv.bd itemEl_k) c1 (by omega) (by rw [turned_len]; exact c3) fun b h => h.2).mono ?_
              rintro e w2 ⟨g2, ord2, rfl, ho2, hown2, k2⟩
              have OR2 := Lib.hid ho2
              have A2 := Lib.hid hown2
              have K2 := Lib.hid (K1.out.tr k2)
              replace A1 := Lib.hid (A1.out.kept k2 fun _ h => h.elim)
              replace OI := Lib.hid (OI.out.kept k2 fun _ h => h.elim)
              clear ho2 hown2 k2 K1 O
              have hLA : (layI cs l ord1).length = cs := layF_length _ _ _
              have hLB : (layI cs (turned l t n) ord2).length = cs := layF_length _ _ _
              have CE := Lib.hid (fun c (hc : c < cs) => one_cell hn.out c1 c3 DD.out OR1.out OR2.out hc)
              have FN := Lib.hid (show fullN (layI cs l ord1) = n by
                have h := layF_fullN (cells := cs) (home := fun i => homeN cs (l.getD i default).1) (l := ord1) (by rw [OR1.out.len, hn.out]; exact c3) OR1.out.nodup fun i _ => homeN_lt _ c1
                rw [OR1.out.len, hn.out] at h
                exact h)
              generalize layI cs l ord1 = LA at *
              generalize layI cs (turned l t n) ord2 = LB at *
              replace hLA := Lib.hid hLA
              replace hLB := Lib.hid hLB
              clear OR1 OR2 DD S0 H1
              go_wp2_with fail
              go_loopw [16, 17] (fun v iv wr => ∃ k : Nat, k ≤ cs ∧ v = .int .i64 (fullN (LA.take k) : Nat) ∧ iv = .int .i64 k ∧ Hid (Kept Noneof w2 wr)) (fun _ iv _ => cs - (intOf iv).toNat)
              case atStart => exact ⟨0, Nat.zero_le _, rfl, rfl, Lib.hid (Kept.refl _ _)⟩
              obtain ⟨k, hk, rfl, rfl, KR⟩ := hrel
              have FL := Lib.hid (show fullN (LA.take k) ≤ 2000 from Nat.le_trans List.countP_le_length (by rw [List.length_take]; omega))
              by_cases hlt : k < cs
              · have hlt' : (k : Int) < (cs : Int) := by omega
                have ea := ((A1.out.kept KR.out fun _ h => h.elim).islot (i := k) (by rw [hLA.out]; exact hlt)).1
                have eb := ((A2.out.kept KR.out fun _ h => h.elim).islot (i := k) (by rw [hLB.out]; exact hlt)).1
                have ce := CE.out k hlt
                have hka : k < LA.length := by rw [hLA.out]; exact hlt
                have hkb : k < LB.length := by rw [hLB.out]; exact hlt
                rw [List.getD_eq_getElem?_getD, List.getD_eq_getElem?_getD, List.getElem?_eq_getElem hka, List.getElem?_eq_getElem hkb] at ce
                simp only [Option.getD_some] at ce
                have FS := Lib.hid (fullN_step (out := LA) (c := k) hka)
                generalize hxa : LA[k] = xa at *
                generalize hxb : LB[k] = xb at *
                clear hxa hxb hka hkb
                obtain ⟨f, hf⟩ : ∃ f, fullN (LA.take k) = f := ⟨_, rfl⟩
                rw [hf] at FL FS ⊢
                clear hf
                rcases ce with ⟨rfl, rfl⟩ | ⟨j, hj, rfl, rfl⟩
                focus
                  have hn0 : decide ((n : Int) ≤ -1) = false := decide_eq_false (by omega)
                  go_wp2_with fail
                  refine wp_region_chain 62 [] (fun w' => w'.cell? ⟨g1, k, none⟩ = some (.int .i64 (-1)) ∧ w'.cell? ⟨g2, k, none⟩ = some (.int .i64 (-1))) (by kernel_rfl) (chain_mask [0, 0, 3, 7, 15, 31, 63, 63, 255, 511, 63, 2047, 4095, 8191, 16383, 16383, 65535, 131071, 262143, 524287, 1048575, 2097151, 2097151, 8388607, 16777215, 2097151, 67108863, 134217727, 268435455, 536870911, 536870911, 2147483647, 4294967295, 8589934591, 536870911, 536870911, 52076478463, 120795955199, 258234908671, 549755813887, 1099511627775, 2199023255551, 4398046511103, 4398046511103, 17592186044415, 35184372088831, 70368744177663, 140737488355327, 281474976710655, 281474976710655, 281474976710655, 1970324836974591, 4222124650659839, 9007199254740991, 18014398509481983, 281474976710655, 281474976710655, 108367866033602559, 252483054109458431, 576460752303423487, 1152921504606846975, 2305843009213693951] (by kernel_rfl)) ?_ ?_
                  · exact ⟨ea, eb⟩
                  refine SeqW.out ?_
                  simp only [List.take_succ_cons, List.take_zero, List.drop_succ_cons, List.drop_zero]
                  iterate 48 (refine SeqW.val (v := ?_) (by rfl) (by rfl) (fun wx hSw => ?_) ?_; rotate_left; (focus ((try dsimp only at hSw); go_simp; (try with_reducible rfl))); (try simp only [Act.put, List.setIfInBounds_toArray, List.set_cons_zero, List.set_cons_succ]))
                  iterate 12 (refine SeqW.skip (by rfl) ?_; (try simp only [Act.put, List.setIfInBounds_toArray, List.set_cons_zero, List.set_cons_succ]))
                  iterate 2 (refine SeqW.val (v := ?_) (by rfl) (by rfl) (fun wx hSw => ?_) ?_; rotate_left; (focus ((try dsimp only at hSw); go_simp; (try with_reducible rfl))); (try simp only [Act.put, List.setIfInBounds_toArray, List.set_cons_zero, List.set_cons_succ]))
                  refine SeqW.nil ?_
                  rw [if_neg (by omega), Nat.add_zero] at FS
                  replace KR := Lib.hid (KR.out.drew)
                  replace ea := (Kept.refl Noneof wr).drew.cell (p := ⟨g1, k, none⟩) (fun h => h) ea
                  have fl := FL.out
                  clear eb
                  go_wp2
                  go_roundw
                  case rel => exact ⟨k + 1, by omega, by rw [FS.out]; rfl, by go_num, KR⟩
                  case measure => simp [intOf]; omega
                focus
                  have hjn : (j : Int) < (n : Int) := by omega
                  have tl := turnP_lt (n := n) (turn := t) (i := j) (by omega)
                  have ej := ((OI.out.kept KR.out fun _ h => h.elim))
                  have ePL : (placeL n t n)[j]'(by rw [placeL_len]; exact hj) = (turnP n t j : Int) := by simp [placeL]
                  obtain ⟨g3, _, hv⟩ := ej.some' (fun h => by have := placeL_len n t n; rw [h] at this; simp at this; omega)
                  simp only [Value.slice.injEq] at hv
                  obtain ⟨rfl, rfl, rfl⟩ := hv
                  have eP := (ej.islot (i := j) (by rw [placeL_len]; exact hj)).1
                  rw [ePL] at eP
                  rw [placeL_len] at *
                  generalize turnP n t j = y at *
                  have f1 : decide ((y : Int) < -1) = false := decide_eq_false (by omega)
                  have f2 : decide ((n : Int) ≤ (y : Int)) = false := decide_eq_false (by omega)
                  have f8 : decide (n ≤ y) = false := decide_eq_false (by omega)
                  have f9 : decide (n ≤ j) = false := decide_eq_false (by omega)
                  have f3 : decide ((j : Int) < -1) = false := decide_eq_false (by omega)
                  have f4 : decide ((n : Int) ≤ (j : Int)) = false := decide_eq_false (by omega)
                  have f5 : decide ((y : Int) < 0) = false := decide_eq_false (by omega)
                  have f6 : decide ((j : Int) < 0) = false := decide_eq_false (by omega)
                  have f7 : decide (0 ≤ (y : Int)) = true := decide_eq_true (by omega)
                  go_wp2_with fail
                  refine wp_region_chain 62 [] (fun w' => w'.cell? ⟨g1, k, none⟩ = some (.int .i64 y) ∧ w'.cell? ⟨g2, k, none⟩ = some (.int .i64 j) ∧ w'.cell? ⟨g3, j, none⟩ = some (.int .i64 y)) (by kernel_rfl) (chain_mask [0, 0, 3, 7, 15, 31, 63, 63, 255, 511, 63, 2047, 4095, 8191, 16383, 16383, 65535, 131071, 262143, 524287, 1048575, 2097151, 2097151, 8388607, 16777215, 2097151, 67108863, 134217727, 268435455, 536870911, 536870911, 2147483647, 4294967295, 8589934591, 536870911, 536870911, 52076478463, 120795955199, 258234908671, 549755813887, 1099511627775, 2199023255551, 4398046511103, 4398046511103, 17592186044415, 35184372088831, 70368744177663, 140737488355327, 281474976710655, 281474976710655, 281474976710655, 1970324836974591, 4222124650659839, 9007199254740991, 18014398509481983, 281474976710655, 281474976710655, 108367866033602559, 252483054109458431, 576460752303423487, 1152921504606846975, 2305843009213693951] (by kernel_rfl)) ?_ ?_
                  · exact ⟨ea, eb, eP⟩
                  refine SeqW.out ?_
                  simp only [List.take_succ_cons, List.take_zero, List.drop_succ_cons, List.drop_zero]
                  iterate 62 (refine SeqW.val (v := ?_) (by rfl) (by rfl) (fun wx hSw => ?_) ?_; rotate_left; (focus ((try dsimp only at hSw); go_simp; (try with_reducible rfl))); (try simp only [Act.put, List.setIfInBounds_toArray, List.set_cons_zero, List.set_cons_succ]))
                  refine SeqW.nil ?_
                  rw [if_pos (by omega)] at FS
                  replace KR := Lib.hid (KR.out.drew)
                  replace ea := (Kept.refl Noneof wr).drew.cell (p := ⟨g1, k, none⟩) (fun h => h) ea
                  have fl := FL.out
                  clear eb
                  go_wp2
                  go_roundw
                  case rel => exact ⟨k + 1, by omega, by rw [FS.out]; rfl, by go_num, KR⟩
                  case measure => simp [intOf]; omega
              · obtain rfl : k = cs := by omega
                have FE : fullN (LA.take k) = n := by rw [List.take_of_length_le (by rw [hLA.out]; omega)]; exact FN.out
                rw [FE]
                clear FE FL hlt
                have KW := Lib.hid (K2.out.tr KR.out)
                go_wp2_with fail
                refine (l1awake_calls _).mono ?_
                rintro e w1 ⟨rfl, k1⟩
                have K := Lib.hid (KW.out.tr k1)
                clear k1
                go_wp2
                go_ret
                exact ⟨rfl, K.out⟩
end Go.Proofs.Ytaopjdjbpamhhaa
/- Proved: the law SlotsOneLayout returns true for all its arguments, and each argument reads afterwards as it read before. No condition beyond the statement's own. -/
namespace Go.Proofs.Ytaopjdjbpamhhaa.slotsOneLayout
open Go.ChangeShapes Go.WideShapes Go.ChangeAt Go.RowKit
set_option linter.unusedVariables false
theorem opensItem : Opens Try.prog 61 itemEl := opens_item (ti := 3) (tu := 22) (t := 31) (e := 5) (Try.underlying61) rfl rfl rfl rfl rfl rfl (by kernel_rfl) (by kernel_rfl) (by kernel_rfl) (by kernel_rfl) Try.underlying3 Try.underlying22 Try.underlying31 Try.underlying5 (by kernel_rfl) (of_decide_eq_true (by kernel_rfl))
set_option maxRecDepth 100000 in
theorem lifted (os : Os) (started : os.Started) (H : Type) (enc : TypeId × Value → H) :
    ReturnsInHanded {} Try.checked os 9 .any (Rows.slotsOneLayoutSpec.pre6 enc Try.prog Try.f9 Rows.slotsOneLayoutRow.domain false) (Rows.slotsOneLayoutSpec.post enc Try.prog Try.f9 false true false false) := by
  refine returnsInHanded_of_change_sized (C := Try.checked) Facts.own started (by kernel_rfl) Try.func9
    (ChangeSpec.witness6 (enc := enc) (C := Try.checked) false ⟨#[], #[.int .i64 0, .slice none 0 0, .int .u8 0], []⟩ 8 (by kernel_rfl) (by kernel_rfl) (by kernel_rfl) (by kernel_rfl)) ?_
  intro W base args ds gs before hval0 hW hcnd hsz0 _
  have hsz : (DataW.weightsEach Try.prog (Try.f9.params.toList ++ Rows.slotsOneLayoutSpec.plain.varTypes Try.prog) (ds ++ gs)).all (· ≤ reachBytes) = true := hsz0
  have hval : ∀ (j : Nat) t v, Try.f9.params[j]? = some t → args[j]? = some v → Value.okWide Try.prog W .any base t v := hval0
  have hW' := hW
  obtain ⟨p, q, hA0, hV, rfl, hfz, hnd⟩ := hW
  have hA : DataW.TrodAll enc Try.prog W 0 (fun _ => true) true Try.f9.params.toList args.toList ds p := hA0
  rw [Try.params9] at hA hval hsz
  obtain ⟨v0, vs0, d0, ds0, p0, q0, hargs, rfl, rfl, h0, r0⟩ := trodAll_cons hA
  obtain ⟨v1, vs1, d1, ds1, p1, q1, rfl, rfl, rfl, h1, r1⟩ := trodAll_cons r0
  obtain ⟨v2, vs2, d2, ds2, p2, q2, rfl, rfl, rfl, h2, r2⟩ := trodAll_cons r1
  obtain ⟨rfl, rfl, rfl⟩ := trodAll_nil r2
  obtain rfl : args = #[v0, v1, v2] := by cases args; simp_all
  obtain ⟨rfl, rfl⟩ := trodVars_none hV
  obtain ⟨a0, rfl, rfl, rfl, w0⟩ := open_int Try.underlying3 (hval 0 3 v0 rfl rfl) h0
  obtain ⟨a1, len1, cap1, rfl⟩ := okWide_slice Try.underlying57 (hval 1 57 v1 rfl rfl)
  obtain ⟨a2, rfl, rfl, rfl, w2⟩ := open_int Try.underlying5 (hval 2 5 v2 rfl rfl) h2
  have k1 := h1
  have lt1 : ∀ x ∈ p1, x.block < W.heap.size := by obtain ⟨m, hm⟩ := k1; exact DataW.trod_lt m _ _ _ hm
  obtain ⟨l1, s1⟩ := open_arg (E := itemEl) (j := 1) itemEl_k opensItem Try.underlying57 (by kernel_rfl) (of_decide_eq_true (by kernel_rfl)) h1 rfl hsz rfl rfl
  clear hA0 hval0 hsz0
  refine (slotsOneLayout_walk s1 (by have := w2; simp [Lit.wf, IntKind.min, IntKind.max, IntKind.signed, IntKind.bits] at this; omega) (by have := w2; simp [Lit.wf, IntKind.min, IntKind.max, IntKind.signed, IntKind.bits] at this; omega)).mono fun e W' ⟨he, kw⟩ => ?_
  have bel : Below W.heap.size W W' := kw.below (Nat.le_refl _) fun _ h => h.elim
  subst he
  exact ⟨_, rfl, _, _, _, [], _, [], hW', trodAll_mk1 (shut_bool Try.underlying4 _), (trodAll_cons_mk (shut_int Try.underlying3 w0) (trodAll_cons_mk (Below.trod Facts.laid (by kernel_rfl) (of_decide_eq_true (by kernel_rfl)) k1 bel lt1) (trodAll_cons_mk (shut_int Try.underlying5 w2) trodAll_mk0))), rfl, bel.frame _, fun h => by cases h⟩
set_option maxHeartbeats 4000000 in
theorem closed : joinedFacts Try.prog 9 Try.f9 Rows.slotsOneLayoutSpec Rows.slotsOneLayoutRow = true := by
  refine Facts.joined 9 Try.f9 Rows.slotsOneLayoutSpec Rows.slotsOneLayoutRow ?_ ?_ ?_ ?_ ?_ ?_ ?_ ?_ ?_ ?_ ?_ ?_ ?_ ?_ ?_ ?_ ?_ ?_ ?_ ?_ ?_ ?_ ?_ ?_ ?_ ?_ ?_ <;> exact (by as_aux_lemma => kernel_rfl)
set_option maxHeartbeats 4000000 in
theorem over : Rows.slotsOneLayoutRow.holds Try.pinned (OpenSpec.ofChange Rows.slotsOneLayoutSpec) :=
  OpenClaim.holds_of_wide 9 Try.f9 rfl rfl rfl rfl rfl rfl rfl ⟨rfl, rfl, rfl, rfl, rfl⟩ rfl rfl rfl rfl rfl (by as_aux_lemma => kernel_rfl) Try.func9 closed
    (of_decide_eq_true (by as_aux_lemma => kernel_rfl)) (by unfold Func.isWrapper; first | (rw [if_pos (by decide +kernel)]; kernel_rfl) | (rw [if_neg (by decide +kernel)]; exact ⟨rfl, rfl⟩))
    (fun os started H enc _ => lifted os started H enc)
theorem proved : Rows.SlotsOneLayoutSaid := over
end Go.Proofs.Ytaopjdjbpamhhaa.slotsOneLayout
namespace Go.Proofs.Ytaopjdjbpamhhaa
theorem slotsOneLayout_holds : Rows.SlotsOneLayoutSaid := slotsOneLayout.proved
#print axioms slotsOneLayout_holds
end Go.Proofs.Ytaopjdjbpamhhaa
