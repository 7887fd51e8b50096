/- Proved: texts of the families over slots, order and swap, joined: laws of memory and regions, contracts of functions, plain facts. Conditions: as each theorem says. -/
import Derived.Test.YtaopjdjbpamhhaaPkN
import Derived.Test.YtaopjdjbpamhhaaPkF
import Derived.Test.YtaopjdjbpamhhaaPkI
import Derived.Test.YtaopjdjbpamhhaaPkA
import Derived.Test.YtaopjdjbpamhhaaPkM
import Derived.Deep.DeepCutAuto
/- Proved: plain: a layout of items in another order. No program. Conditions: different keys. -/
namespace Go.Proofs.Ytaopjdjbpamhhaa
open Go Go.RowKit
set_option linter.unusedVariables false
set_option linter.unusedSimpArgs false

/-- The numbers in the cells, each by another one. -/
def mapC (f : Nat → Nat) (x : Int) : Int := if x < 0 then x else (f x.toNat : Int)
theorem fullC_map (f : Nat → Nat) (out : List Int) (c : Nat) : fullC (out.map (mapC f)) c = fullC out c := by
  unfold fullC
  rw [List.getD_eq_getElem?_getD, List.getD_eq_getElem?_getD, List.getElem?_map]
  cases h : out[c]? with
  | none => rfl
  | some x =>
    simp only [Option.map_some, Option.getD_some, mapC]
    refine decide_eq_decide.2 ?_
    split <;> omega
theorem probe_map (f : Nat → Nat) (out : List Int) (cells : Nat) : ∀ k c, probe (out.map (mapC f)) cells k c = probe out cells k c
  | 0, _ => rfl
  | k + 1, c => by rw [probe, probe, fullC_map, probe_map f out cells k]
theorem layF_map (f : Nat → Nat) (cells : Nat) (home : Nat → Nat) : ∀ (o : List Nat) (out : List Int), (o.map f).foldl (fun out i => lay1 cells out (home i) i) (out.map (mapC f)) = (o.foldl (fun out i => lay1 cells out (home (f i)) i) out).map (mapC f)
  | [], _ => rfl
  | i :: o, out => by
    rw [List.map_cons, List.foldl_cons, List.foldl_cons, ← layF_map f cells home o]
    congr 1
    unfold lay1
    rw [probe_map, List.map_set]
    congr 1
    try (unfold mapC; rw [if_neg (by omega), Int.toNat_natCast])
/-- How many cells are full. -/
def fullN (out : List Int) : Nat := out.countP fun x => decide (0 ≤ x)
theorem fullN_set : ∀ {out : List Int} {p : Nat} {x : Int} (h : p < out.length), out[p] < 0 → 0 ≤ x → fullN (out.set p x) = fullN out + 1
  | y :: out, 0, x, _, h1, h2 => by
    simp only [List.getElem_cons_zero] at h1
    simp only [fullN, List.set_cons_zero, List.countP_cons]
    rw [if_pos (by simpa using h2), if_neg (by simp; omega)]
    try omega
  | y :: out, p + 1, x, h, h1, h2 => by
    simp only [List.getElem_cons_succ] at h1
    have ih := fullN_set (out := out) (p := p) (x := x) (by simpa using h) h1 h2
    simp only [fullN, List.set_cons_succ, List.countP_cons] at ih ⊢
    omega
theorem layF_fullN {cells : Nat} {home : Nat → Nat} : ∀ {l : List Nat}, l.length ≤ cells → l.Nodup → (∀ i ∈ l, home i < cells) → fullN (layF cells home l) = l.length := by
  intro l
  induction h : l.reverse generalizing l with
  | nil =>
    obtain rfl : l = [] := by simpa using h
    intro _ _ _
    unfold layF fullN
    rw [List.foldl_nil, List.countP_eq_zero.2 (fun x hx => by obtain ⟨_, rfl⟩ := List.mem_replicate.1 hx; simp)]
    rfl
  | cons i r ih =>
    obtain rfl : l = r.reverse ++ [i] := by
      have := congrArg List.reverse h
      simpa using this
    intro h1 h2 h3
    simp only [List.length_append, List.length_cons, List.length_nil] at h1
    rw [List.nodup_append] at h2
    have e := ih (l := r.reverse) (by simp) (by omega) h2.1 fun j hj => h3 j (by simp [hj])
    have hla := layF_laid (cells := cells) (home := home) (l := r.reverse) (by omega) h2.1 fun j hj => h3 j (by simp [hj])
    obtain ⟨k, hw, hn, hp⟩ := probe_free (h3 i (by simp)) (hla.free (by omega))
    rw [layF_snoc, List.length_append, List.length_cons, List.length_nil, ← e]
    unfold lay1
    rw [hp]
    have hk : stepC cells (home i) k < (layF cells home r.reverse).length := by rw [layF_length]; exact stepC_lt (by have := h3 i (by simp); omega)
    refine fullN_set hk ?_ (by omega)
    rw [fullC_of hk] at hn
    simpa using hn
/-- The same items, turned about. -/
def turnP (n turn i : Nat) : Nat := if turn % 2 = 1 then n - 1 - (i + turn / 2) % n else (i + turn / 2) % n
theorem turnP_lt {n turn i : Nat} (h : 0 < n) : turnP n turn i < n := by
  unfold turnP
  have := Nat.mod_lt (i + turn / 2) h
  split <;> omega
theorem turnP_inj {n turn i j : Nat} (hi : i < n) (hj : j < n) (h : turnP n turn i = turnP n turn j) : i = j := by
  have h1 : (i + turn / 2) % n = (j + turn / 2) % n := by
    unfold turnP at h
    have a := Nat.mod_lt (i + turn / 2) (show 0 < n by omega)
    have b := Nat.mod_lt (j + turn / 2) (show 0 < n by omega)
    split at h <;> omega
  generalize turn / 2 = t at h1
  have e1 := Nat.div_add_mod (i + t) n
  have e2 := Nat.div_add_mod (j + t) n
  rw [h1] at e1
  generalize (j + t) % n = r at *
  rcases Nat.lt_trichotomy ((i + t) / n) ((j + t) / n) with h | h | h
  · have := Nat.mul_le_mul_left n (show (i + t) / n + 1 ≤ (j + t) / n from h)
    rw [Nat.mul_add, Nat.mul_one] at this
    omega
  · rw [h] at e1; omega
  · have := Nat.mul_le_mul_left n (show (j + t) / n + 1 ≤ (i + t) / n from h)
    rw [Nat.mul_add, Nat.mul_one] at this
    omega
def turned (l : List ItemK) (turn k : Nat) : List ItemK := (List.range k).map fun i => l.getD (turnP l.length turn i) default
theorem turned_len (l : List ItemK) (turn k : Nat) : (turned l turn k).length = k := by simp [turned]
theorem turned_succ {l : List ItemK} {turn k : Nat} (h : turnP l.length turn k < l.length) : turned l turn k ++ [l[turnP l.length turn k]] = turned l turn (k + 1) := by
  unfold turned
  rw [List.range_succ, List.map_append]
  congr 1
  simp [List.getD_eq_getElem?_getD, List.getElem?_eq_getElem h]
/-- Different keys. -/
def DiffK (l : List ItemK) : Prop := ∀ i j (hi : i < l.length) (hj : j < l.length), i ≠ j → l[i].2.2 ≠ l[j].2.2
theorem befI_total {x y : ItemK} (h : x.2.2 ≠ y.2.2) (hn : befI y x = false) : befI x y = true := by
  unfold befI at *
  by_cases e : x.2.1 = y.2.1
  · rw [if_pos e.symm] at hn
    rw [if_pos e]
    unfold lessK at *
    simp only [decide_eq_true_eq, decide_eq_false_iff_not] at *
    have := cmpB_neg x.2.2 y.2.2
    have : cmpB x.2.2 y.2.2 ≠ 0 := fun z => h (cmpB_zero z)
    omega
  · rw [if_neg (fun z => e z.symm)] at hn
    rw [if_neg e]
    simp only [decide_eq_true_eq, decide_eq_false_iff_not] at *
    omega
/-- The order of the turned items is the order of the items. -/
theorem turned_ord {l : List ItemK} {turn : Nat} {o : List Nat} (hd : DiffK l) (ho : Ordd (befN befI (turned l turn l.length)) l.length o) : Ordd (befN befI l) l.length (o.map (turnP l.length turn)) := by
  have hg : ∀ i, i < l.length → (turned l turn l.length).getD i default = l.getD (turnP l.length turn i) default := fun i hi => by
    rw [List.getD_eq_getElem?_getD, List.getElem?_eq_getElem (by rw [turned_len]; exact hi)]
    simp [turned]
  have hinj : (o.map (turnP l.length turn)).Nodup := by
    rw [List.Nodup, List.pairwise_map]
    refine ho.nodup.imp_of_mem fun {a b} ha hb hab e => hab (turnP_inj (ho.mem.1 ha) (ho.mem.1 hb) e)
  refine ⟨(List.perm_ext_iff_of_nodup hinj List.nodup_range).2 fun j => ⟨fun hj => ?_, fun hj => ?_⟩, ?_⟩
  · obtain ⟨i, hi, rfl⟩ := List.mem_map.1 hj
    have := ho.mem.1 hi
    exact List.mem_range.2 (turnP_lt (by omega))
  · refine Classical.byContradiction fun hn => ?_
    have := nodup_le (m := j :: o.map (turnP l.length turn)) (l := List.range l.length) (List.nodup_cons.2 ⟨hn, hinj⟩) fun x hx => by
      rcases List.mem_cons.1 hx with rfl | hx
      · exact hj
      · obtain ⟨i, hi, rfl⟩ := List.mem_map.1 hx
        have := ho.mem.1 hi
        exact List.mem_range.2 (turnP_lt (by omega))
    have hl := ho.len
    simp at this
    omega
  · rw [List.pairwise_map]
    refine List.Pairwise.imp_of_mem (fun {a b} ha hb hab => ?_) (List.Pairwise.and ho.srt ho.nodup)
    obtain ⟨hab, hne⟩ := hab
    have ha := ho.mem.1 ha
    have hb := ho.mem.1 hb
    unfold Befs befN at hab
    rw [hg a ha, hg b hb] at hab
    rcases hab with h | ⟨h, _⟩
    · exact .inl h
    · left
      have la := turnP_lt (n := l.length) (turn := turn) (i := a) (by omega)
      have lb := turnP_lt (n := l.length) (turn := turn) (i := b) (by omega)
      unfold befN
      rw [List.getD_eq_getElem?_getD, List.getD_eq_getElem?_getD, List.getElem?_eq_getElem la, List.getElem?_eq_getElem lb] at h ⊢
      simp only [Option.getD_some] at h ⊢
      exact befI_total (hd _ _ la lb fun e => hne (turnP_inj ha hb e)) h
/-- Cell by cell. -/
theorem turned_lay {cells : Nat} {l : List ItemK} {turn : Nat} {o o' : List Nat} (hd : DiffK l) (ho : Ordd (befN befI l) l.length o) (ho' : Ordd (befN befI (turned l turn l.length)) l.length o') : layI cells l o = (layI cells (turned l turn l.length) o').map (mapC (turnP l.length turn)) := by
  have e := ho.uniq (befN_swo befI_swo l) (turned_ord hd ho')
  subst e
  have hg : ∀ i, i < l.length → (turned l turn l.length).getD i default = l.getD (turnP l.length turn i) default := fun i hi => by
    rw [List.getD_eq_getElem?_getD, List.getElem?_eq_getElem (by rw [turned_len]; exact hi)]
    simp [turned]
  unfold layI layF
  have h0 : List.replicate cells (-1 : Int) = (List.replicate cells (-1)).map (mapC (turnP l.length turn)) := by rw [List.map_replicate]; rfl
  conv => lhs; rw [h0]
  rw [layF_map]
  congr 1
  refine layF_congr fun i hi => ?_
  rw [hg i (ho'.mem.1 hi)]
end Go.Proofs.Ytaopjdjbpamhhaa
/- Proved: ops of the law functions of chapter 01 as elements of slices; contract of few; Put where it refuses. Conditions: ops in memory. -/
namespace Go.Proofs.Ytaopjdjbpamhhaa
open Go Go.RowKit Go.ChangeShapes Go.WideShapes
set_option linter.unusedVariables false
set_option linter.unusedSimpArgs false

/-- An op: its kind, its key, its value. -/
abbrev OpK := Int × Bts × Bts
def opEl : El OpK where
  k := 3
  R := fun D w cs x => ∃ u v, cs = [.int .i64 x.1, u, v] ∧ BV D w u x.2.1 ∧ BV D w v x.2.2
  mono := fun hw ⟨u, v, h1, h2, h3⟩ => ⟨u, v, h1, h2.mono byteEl_k hw, h3.mono byteEl_k hw⟩
  len := fun ⟨u, v, h1, _⟩ => by rw [h1]; rfl
  one := fun ⟨u, v, h1, h2, h3⟩ x hx => by
    rw [h1] at hx
    simp only [List.mem_cons, List.not_mem_nil, or_false] at hx
    rcases hx with rfl | rfl | rfl
    · rfl
    · exact h2.cell1
    · exact h3.cell1
theorem opEl_k : 0 < opEl.k := by decide
theorem Rd.op {D : Nat → Prop} {w : World} {a : Option Addr} {l : List OpK} (h : Rd opEl D w a l) {i : Nat} (hi : i < l.length) : ∃ b o u v, a = some ⟨b, o, none⟩ ∧ D b ∧ w.cell? ⟨b, o + i * 3, none⟩ = some (.int .i64 l[i].1) ∧ w.cell? ⟨b, o + i * 3 + 1, none⟩ = some u ∧ w.cell? ⟨b, o + i * 3 + 2, none⟩ = some v ∧ BV D w u l[i].2.1 ∧ BV D w v l[i].2.2 := by
  obtain ⟨b, o, cs, h1, h2, h4, u, v, h5, h6, h7⟩ := h i hi
  subst h5
  have e0 := h4 0 (by simp)
  have e1 := h4 1 (by simp)
  have e2 := h4 2 (by simp)
  exact ⟨b, o, u, v, h1, h2, by simpa [opEl] using e0, by simpa [opEl, Nat.add_assoc] using e1, by simpa [opEl, Nat.add_assoc] using e2, h6, h7⟩
/-- A struct of an int and two slices of bytes. -/
theorem opens_op {P : Program} {s ti t e : TypeId} {f0 f1 f2 : Field} (hs : P.underlying s = some (.struct #[f0, f1, f2])) (o0 : f0.offset = 0) (o1 : f1.offset = 1) (o2 : f2.offset = 2) (t0 : f0.type = ti) (t1 : f1.type = t) (t2 : f2.type = t)
    (ci : P.cellsOf ti = 1) (ct : P.cellsOf t = 1) (cs3 : P.cellsOf s = 3) (hi : P.underlying ti = some (.int .i64))
    (ht : P.underlying t = some (.slice e)) (he : P.underlying e = some (.int .u8)) (hc : P.cellsOf e = 1) (hb : 1 ≤ P.bytesOf e) : Opens P s opEl := by
  intro H enc w base spare held fuel cs x h hw
  obtain ⟨xs, n, _, rfl, hlen, hxl, hf⟩ := DataW.trod_struct hs h
  have g0 := hf 0 f0 rfl
  have g1 := hf 1 f1 rfl
  have g2 := hf 2 f2 rfl
  rw [o0, t0, ci] at g0
  rw [o1, t1, ct] at g1
  rw [o2, t2, ct] at g2
  rw [cs3] at hlen
  match xs, hxl, cs, hlen with
  | [y0, y1, y2], _, [v0, v1, v2], _ =>
    simp only [List.drop_zero, List.take_succ_cons, List.take_zero, List.getElem?_cons_zero] at g0
    simp only [List.drop_succ_cons, List.drop_zero, List.take_succ_cons, List.take_zero, List.getElem?_cons_succ, List.getElem?_cons_zero] at g1
    simp only [List.drop_succ_cons, List.drop_zero, List.take_succ_cons, List.take_zero, List.getElem?_cons_succ, List.getElem?_cons_zero] at g2
    have w1 : ∀ n ∈ y1.1.weights P t, n ≤ reachBytes := fun n hn => hw n (by
      simp only [DataW.weights, hs, List.map_cons, List.map_nil, DataW.weightsEach, t0, t1, t2, List.mem_append]
      exact .inr (.inl hn))
    have w2 : ∀ n ∈ y2.1.weights P t, n ≤ reachBytes := fun n hn => hw n (by
      simp only [DataW.weights, hs, List.map_cons, List.map_nil, DataW.weightsEach, t0, t1, t2, List.mem_append]
      exact .inr (.inr (.inl hn)))
    obtain ⟨x0, hx0, _, _⟩ := DataW.trod_int hi g0
    obtain ⟨k1, u1, hu1, h1⟩ := opens_bytes ht he hc hb _ _ _ _ _ _ _ _ _ g1 w1
    obtain ⟨k, u, hu2, h2⟩ := opens_bytes ht he hc hb _ _ _ _ _ _ _ _ _ g2 w2
    simp only [List.cons.injEq, and_true] at hx0 hu1 hu2
    subst hx0
    subst hu1
    subst hu2
    exact ⟨(x0, k1, k), _, _, rfl, h1, h2⟩

def okO (o : OpK) : Bool := decide (o.2.1.length ≤ 1200) && decide (o.2.2.length ≤ 1200)
def fewO (l : List OpK) : Bool := decide (l.length ≤ 120) && l.all okO
set_option maxRecDepth 100000 in
set_option maxHeartbeats 1000000 in
theorem l1few_calls {D : Nat → Prop} {w : World} {v : Value} {l : List OpK} (h : SV opEl D w v l) :
    Calls Try.prog 22 #[v] w fun e w' => e = .returned (.bool (fewO l)) ∧ w' = w := by
  obtain ⟨a, c, rfl, _, m, rd⟩ := h
  have RD := Lib.hid rd
  clear rd
  go_enter Try.func22, Try.ntmps22
  by_cases h60 : l.length ≤ 120
  · have h60' : ¬ (120 : Int) < (l.length : Int) := by omega
    go_wp2
    go_loopw [3] (fun i wr => ∃ n : Nat, n ≤ l.length ∧ i = .int .i64 n ∧ Hid (∀ p ∈ l.take n, okO p = true) ∧ wr = w) (fun i _ => l.length - (intOf i).toNat)
    case atStart => exact ⟨0, Nat.zero_le _, rfl, Lib.hid (by simp), rfl⟩
    case round =>
      obtain ⟨n, hn, rfl, ha, rfl⟩ := hrel
      by_cases hl : n < l.length
      · have hl' : (n : Int) < (l.length : Int) := by omega
        obtain ⟨b1, o1, uk, uv, rfl, hDb, g0, g1, g2, hkv, hvv⟩ := Rd.op RD.out hl
        obtain ⟨a7, c7, rfl, _, m7, _⟩ := hkv
        obtain ⟨a8, c8, rfl, _, m8, _⟩ := hvv
        have OK := Lib.hid (show okO l[n] = (decide (l[n].2.1.length ≤ 1200) && decide (l[n].2.2.length ≤ 1200)) from rfl)
        have NO := Lib.hid (fun h : okO l[n] = false => (show fewO l = false by
            have : l.all okO = false := by
              rw [List.all_eq_false]
              exact ⟨l[n], List.getElem_mem hl, by rw [h]; simp⟩
            simp [fewO, this]))
        have YES := Lib.hid (fun h : okO l[n] = true => (show ∀ p ∈ l.take (n + 1), okO p = true from fun p hp => by
            rw [List.take_add_one, List.getElem?_eq_getElem hl] at hp
            simp only [Option.toList_some, List.mem_append, List.mem_singleton] at hp
            rcases hp with hp | rfl
            · exact ha.out p hp
            · exact h))
        by_cases q1 : l[n].2.1.length ≤ 1200
        · by_cases q2 : l[n].2.2.length ≤ 1200
          · have y := Lib.hid (YES.out (by rw [OK.out]; simp [q1, q2]))
            have q1' : decide ((1200 : Int) < (l[n].2.1.length : Int)) = false := decide_eq_false (by omega)
            have q2' : decide ((1200 : Int) < (l[n].2.2.length : Int)) = false := decide_eq_false (by omega)
            clear OK NO YES q1 q2
            go_wp2
            go_roundw
            case rel => exact ⟨n + 1, by omega, by go_num, y, by first | rfl | trivial⟩
            case measure => simp [intOf]; omega
          · have y := Lib.hid (NO.out (by rw [OK.out]; simp [q2]))
            have q1' : decide ((1200 : Int) < (l[n].2.1.length : Int)) = false := decide_eq_false (by omega)
            have q2' : decide ((1200 : Int) < (l[n].2.2.length : Int)) = true := decide_eq_true (by omega)
            clear OK NO YES q1 q2
            go_wp2
            go_ret
            exact ⟨by rw [y.out]; rfl, rfl⟩
        · have y := Lib.hid (NO.out (by rw [OK.out]; simp [q1]))
          have q1' : decide ((1200 : Int) < (l[n].2.1.length : Int)) = true := decide_eq_true (by omega)
          clear OK NO YES q1
          go_wp2
          go_ret
          exact ⟨by rw [y.out]; rfl, rfl⟩
      · obtain rfl : n = l.length := by omega
        go_wp2
        go_ret
        exact ⟨by have := ha.out; rw [List.take_length] at this; simp [fewO, h60, List.all_eq_true.2 this], rfl⟩
  · have h60' : (120 : Int) < (l.length : Int) := by omega
    go_wp2
    go_ret
    exact ⟨by simp [fewO, h60], rfl⟩

set_option maxRecDepth 100000 in
set_option maxHeartbeats 4000000 in
theorem slPut_no {seed : Int} {w : World} {t : Nat} {l : List (Bts × Bts)} {F D1 D3 : Nat → Prop} {kv vv : Value} {k v : Bts} (h : TabAt seed w t l F) (h1 : BV D1 w kv k) (h2 : BV D3 w vv v) (hal : allowedK k v = false) :
    Calls Try.prog 25 #[bp t, kv, vv] w fun e w' => (∃ n, e = .returned (.int .i64 n) ∧ n = 1) ∧ w' = w := by
  have H := Lib.hid h
  have HK := Lib.hid h1
  have HV := Lib.hid h2
  have AL := Lib.hid hal
  obtain ⟨a1, n1, rfl, _⟩ := h1
  obtain ⟨a2, n2, rfl, _⟩ := h2
  clear h hal
  go_enter Try.func25, Try.ntmps25
  go_wp2_with fail
  refine (slnone_calls H.out).mono ?_
  rintro e w ⟨rfl, rfl⟩
  go_wp2_with fail
  refine (slallowed_calls HK.out HV.out).mono ?_
  rintro e w ⟨rfl, rfl⟩
  rw [AL.out]
  go_wp2
  go_ret
  exact ⟨⟨_, rfl, rfl⟩, rfl⟩
end Go.Proofs.Ytaopjdjbpamhhaa
/- Proved: plain: a table after a script; the path from home to a cell. No program. Conditions: different keys, at most 100000 pairs. -/
namespace Go.Proofs.Ytaopjdjbpamhhaa
open Go Go.RowKit
set_option linter.unusedVariables false
set_option linter.unusedSimpArgs false

def opT (out : List (Bts × Bts)) (o : OpK) : List (Bts × Bts) := if o.1 = 1 then tdel out o.2.1 else if allowedK o.2.1 o.2.2 = true then tput out o.2.1 o.2.2 else out
def opsT (l : List OpK) : List (Bts × Bts) := l.foldl opT []
theorem opsT_succ {l : List OpK} {n : Nat} (h : n < l.length) : opsT (l.take (n + 1)) = opT (opsT (l.take n)) l[n] := by
  unfold opsT
  rw [List.take_add_one, List.getElem?_eq_getElem h, List.foldl_append]
  rfl
theorem opT_len (out : List (Bts × Bts)) (o : OpK) : (opT out o).length ≤ out.length + 1 := by
  unfold opT
  split
  · have := tdel_len out o.2.1; omega
  · split
    · rw [tput_len]; split <;> omega
    · omega
theorem opsT_len' : ∀ (l : List OpK) (out : List (Bts × Bts)), (l.foldl opT out).length ≤ out.length + l.length
  | [], out => by simp
  | o :: l, out => by
    have h1 := opsT_len' l (opT out o)
    have h2 := opT_len out o
    rw [List.foldl_cons, List.length_cons]
    omega
theorem opsT_len (l : List OpK) : (opsT l).length ≤ l.length := by have := opsT_len' l []; simpa [opsT] using this
/-- The way from an item's home to its cell: full with items that were laid ahead of it. -/
theorem layF_path {cells : Nat} {home : Nat → Nat} : ∀ {l : List Nat}, l.length ≤ cells → l.Nodup → (∀ i ∈ l, home i < cells) → ∀ (m i : Nat), l[m]? = some i → ∃ k, k < cells ∧ (layF cells home l).getD (stepC cells (home i) k) (-1) = (i : Int) ∧ ∀ j, j < k → ∃ m' i' : Nat, m' < m ∧ l[m']? = some i' ∧ (layF cells home l).getD (stepC cells (home i) j) (-1) = (i' : Int) := by
  intro l
  induction h : l.reverse generalizing l with
  | nil =>
    obtain rfl : l = [] := by simpa using h
    intro _ _ _ m i h
    simp at h
  | cons a r ih =>
    obtain rfl : l = r.reverse ++ [a] := by
      have := congrArg List.reverse h
      simpa using this
    intro h1 h2 h3 m i hm
    simp only [List.length_append, List.length_cons, List.length_nil] at h1
    rw [List.nodup_append] at h2
    have e := ih (l := r.reverse) (by simp) (by omega) h2.1 fun j hj => h3 j (by simp [hj])
    have hla := layF_laid (cells := cells) (home := home) (l := r.reverse) (by omega) h2.1 fun j hj => h3 j (by simp [hj])
    have ha : home a < cells := h3 a (by simp)
    obtain ⟨k, hw, hn, hp⟩ := probe_free ha (hla.free (by omega))
    rw [layF_snoc]
    unfold lay1
    rw [hp]
    have hk : stepC cells (home a) k < (layF cells home r.reverse).length := by rw [layF_length]; exact stepC_lt (by omega)
    generalize layF cells home r.reverse = out at *
    generalize r.reverse = L at *
    have hfree : ¬ 0 ≤ out.getD (stepC cells (home a) k) (-1) := by unfold fullC at hn; simpa using hn
    have hget : ∀ d (x : Nat), out.getD d (-1) = (x : Int) → (out.set (stepC cells (home a) k) (a : Int)).getD d (-1) = (x : Int) := fun d x hx => by
      rw [getD_set hk, if_neg (fun e => by rw [e] at hx; omega)]
      exact hx
    rcases Nat.lt_or_ge m L.length with hl | hl
    · rw [List.getElem?_append_left hl] at hm
      obtain ⟨k', g1, g2, g3⟩ := e m i hm
      refine ⟨k', g1, hget _ _ g2, fun j hj => ?_⟩
      obtain ⟨m', i', q1, q2, q3⟩ := g3 j hj
      exact ⟨m', i', q1, by rw [List.getElem?_append_left (by omega)]; exact q2, hget _ _ q3⟩
    · have hm1 : m = L.length := by
        have := (List.getElem?_eq_some_iff.1 hm).1
        simp at this
        omega
      subst hm1
      have hi : a = i := by simpa using hm
      subst hi
      refine ⟨k, hw.1, by rw [getD_set hk, if_pos rfl], fun j hj => ?_⟩
      obtain ⟨i', g1, g2⟩ := (hla.full (stepC_lt (by omega))).1 (hw.2 j hj)
      obtain ⟨m', hm', rfl⟩ := List.getElem_of_mem g1
      exact ⟨m', _, hm', by rw [List.getElem?_append_left hm', List.getElem?_eq_getElem hm'], hget _ _ g2⟩
theorem cellAt_pos {seed : Int} {l : List (Bts × Bts)} {c : Nat} {i : Nat} (h : (posE seed l).getD c (-1) = (i : Int)) : cellAt seed l c = some ((sortE seed l).getD i default) := by
  unfold cellAt celE
  rw [List.getD_eq_getElem?_getD, List.getElem?_map]
  rw [List.getD_eq_getElem?_getD] at h
  cases hx : (posE seed l)[c]? with
  | none => rw [hx] at h; simp at h
  | some x =>
    rw [hx] at h
    simp only [Option.getD_some, Option.map_some] at h ⊢
    subst h
    rw [if_neg (by omega), Int.toNat_natCast]
/-- Where a pair lies. -/
theorem celE_path {seed : Int} {l : List (Bts × Bts)} (hk : Keyd l) (hn : l.length ≤ 100000) {c : Nat} {p : Bts × Bts} (hc : c < cellsN l.length) (h : cellAt seed l c = some p) :
    ∃ k, k < cellsN l.length ∧ c = stepC (cellsN l.length) (hmE seed (cellsN l.length) p.1) k ∧ ∀ j, j < k → ∃ q, cellAt seed l (stepC (cellsN l.length) (hmE seed (cellsN l.length) p.1) j) = some q ∧ comesE seed q p = true := by
  have hL := posE_laid (seed := seed) hn
  obtain ⟨_, c8, c4, _, _⟩ := cellsN_spec hn
  rcases hL.cell c hc with e | ⟨i, hi, e⟩
  · exfalso
    unfold cellAt celE at h
    rw [List.getD_eq_getElem?_getD, List.getElem?_map] at h
    rw [List.getD_eq_getElem?_getD] at e
    cases hx : (posE seed l)[c]? with
    | none => rw [hx] at h; simp at h
    | some x => rw [hx] at h e; simp only [Option.getD_some] at e; subst e; simp at h
  · rw [cellAt_pos e] at h
    simp only [Option.some.injEq] at h
    have hi := List.mem_range.1 hi
    obtain ⟨k, k1, k2, k3⟩ := layF_path (cells := cellsN l.length) (home := fun i => hmE seed (cellsN l.length) ((sortE seed l).getD i default).1) (l := List.range l.length) (by simp; omega) List.nodup_range (fun i _ => hmE_lt _ _ (by omega)) i i (by simp [hi])
    simp only [h] at k2 k3
    refine ⟨k, k1, hL.uniq _ _ i hc (stepC_lt (by omega)) e k2, fun j hj => ?_⟩
    obtain ⟨m', i', q1, q2, q3⟩ := k3 j hj
    have hm : m' = i' := by
      have := q2
      rw [List.getElem?_range (by omega)] at this
      simpa using this
    subst hm
    refine ⟨_, cellAt_pos q3, ?_⟩
    have hs := (sortE_srt (seed := seed) hk).2
    have hlen := sortE_len seed l
    have g := List.pairwise_iff_getElem.1 hs m' i (by omega) (by omega) q1
    rw [← h]
    rw [List.getD_eq_getElem?_getD, List.getD_eq_getElem?_getD, List.getElem?_eq_getElem (by omega), List.getElem?_eq_getElem (by omega)]
    exact g
theorem comesE_befI (seed : Int) (q p : Bts × Bts) : befI (0, coin seed 2 q.1, q.1) (0, coin seed 2 p.1, p.1) = comesE seed q p := by
  rw [Bool.eq_iff_iff, comesE_iff]
  unfold befI lessK
  simp only
  by_cases e : coin seed 2 q.1 = coin seed 2 p.1
  · rw [if_pos e]
    simp only [decide_eq_true_eq]
    constructor
    · exact fun h => .inr ⟨e.symm, h⟩
    · rintro (h | ⟨_, h⟩)
      · omega
      · exact h
  · rw [if_neg e]
    simp only [decide_eq_true_eq]
    constructor
    · exact fun h => .inl h
    · rintro (h | ⟨h, _⟩)
      · exact h
      · omega
end Go.Proofs.Ytaopjdjbpamhhaa
/- Proved: the cells of a table, read one by one. Conditions: cells in memory. -/
namespace Go.Proofs.Ytaopjdjbpamhhaa
open Go Go.RowKit
set_option linter.unusedVariables false
set_option linter.unusedSimpArgs false

theorem Rd.celA {D : Nat → Prop} {w : World} {a : Option Addr} {l : List CellK} (h : Rd cellEl D w a l) {i : Nat} (hi : i < l.length) : ∃ b o u v, a = some ⟨b, o, none⟩ ∧ D b ∧ w.cell? ⟨b, o + i * 3, none⟩ = some (.bool l[i].1) ∧ w.cell? ⟨b, o + i * 3 + 1, none⟩ = some u ∧ w.cell? ⟨b, o + i * 3 + 2, none⟩ = some v ∧ BV D w u l[i].2.1 ∧ BV D w v l[i].2.2 := by
  obtain ⟨b, o, cs, h1, h2, h4, u, v, h5, h6, h7⟩ := h i hi
  subst h5
  have e0 := h4 0 (by simp)
  have e1 := h4 1 (by simp)
  have e2 := h4 2 (by simp)
  exact ⟨b, o, u, v, h1, h2, by simpa [cellEl] using e0, by simpa [cellEl, Nat.add_assoc] using e1, by simpa [cellEl, Nat.add_assoc] using e2, h6.1, h7.1⟩
/-- The cells of a table, read one by one. -/
theorem cells_at {seed : Int} {T : List (Bts × Bts)} {D : Nat → Prop} {w : World} {a : Option Addr} (h : Rd cellEl D w a ((celE seed T).map cellT)) {i : Nat} (hi : i < cellsN T.length) :
    ∃ b o u v, a = some ⟨b, o, none⟩ ∧ D b ∧ w.cell? ⟨b, o + i * 3, none⟩ = some (.bool (cellT (cellAt seed T i)).1) ∧ w.cell? ⟨b, o + i * 3 + 1, none⟩ = some u ∧ w.cell? ⟨b, o + i * 3 + 2, none⟩ = some v ∧ BV D w u (cellT (cellAt seed T i)).2.1 ∧ BV D w v (cellT (cellAt seed T i)).2.2 := by
  have hl : i < (celE seed T).length := by rw [celE_len]; exact hi
  have e : ((celE seed T).map cellT)[i]'(by rw [List.length_map]; exact hl) = cellT (cellAt seed T i) := by
    simp [cellAt, List.getD_eq_getElem?_getD, hl]
  have := Rd.celA h (i := i) (by rw [List.length_map]; exact hl)
  rw [e] at this
  exact this
/-- How many of the first cells p takes. -/
def cntE (p : Option (Bts × Bts) → Bool) (seed : Int) (l : List (Bts × Bts)) (i : Nat) : Nat := ((celE seed l).take i).countP p
theorem cntE_zero (p : Option (Bts × Bts) → Bool) (seed : Int) (l : List (Bts × Bts)) : cntE p seed l 0 = 0 := by simp [cntE]
theorem cntE_succ {p : Option (Bts × Bts) → Bool} {seed : Int} {l : List (Bts × Bts)} {i : Nat} (h : i < cellsN l.length) : cntE p seed l (i + 1) = cntE p seed l i + if p (cellAt seed l i) = true then 1 else 0 := by
  have hl : i < (celE seed l).length := by rw [celE_len]; exact h
  unfold cntE
  rw [List.take_add_one, List.getElem?_eq_getElem hl, List.countP_append]
  have e : (celE seed l)[i] = cellAt seed l i := by
    unfold cellAt
    rw [List.getD_eq_getElem?_getD, List.getElem?_eq_getElem hl, Option.getD_some]
  rw [e]
  simp only [Option.toList_some, List.countP_cons, List.countP_nil, Nat.zero_add]
theorem cntE_le (p : Option (Bts × Bts) → Bool) (seed : Int) (l : List (Bts × Bts)) (i : Nat) : cntE p seed l i ≤ i := by
  have h1 := List.countP_le_length (p := p) (l := (celE seed l).take i)
  have h2 : ((celE seed l).take i).length ≤ i := by rw [List.length_take]; omega
  exact Nat.le_trans h1 h2
theorem cntE_all (p : Option (Bts × Bts) → Bool) (seed : Int) (l : List (Bts × Bts)) : cntE p seed l (cellsN l.length) = (celE seed l).countP p := by
  unfold cntE
  rw [List.take_of_length_le (by rw [celE_len]; exact Nat.le_refl _)]
end Go.Proofs.Ytaopjdjbpamhhaa
/- Proved: contract of the reference's SameCells where both lists are the same. Conditions: cells in memory. -/
namespace Go.Proofs.Ytaopjdjbpamhhaa
open Go Go.RowKit
set_option linter.unusedVariables false
set_option linter.unusedSimpArgs false

set_option maxRecDepth 100000 in
set_option maxHeartbeats 4000000 in
theorem r1SameCells_same {D1 D2 : Nat → Prop} {w : World} {v1 v2 : Value} {l : List CellK} (h1 : SV cellEl D1 w v1 l) (h2 : SV cellEl D2 w v2 l) :
    Calls Try.prog 29 #[v1, v2] w fun e w' => e = .returned (.bool true) ∧ Drew w w' := by
  obtain ⟨a1, c1, rfl, _, m1, h1⟩ := h1
  obtain ⟨a2, c2, rfl, _, m2, h2⟩ := h2
  have H1 := Lib.hid h1
  have H2 := Lib.hid h2
  obtain ⟨n, hn⟩ : ∃ n, l.length = n := ⟨_, rfl⟩
  rw [hn] at m1 ⊢
  replace hn := Lib.hid hn
  clear h1 h2 m2
  go_enter Try.func29, Try.ntmps29
  go_wp2
  go_loopw [5] (fun i w' => ∃ k : Nat, k ≤ n ∧ i = .int .i64 k ∧ Drew w w') (fun i _ => n - (intOf i).toNat)
  case atStart => exact ⟨0, by omega, rfl, Drew.refl _⟩
  obtain ⟨k, hk, rfl, ⟨m, rfl⟩⟩ := hrel
  by_cases hlt : k < n
  · have hl : k < l.length := by rw [hn.out]; exact hlt
    obtain ⟨b1, o1, u1, x1, rfl, _, d0, d1, d2, hk1, hv1⟩ := Rd.celA H1.out hl
    obtain ⟨b2, o2, u2, x2, rfl, _, e0, e1, e2, hk2, hv2⟩ := Rd.celA H2.out hl
    obtain ⟨ka1, kn1, kc1, rfl⟩ := hk1.sl
    obtain ⟨va1, vn1, vc1, rfl⟩ := hv1.sl
    obtain ⟨ka2, kn2, kc2, rfl⟩ := hk2.sl
    obtain ⟨va2, vn2, vc2, rfl⟩ := hv2.sl
    have CK := Lib.hid (fun w' (e : w'.heap = w.heap) => show Calls Try.prog 31 _ w' fun e w'' => e = .returned (.bool true) ∧ Drew w' w'' from by
      have := r1Same_calls (w := w') (hk1.at e) (hk2.at e)
      rw [decide_eq_true (rfl : l[k].2.1 = l[k].2.1)] at this
      exact this)
    have CV := Lib.hid (fun w' (e : w'.heap = w.heap) => show Calls Try.prog 31 _ w' fun e w'' => e = .returned (.bool true) ∧ Drew w' w'' from by
      have := r1Same_calls (w := w') (hv1.at e) (hv2.at e)
      rw [decide_eq_true (rfl : l[k].2.2 = l[k].2.2)] at this
      exact this)
    have e4 : (l[k].1 != l[k].1) = false := by simp
    clear hk1 hk2 hv1 hv2
    generalize l[k].1 = f at *
    go_wp2
    refine wp_region_chain 39 [22, 36] (fun w' => w'.cell? ⟨b1, o1 + k * 3, none⟩ = some (.bool f) ∧ w'.cell? ⟨b1, o1 + k * 3 + 1, none⟩ = some (.slice ka1 kn1 kc1) ∧ w'.cell? ⟨b1, o1 + k * 3 + 2, none⟩ = some (.slice va1 vn1 vc1) ∧ w'.cell? ⟨b2, o2 + k * 3, none⟩ = some (.bool f) ∧ w'.cell? ⟨b2, o2 + k * 3 + 1, none⟩ = some (.slice ka2 kn2 kc2) ∧ w'.cell? ⟨b2, o2 + k * 3 + 2, none⟩ = some (.slice va2 vn2 vc2)) (by kernel_rfl) (chain_mask [0, 0, 3, 7, 15, 0, 0, 96, 224, 480, 1023, 2047, 4095, 4095, 16383, 32767, 65535, 4095, 4095, 397311, 921599, 1970175, 4194303, 8388607, 16777215, 33554431, 67108863, 67108863, 268435455, 536870911, 1073741823, 67108863, 67108863, 6509559807, 15099494399, 32279363583, 68719476735, 137438953471, 274877906943] (by kernel_rfl)) ?_ ?_
    · exact ⟨d0, d1, d2, e0, e1, e2⟩
    have ST := Lib.hid (fun (w' : World) (e : w'.heap = w.heap) => show _ ∧ _ ∧ _ ∧ _ ∧ _ ∧ _ from ⟨(World.cell?_of_block (a := ⟨b1, o1 + k * 3, none⟩) (by rw [e])).trans d0, (World.cell?_of_block (a := ⟨b1, o1 + k * 3 + 1, none⟩) (by rw [e])).trans d1, (World.cell?_of_block (a := ⟨b1, o1 + k * 3 + 2, none⟩) (by rw [e])).trans d2, (World.cell?_of_block (a := ⟨b2, o2 + k * 3, none⟩) (by rw [e])).trans e0, (World.cell?_of_block (a := ⟨b2, o2 + k * 3 + 1, none⟩) (by rw [e])).trans e1, (World.cell?_of_block (a := ⟨b2, o2 + k * 3 + 2, none⟩) (by rw [e])).trans e2⟩)
    have DW := Lib.hid (show Drew w (w.drewN m).drew from (by repeat (first | exact Drew.refl _ | exact ⟨_, rfl⟩ | apply Drew.step | apply Drew.one)))
    refine SeqW.out ?_
    simp only [List.take_succ_cons, List.take_zero, List.drop_succ_cons, List.drop_zero]
    generalize (w.drewN m).drew = wd at *
    clear d0 d1 d2 e0 e1 e2
    iterate 22 (refine SeqW.val (v := ?_) (by rfl) (by rfl) (fun wx hSw => ?_) ?_; rotate_left; (focus ((try dsimp only at hSw); go_simp; (try with_reducible rfl))); (try simp only [Act.put, List.setIfInBounds_toArray, List.set_cons_zero, List.set_cons_succ]))
    refine SeqW.act (by rfl) rfl (by rfl) (by rfl) (fun K hK => ?_)
    go_simp
    refine (CK.out _ DW.out.heap).mono ?_
    rintro e w1 ⟨rfl, k1⟩
    replace DW := Lib.hid (DW.out.trans k1)
    refine hK.out _ _ (ST.out _ DW.out.heap) ?_
    clear K hK k1
    (try simp only [Act.put, List.setIfInBounds_toArray, List.set_cons_zero, List.set_cons_succ])
    iterate 13 (refine SeqW.val (v := ?_) (by rfl) (by rfl) (fun wx hSw => ?_) ?_; rotate_left; (focus ((try dsimp only at hSw); go_simp; (try with_reducible rfl))); (try simp only [Act.put, List.setIfInBounds_toArray, List.set_cons_zero, List.set_cons_succ]))
    refine SeqW.act (by rfl) rfl (by rfl) (by rfl) (fun K hK => ?_)
    go_simp
    refine (CV.out _ DW.out.heap).mono ?_
    rintro e w2 ⟨rfl, k1⟩
    replace DW := Lib.hid (DW.out.trans k1)
    refine hK.out _ _ (ST.out _ DW.out.heap) ?_
    clear K hK k1 ST
    (try simp only [Act.put, List.setIfInBounds_toArray, List.set_cons_zero, List.set_cons_succ])
    iterate 2 (refine SeqW.val (v := ?_) (by rfl) (by rfl) (fun wx hSw => ?_) ?_; rotate_left; (focus ((try dsimp only at hSw); go_simp; (try with_reducible rfl))); (try simp only [Act.put, List.setIfInBounds_toArray, List.set_cons_zero, List.set_cons_succ]))
    refine SeqW.nil ?_
    go_wp2
    go_roundw
    case rel => exact ⟨k + 1, by omega, by go_num, DW.out⟩
    case measure => simp [intOf]; omega
  · obtain rfl : k = n := by omega
    go_wp2
    go_ret
    exact ⟨rfl, (by repeat (first | exact Drew.refl _ | exact ⟨_, rfl⟩ | apply Drew.step | apply Drew.one))⟩
end Go.Proofs.Ytaopjdjbpamhhaa
/- Proved: plain: what Looks tells of the cells; how many cells are full, and how many have a key. No program. Conditions: different keys, at most 100000 pairs. -/
namespace Go.Proofs.Ytaopjdjbpamhhaa
open Go Go.RowKit
set_option linter.unusedVariables false
set_option linter.unusedSimpArgs false

theorem firstS_spec {p : Nat → Bool} : ∀ (f k : Nat), (∃ m, k ≤ m ∧ m < k + f ∧ p m = true) → ∃ m, firstS p f k = m ∧ k ≤ m ∧ m < k + f ∧ p m = true ∧ ∀ j, k ≤ j → j < m → p j = false
  | 0, k, ⟨m, h1, h2, _⟩ => by omega
  | f + 1, k, ⟨m, h1, h2, h3⟩ => by
    rw [firstS]
    cases e : p k with
    | true => exact ⟨k, by simp, Nat.le_refl _, by omega, e, fun j a b => by omega⟩
    | false =>
      have hm : m ≠ k := fun h => by rw [h, e] at h3; cases h3
      obtain ⟨m', a1, a2, a3, a4, a5⟩ := firstS_spec f (k + 1) ⟨m, by omega, by omega, h3⟩
      refine ⟨m', by simpa using a1, by omega, by omega, a4, fun j b1 b2 => ?_⟩
      by_cases ej : j = k
      · rw [ej]; exact e
      · exact a5 j (by omega) b2
theorem looksE_spec {seed : Int} {l : List (Bts × Bts)} (key : Bts) (hn : l.length ≤ 100000) : ∃ m, looksE seed l key = m + 1 ∧ m < cellsN l.length ∧ stopAt seed l key m = true ∧ ∀ j, j < m → stopAt seed l key j = false := by
  obtain ⟨m, h1, h2⟩ := stop_some (seed := seed) (key := key) hn
  obtain ⟨m', a1, a2, a3, a4, a5⟩ := firstS_spec (p := stopAt seed l key) (cellsN l.length) 0 ⟨m, by omega, by omega, h2⟩
  exact ⟨m', by unfold looksE; rw [a1], by omega, a4, fun j hj => a5 j (by omega) hj⟩
theorem tget_mem : ∀ {l : List (Bts × Bts)} {k v : Bts}, tget l k = some v → (k, v) ∈ l
  | [], k, v, h => by cases h
  | p :: l, k, v, h => by
    rw [tget] at h
    split at h
    · rename_i e
      cases h
      subst e
      exact List.mem_cons_self
    · exact List.mem_cons_of_mem _ (tget_mem h)
theorem tget_of_mem : ∀ {l : List (Bts × Bts)} {k v : Bts}, Keyd l → (k, v) ∈ l → tget l k = some v
  | p :: l, k, v, hk, h => by
    obtain ⟨h1, h2⟩ := List.pairwise_cons.1 hk
    rw [tget]
    rcases List.mem_cons.1 h with rfl | h
    · rw [if_pos rfl]
    · rw [if_neg (h1 _ h)]
      exact tget_of_mem h2 h
theorem cellAt_mem {seed : Int} {l : List (Bts × Bts)} (hn : l.length ≤ 100000) {c : Nat} {p : Bts × Bts} (h : cellAt seed l c = some p) : p ∈ l := by
  have hc : c < (posE seed l).length := by
    have : c < (celE seed l).length := by
      unfold cellAt at h
      rw [List.getD_eq_getElem?_getD] at h
      cases hx : (celE seed l)[c]? with
      | none => rw [hx] at h; cases h
      | some x => exact (List.getElem?_eq_some_iff.1 hx).1
    rw [celE_len] at this
    rw [posE_len]
    exact this
  rcases posE_val hn hc with e | ⟨i, hi, e⟩
  · rw [cellAt_free hc (by omega)] at h; cases h
  · have hi' : i < (sortE seed l).length := by rw [sortE_len]; exact hi
    rw [cellAt_full hc e hi'] at h
    cases h
    exact (sortE_perm seed l).mem_iff.1 (List.getElem_mem hi')
/-- Each pair lies in a cell. -/
theorem cellAt_ex {seed : Int} {l : List (Bts × Bts)} (hn : l.length ≤ 100000) {p : Bts × Bts} (h : p ∈ l) : ∃ c, c < cellsN l.length ∧ cellAt seed l c = some p := by
  obtain ⟨i, hi, rfl⟩ := List.getElem_of_mem ((sortE_perm seed l).mem_iff.2 h)
  obtain ⟨c, hc, e⟩ := (posE_laid (seed := seed) hn).mem i (List.mem_range.2 (by rw [← sortE_len seed l]; exact hi))
  refine ⟨c, hc, ?_⟩
  rw [cellAt_pos e, List.getD_eq_getElem?_getD, List.getElem?_eq_getElem hi, Option.getD_some]
/-- No two cells have one key. -/
theorem cellAt_uniq {seed : Int} {l : List (Bts × Bts)} (hk : Keyd l) (hn : l.length ≤ 100000) {c d : Nat} {p q : Bts × Bts} (hc : c < cellsN l.length) (hd : d < cellsN l.length) (h1 : cellAt seed l c = some p) (h2 : cellAt seed l d = some q) (e : p.1 = q.1) : c = d := by
  have hc' : c < (posE seed l).length := by rw [posE_len]; exact hc
  have hd' : d < (posE seed l).length := by rw [posE_len]; exact hd
  have hs := (sortE_srt (seed := seed) hk).2
  rcases posE_val hn hc' with a | ⟨i, hi, a⟩
  · rw [cellAt_free hc' (by omega)] at h1; cases h1
  rcases posE_val hn hd' with b | ⟨j, hj, b⟩
  · rw [cellAt_free hd' (by omega)] at h2; cases h2
  have hi' : i < (sortE seed l).length := by rw [sortE_len]; exact hi
  have hj' : j < (sortE seed l).length := by rw [sortE_len]; exact hj
  rw [cellAt_full hc' a hi'] at h1
  rw [cellAt_full hd' b hj'] at h2
  cases h1
  cases h2
  have no : ∀ x y : Bts × Bts, comesE seed x y = true → x.1 = y.1 → False := fun x y h e => by
    unfold comesE at h
    rw [ordE_same e] at h
    simp at h
  have hij : i = j := by
    rcases Nat.lt_trichotomy i j with h | h | h
    · exact (no _ _ (List.pairwise_iff_getElem.1 hs i j hi' hj' h) e).elim
    · exact h
    · exact (no _ _ (List.pairwise_iff_getElem.1 hs j i hj' hi' h) e.symm).elim
  subst hij
  have hL := posE_laid (seed := seed) hn
  refine hL.uniq c d i hc hd ?_ ?_
  · rw [List.getD_eq_getElem?_getD, List.getElem?_eq_getElem hc', Option.getD_some]; exact a
  · rw [List.getD_eq_getElem?_getD, List.getElem?_eq_getElem hd', Option.getD_some]; exact b
theorem countP_one {α : Type} {p : α → Bool} : ∀ {l : List α} {c : Nat} (hc : c < l.length), p l[c] = true → (∀ d (hd : d < l.length), p l[d] = true → d = c) → l.countP p = 1
  | x :: l, 0, hc, h1, h2 => by
    simp only [List.getElem_cons_zero] at h1
    rw [List.countP_cons, if_pos h1, List.countP_eq_zero.2]
    intro y hy
    obtain ⟨d, hd, rfl⟩ := List.getElem_of_mem hy
    intro hp
    have := h2 (d + 1) (by simpa using hd) (by simpa using hp)
    omega
  | x :: l, c + 1, hc, h1, h2 => by
    simp only [List.getElem_cons_succ] at h1
    have hx : ¬ p x = true := fun hp => by
      have := h2 0 (by simp) (by simpa using hp)
      omega
    rw [List.countP_cons, if_neg hx]
    exact countP_one (by simpa using hc) h1 fun d hd hp => by
      have := h2 (d + 1) (by simpa using hd) (by simpa using hp)
      omega
def fullE (o : Option (Bts × Bts)) : Bool := o.isSome
def hasE (key : Bts) (o : Option (Bts × Bts)) : Bool := match o with
  | none => false
  | some p => decide (p.1 = key)
theorem cellAt_get {seed : Int} {l : List (Bts × Bts)} {c : Nat} (hc : c < (celE seed l).length) : (celE seed l)[c] = cellAt seed l c := by
  unfold cellAt
  rw [List.getD_eq_getElem?_getD, List.getElem?_eq_getElem hc, Option.getD_some]
theorem celE_full_count {seed : Int} {l : List (Bts × Bts)} (hn : l.length ≤ 100000) : (celE seed l).countP fullE = l.length := by
  obtain ⟨_, c8, c4, _, _⟩ := cellsN_spec hn
  have h := layF_fullN (cells := cellsN l.length) (home := fun i => hmE seed (cellsN l.length) ((sortE seed l).getD i default).1) (l := List.range l.length) (by simp; omega) List.nodup_range (fun i _ => hmE_lt _ _ (by omega))
  rw [List.length_range] at h
  have e : (celE seed l).countP fullE = fullN (posE seed l) := by
    unfold celE fullN
    rw [List.countP_map]
    congr 1
    funext x
    simp only [Function.comp_apply, fullE]
    split
    · rw [decide_eq_false (by omega)]; rfl
    · rw [decide_eq_true (by omega)]; rfl
  rw [e]
  exact h
theorem celE_has_count {seed : Int} {l : List (Bts × Bts)} (hk : Keyd l) (hn : l.length ≤ 100000) (key : Bts) : (celE seed l).countP (hasE key) = if (tget l key).isSome = true then 1 else 0 := by
  cases ht : tget l key with
  | none =>
    simp only [Option.isSome_none]
    rw [if_neg (by simp), List.countP_eq_zero.2]
    intro x hx
    obtain ⟨c, hc, rfl⟩ := List.getElem_of_mem hx
    rw [cellAt_get hc]
    cases hp : cellAt seed l c with
    | none => simp [hasE]
    | some p =>
      simp only [hasE, decide_eq_true_eq]
      intro e
      subst e
      rw [tget_of_mem hk (cellAt_mem hn hp)] at ht
      cases ht
  | some v =>
    simp only [Option.isSome_some, if_true]
    obtain ⟨c, hc, e⟩ := cellAt_ex (seed := seed) hn (tget_mem ht)
    refine countP_one (c := c) (by rw [celE_len]; exact hc) (by rw [cellAt_get, e]; simp [hasE]) fun d hd hp => ?_
    rw [cellAt_get hd] at hp
    cases hq : cellAt seed l d with
    | none => rw [hq] at hp; cases hp
    | some q =>
      rw [hq] at hp
      simp only [hasE, decide_eq_true_eq] at hp
      rw [celE_len] at hd
      exact cellAt_uniq hk hn hd hc hq e hp
/-- The cells that Looks counts: none but the last one is free or has the key. -/
theorem looksE_way {seed : Int} {l : List (Bts × Bts)} {key : Bts} {j : Nat} (hj : stopAt seed l key j = false) : ∃ q, cellAt seed l (stepC (cellsN l.length) (hmE seed (cellsN l.length) key) j) = some q ∧ q.1 ≠ key := by
  unfold stopAt at hj
  cases hq : cellAt seed l (stepC (cellsN l.length) (hmE seed (cellsN l.length) key) j) with
  | none => rw [hq] at hj; simp [stopE] at hj
  | some q =>
    rw [hq] at hj
    refine ⟨q, rfl, fun e => ?_⟩
    simp only [stopE, decide_eq_false_iff_not] at hj
    rw [ordE_same (p := (key, [])) e.symm] at hj
    omega
/-- The last one has it, if it is there. -/
theorem looksE_last {seed : Int} {l : List (Bts × Bts)} {key : Bts} (hk : Keyd l) (hn : l.length ≤ 100000) {m : Nat} (hm : m < cellsN l.length) (h1 : stopAt seed l key m = true) (h2 : ∀ j, j < m → stopAt seed l key j = false) :
    hasE key (cellAt seed l (stepC (cellsN l.length) (hmE seed (cellsN l.length) key) m)) = (tget l key).isSome := by
  obtain ⟨_, c8, c4, _, _⟩ := cellsN_spec hn
  have hh := hmE_lt seed key (show 0 < cellsN l.length by omega)
  cases ht : tget l key with
  | none =>
    cases hp : cellAt seed l (stepC (cellsN l.length) (hmE seed (cellsN l.length) key) m) with
    | none => rfl
    | some p =>
      simp only [hasE, Option.isSome_none, decide_eq_false_iff_not]
      intro e
      subst e
      rw [tget_of_mem hk (cellAt_mem hn hp)] at ht
      cases ht
  | some v =>
    obtain ⟨c, hc, e⟩ := cellAt_ex (seed := seed) hn (tget_mem ht)
    obtain ⟨k, k1, k2, k3⟩ := celE_path (seed := seed) hk hn hc e
    simp only at k2 k3
    have hs : stopAt seed l key k = true := by
      unfold stopAt
      rw [← k2, e]
      simp [stopE, ordE_same (seed := seed) (p := (key, [])) (q := (key, v)) rfl]
    have hkm : k = m := by
      rcases Nat.lt_trichotomy k m with h | h | h
      · rw [h2 k h] at hs; cases hs
      · exact h
      · exfalso
        obtain ⟨q, q1, q2⟩ := k3 m h
        unfold stopAt at h1
        rw [q1] at h1
        simp only [stopE, decide_eq_true_eq] at h1
        have g := comesE_iff.1 q2
        have hz : ordE seed (key, []) q = 0 ∨ ordE seed (key, []) q < 0 := by omega
        rcases hz with hz | hz
        · have e2 := ordE_zero hz
          simp only at e2
          unfold comesE at q2
          rw [ordE_same e2.symm] at q2
          simp at q2
        · have g2 := ordE_lt.1 hz
          simp only at g g2
          have := cmpB_neg key q.1
          omega
    rw [← hkm, ← k2, e]
    simp [hasE]
theorem hasE_stop {key : Bts} {o : Option (Bts × Bts)} : hasE key o = ((cellT o).1 && decide ((cellT o).2.1 = key)) := by
  cases o with
  | none => rfl
  | some p => rfl
theorem pow2_small : ∀ n ≤ 120, 8 ≤ cellsN n ∧ cellsN n ≤ 256 ∧ bits .and .i64 (cellsN n : Int) ((cellsN n : Int) - 1) = 0 ∧ 4 * n ≤ 3 * cellsN n ∧ (cellsN n = 8 ∨ 3 * (cellsN n / 2) < 4 * n) := by decide +kernel
end Go.Proofs.Ytaopjdjbpamhhaa
/- Proved: plain: tables by different scripts hold the same pairs. No program. No condition. -/
namespace Go.Proofs.Ytaopjdjbpamhhaa
open Go Go.RowKit
set_option linter.unusedVariables false
set_option linter.unusedSimpArgs false

theorem tput_keys : ∀ (l : List (Bts × Bts)) (k v : Bts), (tput l k v).map (·.1) = if k ∈ l.map (·.1) then l.map (·.1) else l.map (·.1) ++ [k]
  | [], k, v => by simp [tput]
  | p :: l, k, v => by
    rw [tput]
    split
    · rename_i e; subst e; simp
    · rename_i e
      rw [List.map_cons, tput_keys l k v]
      by_cases h : k ∈ l.map (·.1)
      · rw [if_pos h, if_pos (by simp only [List.map_cons, List.mem_cons]; exact .inr h)]; rfl
      · rw [if_neg h, if_neg (by simp only [List.map_cons, List.mem_cons]; rintro (h2 | h2); exact e h2.symm; exact h h2)]; rfl
theorem keyd_iff {l : List (Bts × Bts)} : Keyd l ↔ (l.map (·.1)).Nodup := by
  unfold Keyd List.Nodup
  rw [List.pairwise_map]
theorem tput_keyd {l : List (Bts × Bts)} (h : Keyd l) (k v : Bts) : Keyd (tput l k v) := by
  rw [keyd_iff] at *
  rw [tput_keys]
  split
  · exact h
  · rename_i hn
    rw [List.nodup_append]
    refine ⟨h, by simp, fun a ha b hb e => ?_⟩
    simp only [List.mem_singleton] at hb
    subst e
    subst hb
    exact hn ha
theorem tdel_keyd : ∀ {l : List (Bts × Bts)} (h : Keyd l) (k : Bts), Keyd (tdel l k)
  | [], h, k => h
  | p :: l, h, k => by
    obtain ⟨h1, h2⟩ := List.pairwise_cons.1 h
    rw [tdel]
    split
    · exact h2
    · exact List.pairwise_cons.2 ⟨fun q hq => h1 q (tdel_mem hq), tdel_keyd h2 k⟩
theorem tdel_ne : ∀ {l : List (Bts × Bts)} (h : Keyd l) (k : Bts) {p : Bts × Bts}, p ∈ tdel l k → p.1 ≠ k
  | [], h, k, p, hp => by simp [tdel] at hp
  | q :: l, h, k, p, hp => by
    obtain ⟨h1, h2⟩ := List.pairwise_cons.1 h
    rw [tdel] at hp
    split at hp
    · rename_i e
      subst e
      exact (h1 p hp).symm
    · rename_i e
      rcases List.mem_cons.1 hp with rfl | hp
      · exact e
      · exact tdel_ne h2 k hp
theorem tput_mem_iff : ∀ {l : List (Bts × Bts)} (h : Keyd l) {k v : Bts} {p : Bts × Bts}, p ∈ tput l k v ↔ p = (k, v) ∨ (p ∈ l ∧ p.1 ≠ k)
  | [], h, k, v, p => by simp [tput]
  | q :: l, h, k, v, p => by
    obtain ⟨h1, h2⟩ := List.pairwise_cons.1 h
    rw [tput]
    split
    · rename_i e
      subst e
      simp only [List.mem_cons]
      constructor
      · rintro (rfl | hp)
        · exact .inl rfl
        · exact .inr ⟨.inr hp, (h1 p hp).symm⟩
      · rintro (rfl | ⟨rfl | hp, hn⟩)
        · exact .inl rfl
        · exact (hn rfl).elim
        · exact .inr hp
    · rename_i e
      simp only [List.mem_cons, tput_mem_iff h2]
      constructor
      · rintro (rfl | rfl | ⟨hp, hn⟩)
        · exact .inr ⟨.inl rfl, e⟩
        · exact .inl rfl
        · exact .inr ⟨.inr hp, hn⟩
      · rintro (rfl | ⟨rfl | hp, hn⟩)
        · exact .inr (.inl rfl)
        · exact .inl rfl
        · exact .inr (.inr ⟨hp, hn⟩)
theorem opsT_keyd' : ∀ (l : List OpK) (out : List (Bts × Bts)), Keyd out → Keyd (l.foldl opT out)
  | [], out, h => h
  | o :: l, out, h => by
    refine opsT_keyd' l (opT out o) ?_
    unfold opT
    split
    · exact tdel_keyd h _
    · split
      · exact tput_keyd h _ _
      · exact h
theorem opsT_mem' : ∀ (l : List OpK) (out : List (Bts × Bts)) {p : Bts × Bts}, p ∈ l.foldl opT out → p ∈ out ∨ ∃ o ∈ l, o.2.1 = p.1
  | [], out, p, h => .inl h
  | o :: l, out, p, h => by
    rcases opsT_mem' l (opT out o) h with h | ⟨q, hq, e⟩
    · unfold opT at h
      split at h
      · exact .inl (tdel_mem h)
      · split at h
        · rcases tput_mem h with rfl | h
          · exact .inr ⟨o, List.mem_cons_self, rfl⟩
          · exact .inl h
        · exact .inl h
    · exact .inr ⟨q, List.mem_cons_of_mem _ hq, e⟩
theorem opsT_keyd (l : List OpK) : Keyd (opsT l) := opsT_keyd' l [] List.Pairwise.nil
theorem opsT_mem {l : List OpK} {p : Bts × Bts} (h : p ∈ opsT l) : ∃ o ∈ l, o.2.1 = p.1 := by
  rcases opsT_mem' l [] h with h | h
  · simp at h
  · exact h
/-- All puts. -/
def putT (out : List (Bts × Bts)) (o : OpK) : List (Bts × Bts) := if allowedK o.2.1 o.2.2 = true then tput out o.2.1 o.2.2 else out
def putsT (l : List OpK) : List (Bts × Bts) := l.foldl putT []
theorem putsT_succ {l : List OpK} {n : Nat} (h : n < l.length) : putsT (l.take (n + 1)) = putT (putsT (l.take n)) l[n] := by
  unfold putsT
  rw [List.take_add_one, List.getElem?_eq_getElem h, List.foldl_append]
  rfl
theorem putT_len (out : List (Bts × Bts)) (o : OpK) : (putT out o).length ≤ out.length + 1 := by
  unfold putT
  split
  · rw [tput_len]; split <;> omega
  · omega
theorem putsT_len' : ∀ (l : List OpK) (out : List (Bts × Bts)), (l.foldl putT out).length ≤ out.length + l.length
  | [], out => by simp
  | o :: l, out => by
    have h1 := putsT_len' l (putT out o)
    have h2 := putT_len out o
    rw [List.foldl_cons, List.length_cons]
    omega
theorem putsT_len (l : List OpK) : (putsT l).length ≤ l.length := by have := putsT_len' l []; simpa [putsT] using this
theorem putsT_keyd' : ∀ (l : List OpK) (out : List (Bts × Bts)), Keyd out → Keyd (l.foldl putT out)
  | [], out, h => h
  | o :: l, out, h => by
    refine putsT_keyd' l (putT out o) ?_
    unfold putT
    split
    · exact tput_keyd h _ _
    · exact h
theorem putsT_mem' : ∀ (l : List OpK) (out : List (Bts × Bts)) {p : Bts × Bts}, p ∈ l.foldl putT out → p ∈ out ∨ ∃ o ∈ l, o.2.1 = p.1
  | [], out, p, h => .inl h
  | o :: l, out, p, h => by
    rcases putsT_mem' l (putT out o) h with h | ⟨q, hq, e⟩
    · unfold putT at h
      split at h
      · rcases tput_mem h with rfl | h
        · exact .inr ⟨o, List.mem_cons_self, rfl⟩
        · exact .inl h
      · exact .inl h
    · exact .inr ⟨q, List.mem_cons_of_mem _ hq, e⟩
/-- All keys of a script dropped. -/
def delsT (out : List (Bts × Bts)) (l : List OpK) : List (Bts × Bts) := l.foldl (fun out o => tdel out o.2.1) out
theorem delsT_succ {out : List (Bts × Bts)} {l : List OpK} {n : Nat} (h : n < l.length) : delsT out (l.take (n + 1)) = tdel (delsT out (l.take n)) l[n].2.1 := by
  unfold delsT
  rw [List.take_add_one, List.getElem?_eq_getElem h, List.foldl_append]
  rfl
theorem delsT_len : ∀ (l : List OpK) (out : List (Bts × Bts)), (delsT out l).length ≤ out.length
  | [], out => Nat.le_refl _
  | o :: l, out => Nat.le_trans (delsT_len l (tdel out o.2.1)) (tdel_len _ _)
theorem delsT_mem : ∀ (l : List OpK) {out : List (Bts × Bts)} (h : Keyd out) {p : Bts × Bts}, p ∈ delsT out l → p ∈ out ∧ ∀ o ∈ l, o.2.1 ≠ p.1
  | [], out, h, p, hp => ⟨hp, fun _ h => by simp at h⟩
  | o :: l, out, h, p, hp => by
    obtain ⟨h1, h2⟩ := delsT_mem l (tdel_keyd h o.2.1) hp
    refine ⟨tdel_mem h1, fun q hq => ?_⟩
    rcases List.mem_cons.1 hq with rfl | hq
    · exact (tdel_ne h _ h1).symm
    · exact h2 q hq
theorem delsT_puts (l : List OpK) : delsT (putsT l) l = [] := by
  refine List.eq_nil_iff_forall_not_mem.2 fun p hp => ?_
  obtain ⟨h1, h2⟩ := delsT_mem l (putsT_keyd' l [] List.Pairwise.nil) hp
  rcases putsT_mem' l [] h1 with h | ⟨o, ho, e⟩
  · simp at h
  · exact h2 o ho e
/-- The pairs of a table with some keys, from the last key on. -/
def backT (A : List (Bts × Bts)) (ks : List Bts) : List (Bts × Bts) := ks.foldr (fun k out => match tget A k with
  | none => out
  | some v => tput out k v) []
theorem backT_nil (A : List (Bts × Bts)) : backT A [] = [] := rfl
theorem backT_cons_none {A : List (Bts × Bts)} {k : Bts} {ks : List Bts} (h : tget A k = none) : backT A (k :: ks) = backT A ks := by
  unfold backT
  rw [List.foldr_cons, h]
theorem backT_cons_some {A : List (Bts × Bts)} {k v : Bts} {ks : List Bts} (h : tget A k = some v) : backT A (k :: ks) = tput (backT A ks) k v := by
  unfold backT
  rw [List.foldr_cons, h]
theorem backT_len (A : List (Bts × Bts)) : ∀ ks, (backT A ks).length ≤ ks.length
  | [] => by simp [backT]
  | k :: ks => by
    have ih := backT_len A ks
    cases h : tget A k with
    | none => rw [backT_cons_none h, List.length_cons]; omega
    | some v => rw [backT_cons_some h, tput_len, List.length_cons]; split <;> omega
theorem backT_keyd (A : List (Bts × Bts)) : ∀ ks, Keyd (backT A ks)
  | [] => List.Pairwise.nil
  | k :: ks => by
    cases h : tget A k with
    | none => rw [backT_cons_none h]; exact backT_keyd A ks
    | some v => rw [backT_cons_some h]; exact tput_keyd (backT_keyd A ks) _ _
theorem backT_mem {A : List (Bts × Bts)} (hA : Keyd A) : ∀ (ks : List Bts) {p : Bts × Bts}, p ∈ backT A ks ↔ p ∈ A ∧ p.1 ∈ ks
  | [], p => by simp [backT]
  | k :: ks, p => by
    cases h : tget A k with
    | none =>
      rw [backT_cons_none h, backT_mem hA ks, List.mem_cons]
      constructor
      · exact fun ⟨a, b⟩ => ⟨a, .inr b⟩
      · rintro ⟨a, rfl | b⟩
        · rw [tget_of_mem hA a] at h; cases h
        · exact ⟨a, b⟩
    | some v =>
      rw [backT_cons_some h, tput_mem_iff (backT_keyd A ks), backT_mem hA ks, List.mem_cons]
      constructor
      · rintro (rfl | ⟨⟨a, b⟩, _⟩)
        · exact ⟨tget_mem h, .inl rfl⟩
        · exact ⟨a, .inr b⟩
      · rintro ⟨a, b⟩
        by_cases e : p.1 = k
        · left
          subst e
          have := tget_of_mem hA a
          rw [h] at this
          cases this
          rfl
        · exact .inr ⟨⟨a, b.elim (fun h => (e h).elim) id⟩, e⟩
theorem keyd_nodup {l : List (Bts × Bts)} (h : Keyd l) : l.Nodup := List.Pairwise.imp (fun hn e => hn (by rw [e])) h
theorem backT_perm {l : List OpK} : (opsT l).Perm (backT (opsT l) (l.map fun o => o.2.1)) := by
  refine (List.perm_ext_iff_of_nodup (keyd_nodup (opsT_keyd l)) (keyd_nodup (backT_keyd _ _))).2 fun p => ?_
  rw [backT_mem (opsT_keyd l)]
  constructor
  · intro h
    obtain ⟨o, ho, e⟩ := opsT_mem h
    exact ⟨h, List.mem_map.2 ⟨o, ho, e⟩⟩
  · exact fun h => h.1
end Go.Proofs.Ytaopjdjbpamhhaa
