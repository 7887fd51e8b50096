/- Proved: contracts of the map's functions on nodes: above, side, split, merge. Conditions: nodes as a tree in memory, of at most a thousand million pairs of lengths that are allowed. -/
import Derived.Test.YtaopjdjbpamhhaaCmp
namespace Go.Proofs.Ytaopjdjbpamhhaa
open Go Go.RowKit
set_option linter.unusedVariables false
set_option linter.unusedSimpArgs false

/-- A tree in memory: p leads to it, S are the blocks of its nodes, D those of its bytes. -/
def TreeAt (seed : Int) (D : Nat → Prop) (w : World) : Tr → Option Nat → List Nat → Prop
  | .nil, p, S => p = none ∧ S = []
  | .nd l k v r, p, S => ∃ b pl pr Sl Sr kv vv, p = some b ∧ S = b :: (Sl ++ Sr) ∧ w.heap[b]? = some (nodeObj kv vv (coin seed 3 k) pl pr ((1 + l.size + r.size : Nat) : Int) ((Tr.nd l k v r).dg seed)) ∧ BV D w kv k ∧ BV D w vv v ∧ TreeAt seed D w l pl Sl ∧ TreeAt seed D w r pr Sr
section
variable {seed : Int} {D D' X : Nat → Prop} {w w' : World}
theorem TreeAt.lt : ∀ {t : Tr} {p : Option Nat} {S : List Nat}, TreeAt seed D w t p S → ∀ b ∈ S, b < w.heap.size
  | .nil, _, _, ⟨_, rfl⟩ => by simp
  | .nd l k v r, _, _, ⟨b, pl, pr, Sl, Sr, kv, vv, _, rfl, ho, _, _, hl, hr⟩ => by
    intro x hx
    rcases List.mem_cons.1 hx with rfl | hx
    · exact block_lt ho
    · rcases List.mem_append.1 hx with hx | hx
      · exact TreeAt.lt hl x hx
      · exact TreeAt.lt hr x hx
theorem TreeAt.kept (k : Kept X w w') (hD : ∀ b, D b → b < w.heap.size → ¬ X b) : ∀ {t : Tr} {p : Option Nat} {S : List Nat}, (∀ b ∈ S, ¬ X b) → TreeAt seed D w t p S → TreeAt seed D w' t p S
  | .nil, _, _, _, h => h
  | .nd l k' v r, _, _, hS, ⟨b, pl, pr, Sl, Sr, kv, vv, h1, h2, ho, hk, hv, hl, hr⟩ =>
    ⟨b, pl, pr, Sl, Sr, kv, vv, h1, h2, k.obj (hS b (by rw [h2]; simp)) ho, hk.kept byteEl_k k hD, hv.kept byteEl_k k hD, TreeAt.kept k hD (fun x hx => hS x (by rw [h2]; simp [hx])) hl, TreeAt.kept k hD (fun x hx => hS x (by rw [h2]; simp [hx])) hr⟩
theorem TreeAt.wide (hD : ∀ b, D b → b < w.heap.size → D' b) : ∀ {t : Tr} {p : Option Nat} {S : List Nat}, TreeAt seed D w t p S → TreeAt seed D' w t p S
  | .nil, _, _, h => h
  | .nd l k' v r, _, _, ⟨b, pl, pr, Sl, Sr, kv, vv, h1, h2, ho, hk, hv, hl, hr⟩ =>
    ⟨b, pl, pr, Sl, Sr, kv, vv, h1, h2, ho, hk.wide byteEl_k hD, hv.wide byteEl_k hD, TreeAt.wide hD hl, TreeAt.wide hD hr⟩
theorem TreeAt.at {t : Tr} {p : Option Nat} {S : List Nat} (h : TreeAt seed D w t p S) (e : w'.heap = w.heap) : TreeAt seed D w' t p S := by
  induction t generalizing p S with
  | nil => exact h
  | nd l k v r ihl ihr =>
    obtain ⟨b, pl, pr, Sl, Sr, kv, vv, h1, h2, ho, hk, hv, hl, hr⟩ := h
    exact ⟨b, pl, pr, Sl, Sr, kv, vv, h1, h2, by rw [e]; exact ho, hk.at e, hv.at e, ihl hl, ihr hr⟩
theorem TreeAt.child : ∀ {t : Tr} {p : Option Nat} {S : List Nat}, TreeAt seed D w t p S → childAt w p (t.size : Int) (t.dg seed)
  | .nil, _, _, ⟨rfl, _⟩ => ⟨rfl, rfl⟩
  | .nd l k v r, _, _, ⟨b, pl, pr, Sl, Sr, kv, vv, rfl, _, ho, _, _, _, _⟩ => ⟨(NodeAt.of ho).c5, (NodeAt.of ho).c6⟩
theorem TreeAt.root {t : Tr} {p : Option Nat} {S : List Nat} {b : Nat} (h : TreeAt seed D w t p S) (hp : p = some b) : b ∈ S := by
  cases t with
  | nil => rw [h.1] at hp; cases hp
  | nd l k v r =>
    obtain ⟨b', _, _, _, _, _, _, h1, rfl, _⟩ := h
    rw [hp] at h1
    simp [Option.some.inj h1]
end

theorem cmpS_lt {a b : Bts} (h : cmpB a b < 0) : cmpS a b < 0 := by rw [cmpS, if_pos h]; decide
theorem cmpS_ge {a b : Bts} (h : ¬ cmpB a b < 0) : 0 ≤ cmpS a b := by rw [cmpS, if_neg h]; split <;> decide

theorem cmpS_neg {a b : Bts} : cmpS a b < 0 ↔ cmpB a b < 0 := ⟨fun h => Classical.byContradiction fun k => by have := cmpS_ge k; omega, cmpS_lt⟩

/-- Whether a node stands above another one. -/
def aboveK (seed : Int) (a b : Bts) : Bool := if coin seed 3 a = coin seed 3 b then decide (cmpB a b < 0) else decide (coin seed 3 b < coin seed 3 a)
set_option maxHeartbeats 400000 in
theorem orabove_calls {seed : Int} {D1 D2 : Nat → Prop} {b1 b2 : Nat} {kv1 vv1 kv2 vv2 : Value} {l1 r1 l2 r2 : Option Nat} {s1 d1 s2 d2 : Int} {k1 k2 : Bts} {w : World}
    (h1 : w.heap[b1]? = some (nodeObj kv1 vv1 (coin seed 3 k1) l1 r1 s1 d1)) (h2 : w.heap[b2]? = some (nodeObj kv2 vv2 (coin seed 3 k2) l2 r2 s2 d2)) (hk1 : BV D1 w kv1 k1) (hk2 : BV D2 w kv2 k2) :
    Calls Try.prog 170 #[.pointer (some ⟨b1, 0, none⟩), .pointer (some ⟨b2, 0, none⟩)] w fun e w' => e = .returned (.bool (aboveK seed k1 k2)) ∧ Drew w w' := by
  obtain ⟨c0, _, c2, _, _, _, _, _⟩ := NodeAt.of h1
  obtain ⟨e0, _, e2, _, _, _, _, _⟩ := NodeAt.of h2
  have K1 := Lib.hid hk1
  have K2 := Lib.hid hk2
  have u1 := coin_u64 seed 3 k1
  have u2 := coin_u64 seed 3 k2
  clear h1 h2 hk1 hk2
  by_cases he : coin seed 3 k1 = coin seed 3 k2
  · have HR := Lib.hid (show aboveK seed k1 k2 = decide (cmpB k1 k2 < 0) by rw [aboveK, if_pos he])
    have hb : (coin seed 3 k1 != coin seed 3 k2) = false := by rw [bne_eq_false_iff_eq]; exact he
    have HE := Lib.hid he
    clear he
    by_cases hc : cmpB k1 k2 < 0
    · have h3 := cmpS_lt hc
      have HC := Lib.hid hc
      clear hc
      go_enter Try.func170, Try.ntmps170
      go_wp2
      go_quiet (fail)
      go_wp2
      go_quiet ((go_at_call 154; first | exact Drew.q (byCompare_drew (K1.out.at rfl) (K2.out.at rfl)) | exact Drew.qa (byCompare_drew (K1.out.at rfl) (K2.out.at rfl))))
      go_wp2
      go_ret
      exact ⟨ret_bool (by have := HC.out; rw [HR.out, Bool.eq_iff_iff]; simp [cmpS_neg] <;> omega), (by repeat (first | exact Drew.refl _ | exact ⟨_, rfl⟩ | apply Drew.step | apply Drew.one))⟩
    · have h3 := cmpS_ge hc
      have HC := Lib.hid hc
      clear hc
      go_enter Try.func170, Try.ntmps170
      go_wp2
      go_quiet (fail)
      go_wp2
      go_quiet ((go_at_call 154; first | exact Drew.q (byCompare_drew (K1.out.at rfl) (K2.out.at rfl)) | exact Drew.qa (byCompare_drew (K1.out.at rfl) (K2.out.at rfl))))
      go_wp2
      go_ret
      exact ⟨ret_bool (by have := HC.out; rw [HR.out, Bool.eq_iff_iff]; simp [cmpS_neg] <;> omega), (by repeat (first | exact Drew.refl _ | exact ⟨_, rfl⟩ | apply Drew.step | apply Drew.one))⟩
  · have HR := Lib.hid (show aboveK seed k1 k2 = decide (coin seed 3 k2 < coin seed 3 k1) by rw [aboveK, if_neg he])
    have hb : (coin seed 3 k1 != coin seed 3 k2) = true := by rw [bne_iff_ne]; exact he
    clear he
    go_enter Try.func170, Try.ntmps170
    go_wp2
    go_quiet (fail)
    go_wp2
    go_quiet (fail)
    go_wp2
    go_ret
    exact ⟨ret_bool HR.out.symm, (by repeat (first | exact Drew.refl _ | exact ⟨_, rfl⟩ | apply Drew.step | apply Drew.one))⟩

theorem orfresh_tree {seed : Int} {D : Nat → Prop} {m b : Nat} {kv vv : Value} {l r : Tr} {k v : Bts} {pl pr : Option Nat} {Sl Sr : List Nat} {s0 d0 : Int} {w : World}
    (hm : w.cell? ⟨m, 1, none⟩ = some (.int .u64 seed)) (hb : w.heap[b]? = some (nodeObj kv vv (coin seed 3 k) pl pr s0 d0)) (hl : TreeAt seed D w l pl Sl) (hr : TreeAt seed D w r pr Sr) (hk : BV D w kv k) (hv : BV D w vv v)
    (hbl : b ∉ Sl) (hbr : b ∉ Sr) (hD : ¬ D b) (hmb : m ≠ b) (hkl : k.length ≤ 64) (hvl : v.length ≤ 1000) (hsz : l.size + r.size ≤ 1000000000) :
    Calls Try.prog 169 #[.pointer (some ⟨m, 0, none⟩), .pointer (some ⟨b, 0, none⟩)] w fun e w' => e = .returned (.pointer (some ⟨b, 0, none⟩)) ∧ TreeAt seed D w' (.nd l k v r) (some b) (b :: (Sl ++ Sr)) ∧ Kept (fun x => x = b) w w' := by
  refine (orfresh_calls (nl := (l.size : Int)) (nr := (r.size : Int)) hm hb hmb hl.child hr.child hk hv hD hD hkl hvl (Tr.dg_u64 _ _) (Tr.dg_u64 _ _) (by omega) (by omega) (by omega) (fun h => hbl (hl.root h)) (fun h => hbr (hr.root h))).mono ?_
  rintro e w' ⟨he, ho, kw⟩
  have hDk : ∀ x, D x → x < w.heap.size → ¬ x = b := fun x hx _ h => hD (h ▸ hx)
  refine ⟨he, ⟨b, pl, pr, Sl, Sr, kv, vv, rfl, rfl, ?_, hk.kept byteEl_k kw hDk, hv.kept byteEl_k kw hDk, hl.kept kw hDk fun x hx h => hbl (h ▸ hx), hr.kept kw hDk fun x hx h => hbr (h ▸ hx)⟩, kw⟩
  rw [ho]
  congr 2

/-- Nodes parted into those of lesser keys and the others. -/
def Tr.split (key : Bts) : Tr → Tr × Tr
  | nil => (nil, nil)
  | nd l k v r => if cmpB k key < 0 then (nd l k v (r.split key).1, (r.split key).2) else ((l.split key).1, nd (l.split key).2 k v r)
theorem Tr.split_size (key : Bts) : ∀ t : Tr, (t.split key).1.size + (t.split key).2.size = t.size
  | nil => rfl
  | nd l k v r => by
    have h1 := split_size key l
    have h2 := split_size key r
    rw [Tr.split]
    split <;> simp only [Tr.size] <;> omega

set_option maxHeartbeats 1000000 in
theorem orsplit_calls {seed : Int} {D D2 : Nat → Prop} {m : Nat} {kx : Value} {key : Bts} : ∀ (t : Tr) (p : Option Nat) (S : List Nat) (w : World), TreeAt seed D w t p S → S.Nodup → (∀ b ∈ S, ¬ D b ∧ ¬ D2 b ∧ b ≠ m) → w.cell? ⟨m, 1, none⟩ = some (.int .u64 seed) → t.ok → t.size ≤ 500000000 → BV D2 w kx key →
    Calls Try.prog 171 #[.pointer (some ⟨m, 0, none⟩), ptr p, kx] w fun e w' => ∃ p1 p2 S1 S2, e = .returned (.tuple #[ptr p1, ptr p2]) ∧ TreeAt seed D w' (t.split key).1 p1 S1 ∧ TreeAt seed D w' (t.split key).2 p2 S2 ∧ (S1 ++ S2).Perm S ∧ Kept (· ∈ S) w w' := by
  intro t
  induction t with
  | nil =>
    rintro p S w ⟨rfl, rfl⟩ _ _ _ _ _ _
    show Calls Try.prog 171 #[_, .pointer none, _] w _
    go_enter Try.func171, Try.ntmps171
    go_wp2
    go_ret2
    exact ⟨none, none, [], [], rfl, ⟨rfl, rfl⟩, ⟨rfl, rfl⟩, List.Perm.nil, Kept.refl _ _⟩
  | nd l k v r ihl ihr =>
    rintro p S w ⟨b, pl, pr, Sl, Sr, kv, vv, rfl, rfl, ho, hk, hv, hl, hr⟩ hnd hS hm hok hsz hkx
    have hch := NodeAt.of ho
    obtain ⟨c0, c1, c2, c3, c4, c5, c6, fr⟩ := hch
    by_cases hc : cmpB k key < 0
    · have h3 := cmpS_lt hc
      have HO := Lib.hid ho
      have HK := Lib.hid hk
      have HV := Lib.hid hv
      have HL := Lib.hid hl
      have HR := Lib.hid hr
      have HX := Lib.hid hkx
      have HC := Lib.hid hc
      have HS := Lib.hid hS
      have HN := Lib.hid hnd
      have HM := Lib.hid hm
      have HOK := Lib.hid hok
      have IR := Lib.hid ihr
      clear ho hk hv hl hr hkx hc hS hnd hm hok fr ihl ihr c1 c2 c5 c6
      show Calls Try.prog 171 #[_, .pointer (some ⟨b, 0, none⟩), _] w _
      go_enter Try.func171, Try.ntmps171
      go_wp2_with fail
      refine (byCompare_calls HK.out HX.out).mono ?_
      rintro e w' ⟨rfl, rfl⟩
      go_wp2_with fail
      have hSr : ∀ x ∈ Sr, x ∈ b :: (Sl ++ Sr) := fun x hx => by simp [hx]
      have hnd := HN.out
      rw [List.nodup_cons, List.nodup_append] at hnd
      have hsz2 : r.size ≤ 500000000 := by simp only [Tr.size] at hsz; omega
      have HND := Lib.hid hnd
      clear hnd
      refine (IR.out pr Sr _ HR.out HND.out.2.2.1 (fun x hx => HS.out x (hSr x hx)) HM.out HOK.out.2.2 hsz2 HX.out).mono ?_
      rintro e w1 ⟨p1, p2, S1, S2, rfl, t1, t2, hp, k1⟩
      have hbr : b ∉ Sr := fun h => HND.out.1 (by simp [h])
      have ho1 := k1.obj hbr HO.out
      have d4 := (NodeAt.of ho1).c4
      have df4 := (NodeAt.of ho1).fr 4
      have HO1 := Lib.hid ho1
      have T1 := Lib.hid t1
      have T2 := Lib.hid t2
      have HP := Lib.hid hp
      have K1 := Lib.hid k1
      clear ho1 t1 t2 hp k1 c0 c3 c4 HO HR IR
      go_wp2_with fail
      have ho2 : (w1.setCell ⟨b, 4, none⟩ (.pointer (adr p1))).heap[b]? = some (nodeObj kv vv (coin seed 3 k) pl p1 ((1 + l.size + r.size : Nat) : Int) ((Tr.nd l k v r).dg seed)) := setCell_obj HO1.out _
      have kb : Kept (fun x => x = b) w1 (w1.setCell ⟨b, 4, none⟩ (.pointer (adr p1))) := (Kept.refl (fun x => x = b) w1).setCell (p := ⟨b, 4, none⟩) (.inl rfl) _
      generalize w1.setCell ⟨b, 4, none⟩ (.pointer (adr p1)) = w2 at *
      have kw2 : Kept (fun x => x = b ∨ x ∈ Sr) w' w2 := (K1.out.mono fun _ h => .inr h).trans kb fun x h => .inl (.inl h)
      have hDb : ∀ x, D x → x < w1.heap.size → ¬ x = b := fun x hx _ h => (HS.out b (by simp)).1 (h ▸ hx)
      have hDw : ∀ x, D x → x < w'.heap.size → ¬ (x = b ∨ x ∈ Sr) := fun x hx _ h => (HS.out x (by rcases h with h | h <;> simp [h])).1 hx
      have hS1 : ∀ x ∈ S1, x ∈ Sr := fun x hx => (HP.out.mem_iff).1 (by simp [hx])
      have hS2 : ∀ x ∈ S2, x ∈ Sr := fun x hx => (HP.out.mem_iff).1 (by simp [hx])
      have A1 := Lib.hid (T1.out.kept kb hDb fun x hx h => hbr (h ▸ hS1 x hx))
      have A2 := Lib.hid (T2.out.kept kb hDb fun x hx h => hbr (h ▸ hS2 x hx))
      have AL := Lib.hid (HL.out.kept kw2 hDw fun x hx h => by rcases h with h | h; exact HND.out.1 (by simp [← h, hx]); exact HND.out.2.2.2 x hx x h rfl)
      refine (orfresh_tree (kw2.cell (p := ⟨m, 1, none⟩) (fun h => (HS.out m (by rcases (show m = b ∨ _ from h) with h | h <;> simp [h])).2.2 rfl) HM.out) ho2 AL.out A1.out (HK.out.kept byteEl_k kw2 hDw) (HV.out.kept byteEl_k kw2 hDw) (fun h => HND.out.1 (by simp [h])) (fun h => hbr (hS1 b h)) (HS.out b (by simp)).1 (fun h => (HS.out b (by simp)).2.2 h.symm) HOK.out.2.1.2.1 HOK.out.2.1.2.2 (by have := Tr.split_size key r; simp only [Tr.size] at hsz; omega)).mono ?_
      rintro e w3 ⟨rfl, t3, k3⟩
      have hDb2 : ∀ x, D x → x < w2.heap.size → ¬ x = b := fun x hx _ h => (HS.out b (by simp)).1 (h ▸ hx)
      have R1 := Lib.hid t3
      have R2 := Lib.hid (A2.out.kept k3 hDb2 fun x hx h => hbr (h ▸ hS2 x hx))
      have RK := Lib.hid ((kw2.trans k3 fun x h => .inl (.inl h)).mono fun x h => show x ∈ b :: (Sl ++ Sr) by rcases h with h | h <;> simp [h])
      have RP := Lib.hid (show (b :: (Sl ++ S1) ++ S2).Perm (b :: (Sl ++ Sr)) from by rw [List.cons_append, List.append_assoc]; exact List.Perm.cons b (HP.out.append_left Sl))
      have RS := Lib.hid (show (Tr.nd l k v r).split key = (.nd l k v (r.split key).1, (r.split key).2) by rw [Tr.split, if_pos HC.out])
      clear ho2 kb kw2 hDb hDw hDb2 t3 k3
      go_wp2
      go_ret2
      exact ⟨some b, p2, _, _, rfl, by rw [RS.out]; exact R1.out, by rw [RS.out]; exact R2.out, RP.out, RK.out⟩
    · have h3 := cmpS_ge hc
      have HO := Lib.hid ho
      have HK := Lib.hid hk
      have HV := Lib.hid hv
      have HL := Lib.hid hl
      have HR := Lib.hid hr
      have HX := Lib.hid hkx
      have HC := Lib.hid hc
      have HS := Lib.hid hS
      have HN := Lib.hid hnd
      have HM := Lib.hid hm
      have HOK := Lib.hid hok
      have IR := Lib.hid ihl
      clear ho hk hv hl hr hkx hc hS hnd hm hok fr ihl ihr c1 c2 c5 c6
      show Calls Try.prog 171 #[_, .pointer (some ⟨b, 0, none⟩), _] w _
      go_enter Try.func171, Try.ntmps171
      go_wp2_with fail
      refine (byCompare_calls HK.out HX.out).mono ?_
      rintro e w' ⟨rfl, rfl⟩
      go_wp2_with fail
      have hSr : ∀ x ∈ Sl, x ∈ b :: (Sl ++ Sr) := fun x hx => by simp [hx]
      have hnd := HN.out
      rw [List.nodup_cons, List.nodup_append] at hnd
      have hsz2 : l.size ≤ 500000000 := by simp only [Tr.size] at hsz; omega
      have HND := Lib.hid hnd
      clear hnd
      refine (IR.out pl Sl _ HL.out HND.out.2.1 (fun x hx => HS.out x (hSr x hx)) HM.out HOK.out.1 hsz2 HX.out).mono ?_
      rintro e w1 ⟨p1, p2, S1, S2, rfl, t1, t2, hp, k1⟩
      have hbr : b ∉ Sl := fun h => HND.out.1 (by simp [h])
      have ho1 := k1.obj hbr HO.out
      have d4 := (NodeAt.of ho1).c3
      have df4 := (NodeAt.of ho1).fr 3
      have HO1 := Lib.hid ho1
      have T1 := Lib.hid t1
      have T2 := Lib.hid t2
      have HP := Lib.hid hp
      have K1 := Lib.hid k1
      clear ho1 t1 t2 hp k1 c0 c3 c4 HO HL IR
      go_wp2_with fail
      have ho2 : (w1.setCell ⟨b, 3, none⟩ (.pointer (adr p2))).heap[b]? = some (nodeObj kv vv (coin seed 3 k) p2 pr ((1 + l.size + r.size : Nat) : Int) ((Tr.nd l k v r).dg seed)) := setCell_obj HO1.out _
      have kb : Kept (fun x => x = b) w1 (w1.setCell ⟨b, 3, none⟩ (.pointer (adr p2))) := (Kept.refl (fun x => x = b) w1).setCell (p := ⟨b, 3, none⟩) (.inl rfl) _
      generalize w1.setCell ⟨b, 3, none⟩ (.pointer (adr p2)) = w2 at *
      have kw2 : Kept (fun x => x = b ∨ x ∈ Sl) w' w2 := (K1.out.mono fun _ h => .inr h).trans kb fun x h => .inl (.inl h)
      have hDb : ∀ x, D x → x < w1.heap.size → ¬ x = b := fun x hx _ h => (HS.out b (by simp)).1 (h ▸ hx)
      have hDw : ∀ x, D x → x < w'.heap.size → ¬ (x = b ∨ x ∈ Sl) := fun x hx _ h => (HS.out x (by rcases h with h | h <;> simp [h])).1 hx
      have hS1 : ∀ x ∈ S1, x ∈ Sl := fun x hx => (HP.out.mem_iff).1 (by simp [hx])
      have hS2 : ∀ x ∈ S2, x ∈ Sl := fun x hx => (HP.out.mem_iff).1 (by simp [hx])
      have A1 := Lib.hid (T1.out.kept kb hDb fun x hx h => hbr (h ▸ hS1 x hx))
      have A2 := Lib.hid (T2.out.kept kb hDb fun x hx h => hbr (h ▸ hS2 x hx))
      have AL := Lib.hid (HR.out.kept kw2 hDw fun x hx h => by rcases h with h | h; exact HND.out.1 (by simp [← h, hx]); exact HND.out.2.2.2 x h x hx rfl)
      refine (orfresh_tree (kw2.cell (p := ⟨m, 1, none⟩) (fun h => (HS.out m (by rcases (show m = b ∨ _ from h) with h | h <;> simp [h])).2.2 rfl) HM.out) ho2 A2.out AL.out (HK.out.kept byteEl_k kw2 hDw) (HV.out.kept byteEl_k kw2 hDw) (fun h => hbr (hS2 b h)) (fun h => HND.out.1 (by simp [h])) (HS.out b (by simp)).1 (fun h => (HS.out b (by simp)).2.2 h.symm) HOK.out.2.1.2.1 HOK.out.2.1.2.2 (by have := Tr.split_size key l; simp only [Tr.size] at hsz; omega)).mono ?_
      rintro e w3 ⟨rfl, t3, k3⟩
      have hDb2 : ∀ x, D x → x < w2.heap.size → ¬ x = b := fun x hx _ h => (HS.out b (by simp)).1 (h ▸ hx)
      have R2 := Lib.hid t3
      have R1 := Lib.hid (A1.out.kept k3 hDb2 fun x hx h => hbr (h ▸ hS1 x hx))
      have RK := Lib.hid ((kw2.trans k3 fun x h => .inl (.inl h)).mono fun x h => show x ∈ b :: (Sl ++ Sr) by rcases h with h | h <;> simp [h])
      have RP := Lib.hid (show (S1 ++ b :: (S2 ++ Sr)).Perm (b :: (Sl ++ Sr)) from (List.perm_middle).trans (List.Perm.cons b (by rw [← List.append_assoc]; exact HP.out.append_right Sr)))
      have RS := Lib.hid (show (Tr.nd l k v r).split key = ((l.split key).1, .nd (l.split key).2 k v r) by rw [Tr.split, if_neg (by have := HC.out; omega)])
      clear ho2 kb kw2 hDb hDw hDb2 t3 k3
      go_wp2
      go_ret2
      exact ⟨p1, some b, _, _, rfl, by rw [RS.out]; exact R1.out, by rw [RS.out]; exact R2.out, RP.out, RK.out⟩
end Go.Proofs.Ytaopjdjbpamhhaa
