/- Proved: contracts of the map's functions on nodes: merge, put, drop. Conditions: nodes as a tree in memory, of at most four hundred million pairs of lengths that are allowed. -/
import Derived.Test.YtaopjdjbpamhhaaOrd2
namespace Go.Proofs.Ytaopjdjbpamhhaa
open Go Go.RowKit
set_option linter.unusedVariables false
set_option linter.unusedSimpArgs false

/-- A node whose right child has become another tree, in blocks X: brought up to date. -/
theorem right_done {seed : Int} {D X : Nat → Prop} {m b : Nat} {kv vv : Value} {l r : Tr} {k v : Bts} {pl pr p : Option Nat} {Sl S : List Nat} {s0 d0 : Int} {w w1 : World}
    (hm : w.cell? ⟨m, 1, none⟩ = some (.int .u64 seed)) (ho : w.heap[b]? = some (nodeObj kv vv (coin seed 3 k) pl pr s0 d0)) (hk : BV D w kv k) (hv : BV D w vv v) (hl : TreeAt seed D w l pl Sl)
    (k1 : Kept X w w1) (ht : TreeAt seed D w1 r p S) (hXb : ¬ X b) (hXm : ¬ X m) (hXl : ∀ x ∈ Sl, ¬ X x) (hXD : ∀ x, D x → x < w.heap.size → ¬ X x) (hbl : b ∉ Sl) (hbS : b ∉ S) (hD : ¬ D b) (hmb : m ≠ b)
    (hkl : k.length ≤ 64) (hvl : v.length ≤ 1000) (hsz : l.size + r.size ≤ 1000000000) :
    Calls Try.prog 169 #[.pointer (some ⟨m, 0, none⟩), .pointer (some ⟨b, 0, none⟩)] (w1.setCell ⟨b, 4, none⟩ (.pointer (adr p))) fun e w' => e = .returned (.pointer (some ⟨b, 0, none⟩)) ∧ TreeAt seed D w' (.nd l k v r) (some b) (b :: (Sl ++ S)) ∧ Kept (fun x => x = b ∨ X x) w w' := by
  have ho2 : (w1.setCell ⟨b, 4, none⟩ (.pointer (adr p))).heap[b]? = some (nodeObj kv vv (coin seed 3 k) pl p s0 d0) := setCell_obj (k1.obj hXb ho) _
  have kb : Kept (fun x => x = b) w1 (w1.setCell ⟨b, 4, none⟩ (.pointer (adr p))) := (Kept.refl (fun x => x = b) w1).setCell (p := ⟨b, 4, none⟩) (.inl rfl) _
  generalize w1.setCell ⟨b, 4, none⟩ (.pointer (adr p)) = w2 at *
  have kw2 : Kept (fun x => x = b ∨ X x) w w2 := (k1.mono fun _ h => .inr h).trans kb fun x h => .inl (.inl h)
  have hDb : ∀ (w' : World) x, D x → x < w'.heap.size → ¬ x = b := fun _ x hx _ h => hD (h ▸ hx)
  have hDw : ∀ x, D x → x < w.heap.size → ¬ (x = b ∨ X x) := fun x hx hl h => h.elim (fun h => hD (h ▸ hx)) (hXD x hx hl)
  refine (orfresh_tree (kw2.cell (p := ⟨m, 1, none⟩) (fun h => h.elim hmb hXm) hm) ho2 (hl.kept kw2 hDw fun x hx h => h.elim (fun h => hbl (h ▸ hx)) (hXl x hx)) (ht.kept kb (hDb _) fun x hx h => hbS (h ▸ hx)) (hk.kept byteEl_k kw2 hDw) (hv.kept byteEl_k kw2 hDw) hbl hbS hD hmb hkl hvl hsz).mono ?_
  rintro e w3 ⟨he, t3, k3⟩
  exact ⟨he, t3, kw2.trans k3 fun x h => .inl (.inl h)⟩
theorem left_done {seed : Int} {D X : Nat → Prop} {m b : Nat} {kv vv : Value} {l r : Tr} {k v : Bts} {pl pr p : Option Nat} {Sr S : List Nat} {s0 d0 : Int} {w w1 : World}
    (hm : w.cell? ⟨m, 1, none⟩ = some (.int .u64 seed)) (ho : w.heap[b]? = some (nodeObj kv vv (coin seed 3 k) pl pr s0 d0)) (hk : BV D w kv k) (hv : BV D w vv v) (hr : TreeAt seed D w r pr Sr)
    (k1 : Kept X w w1) (ht : TreeAt seed D w1 l p S) (hXb : ¬ X b) (hXm : ¬ X m) (hXr : ∀ x ∈ Sr, ¬ X x) (hXD : ∀ x, D x → x < w.heap.size → ¬ X x) (hbr : b ∉ Sr) (hbS : b ∉ S) (hD : ¬ D b) (hmb : m ≠ b)
    (hkl : k.length ≤ 64) (hvl : v.length ≤ 1000) (hsz : l.size + r.size ≤ 1000000000) :
    Calls Try.prog 169 #[.pointer (some ⟨m, 0, none⟩), .pointer (some ⟨b, 0, none⟩)] (w1.setCell ⟨b, 3, none⟩ (.pointer (adr p))) fun e w' => e = .returned (.pointer (some ⟨b, 0, none⟩)) ∧ TreeAt seed D w' (.nd l k v r) (some b) (b :: (S ++ Sr)) ∧ Kept (fun x => x = b ∨ X x) w w' := by
  have ho2 : (w1.setCell ⟨b, 3, none⟩ (.pointer (adr p))).heap[b]? = some (nodeObj kv vv (coin seed 3 k) p pr s0 d0) := setCell_obj (k1.obj hXb ho) _
  have kb : Kept (fun x => x = b) w1 (w1.setCell ⟨b, 3, none⟩ (.pointer (adr p))) := (Kept.refl (fun x => x = b) w1).setCell (p := ⟨b, 3, none⟩) (.inl rfl) _
  generalize w1.setCell ⟨b, 3, none⟩ (.pointer (adr p)) = w2 at *
  have kw2 : Kept (fun x => x = b ∨ X x) w w2 := (k1.mono fun _ h => .inr h).trans kb fun x h => .inl (.inl h)
  have hDb : ∀ (w' : World) x, D x → x < w'.heap.size → ¬ x = b := fun _ x hx _ h => hD (h ▸ hx)
  have hDw : ∀ x, D x → x < w.heap.size → ¬ (x = b ∨ X x) := fun x hx hl h => h.elim (fun h => hD (h ▸ hx)) (hXD x hx hl)
  refine (orfresh_tree (kw2.cell (p := ⟨m, 1, none⟩) (fun h => h.elim hmb hXm) hm) ho2 (ht.kept kb (hDb _) fun x hx h => hbS (h ▸ hx)) (hr.kept kw2 hDw fun x hx h => h.elim (fun h => hbr (h ▸ hx)) (hXr x hx)) (hk.kept byteEl_k kw2 hDw) (hv.kept byteEl_k kw2 hDw) hbS hbr hD hmb hkl hvl hsz).mono ?_
  rintro e w3 ⟨he, t3, k3⟩
  exact ⟨he, t3, kw2.trans k3 fun x h => .inl (.inl h)⟩

/-- Two trees joined, all keys of the first one being less (n: more than the nodes of both). -/
def Tr.mergeN (seed : Int) : Nat → Tr → Tr → Tr
  | 0, a, _ => a
  | _ + 1, nil, b => b
  | _ + 1, nd l k v r, nil => nd l k v r
  | n + 1, nd l1 k1 v1 r1, nd l2 k2 v2 r2 => if aboveK seed k1 k2 = true then nd l1 k1 v1 (mergeN seed n r1 (nd l2 k2 v2 r2)) else nd (mergeN seed n (nd l1 k1 v1 r1) l2) k2 v2 r2
theorem Tr.mergeN_size (seed : Int) : ∀ (n : Nat) (a b : Tr), a.size + b.size < n → (Tr.mergeN seed n a b).size = a.size + b.size
  | 0, _, _, h => by omega
  | n + 1, nil, b, _ => by rw [Tr.mergeN]; simp [Tr.size]
  | n + 1, nd l k v r, nil, _ => by rw [Tr.mergeN]; simp [Tr.size]
  | n + 1, nd l1 k1 v1 r1, nd l2 k2 v2 r2, h => by
    simp only [Tr.size] at h
    have h1 := mergeN_size seed n r1 (nd l2 k2 v2 r2) (by simp only [Tr.size]; omega)
    have h2 := mergeN_size seed n (nd l1 k1 v1 r1) l2 (by simp only [Tr.size]; omega)
    simp only [Tr.size] at h1 h2
    rw [Tr.mergeN]
    split <;> simp only [Tr.size] <;> omega

theorem nodup_parts {b : Nat} {Sl Sr : List Nat} (h : (b :: (Sl ++ Sr)).Nodup) : b ∉ Sl ∧ b ∉ Sr ∧ Sl.Nodup ∧ Sr.Nodup ∧ (∀ x ∈ Sl, x ∉ Sr) ∧ (∀ x ∈ Sr, x ∉ Sl) := by
  rw [List.nodup_cons, List.nodup_append] at h
  obtain ⟨h1, h2, h3, h4⟩ := h
  exact ⟨fun h => h1 (by simp [h]), fun h => h1 (by simp [h]), h2, h3, fun x hx hr => h4 x hx x hr rfl, fun x hx hl => h4 x hl x hx rfl⟩

set_option maxHeartbeats 1000000 in
theorem ormerge_calls {seed : Int} {D : Nat → Prop} {m : Nat} : ∀ (n : Nat) (t1 t2 : Tr) (p1 p2 : Option Nat) (S1 S2 : List Nat) (w : World), t1.size + t2.size < n → TreeAt seed D w t1 p1 S1 → TreeAt seed D w t2 p2 S2 → (S1 ++ S2).Nodup → (∀ b ∈ S1 ++ S2, ¬ D b ∧ b ≠ m) → w.cell? ⟨m, 1, none⟩ = some (.int .u64 seed) → t1.ok → t2.ok → t1.size + t2.size ≤ 800000000 →
    Calls Try.prog 172 #[.pointer (some ⟨m, 0, none⟩), ptr p1, ptr p2] w fun e w' => ∃ p S, e = .returned (ptr p) ∧ TreeAt seed D w' (Tr.mergeN seed n t1 t2) p S ∧ S.Perm (S1 ++ S2) ∧ Kept (· ∈ S1 ++ S2) w w' := by
  intro n
  induction n with
  | zero => intro t1 t2 p1 p2 S1 S2 w hn; omega
  | succ n ih =>
    rintro (_ | ⟨l1, k1, v1, r1⟩) t2 p1 p2 S1 S2 w hn h1 h2 hnd hS hm ok1 ok2 hsz
    · obtain ⟨rfl, rfl⟩ := h1
      show Calls Try.prog 172 #[_, .pointer none, _] w _
      have H2 := Lib.hid h2
      clear h2 hS hm hnd ih
      go_enter Try.func172, Try.ntmps172
      go_wp2
      go_ret
      exact ⟨p2, S2, rfl, by rw [Tr.mergeN]; exact H2.out, List.Perm.refl _, Kept.refl _ _⟩
    · rcases t2 with _ | ⟨l2, k2, v2, r2⟩
      · have H1 := Lib.hid h1
        obtain ⟨b, pl, pr, Sl, Sr, kv, vv, rfl, rfl, _⟩ := h1
        obtain ⟨rfl, rfl⟩ := h2
        show Calls Try.prog 172 #[_, .pointer (some ⟨b, 0, none⟩), .pointer none] w _
        clear hS hm hnd ih
        go_enter Try.func172, Try.ntmps172
        go_wp2
        go_ret
        exact ⟨some b, _, rfl, by rw [Tr.mergeN]; exact H1.out, by simp, Kept.refl _ _⟩
      · have H1 := Lib.hid h1
        have H2 := Lib.hid h2
        obtain ⟨b1, pl1, pr1, Sl1, Sr1, kv1, vv1, rfl, rfl, o1, hk1, hv1, hl1, hr1⟩ := h1
        obtain ⟨b2, pl2, pr2, Sl2, Sr2, kv2, vv2, rfl, rfl, o2, hk2, hv2, hl2, hr2⟩ := h2
        obtain ⟨_, _, _, c3, c4, _, _, fr1⟩ := NodeAt.of o1
        obtain ⟨_, _, _, e3, e4, _, _, fr2⟩ := NodeAt.of o2
        have hnd' := List.nodup_append.1 hnd
        have N1 := Lib.hid (nodup_parts hnd'.1)
        have N2 := Lib.hid (nodup_parts hnd'.2.1)
        have N12 := Lib.hid hnd'.2.2
        have O1 := Lib.hid o1
        have O2 := Lib.hid o2
        have K1 := Lib.hid hk1
        have V1 := Lib.hid hv1
        have L1 := Lib.hid hl1
        have R1 := Lib.hid hr1
        have K2 := Lib.hid hk2
        have V2 := Lib.hid hv2
        have L2 := Lib.hid hl2
        have R2 := Lib.hid hr2
        have HS := Lib.hid hS
        have HM := Lib.hid hm
        have OK1 := Lib.hid ok1
        have OK2 := Lib.hid ok2
        have IH := Lib.hid ih
        have HN := Lib.hid hnd
        simp only [Tr.size] at hsz hn
        clear o1 o2 hk1 hv1 hl1 hr1 hk2 hv2 hl2 hr2 hS hm ok1 ok2 ih hnd hnd' fr1 fr2
        show Calls Try.prog 172 #[_, .pointer (some ⟨b1, 0, none⟩), .pointer (some ⟨b2, 0, none⟩)] w _
        cases ha : aboveK seed k1 k2
        · -- the second one stands above
          go_enter Try.func172, Try.ntmps172
          go_wp2_with fail
          refine (orabove_calls O1.out O2.out K1.out K2.out).mono ?_
          rintro e w' ⟨rfl, n1, rfl⟩
          go_wp2_with fail
          have HA := Lib.hid ha
          clear ha
          have q : ∀ x, x ∈ b1 :: (Sl1 ++ Sr1) ++ Sl2 → x ∈ b1 :: (Sl1 ++ Sr1) ++ b2 :: (Sl2 ++ Sr2) := fun x hx => by
            rcases List.mem_append.1 hx with h | h
            · exact List.mem_append.2 (.inl h)
            · exact List.mem_append.2 (.inr (by simp [h]))
          have q2 : (b1 :: (Sl1 ++ Sr1) ++ Sl2).Nodup := List.nodup_append.2 ⟨(List.nodup_append.1 HN.out).1, N2.out.2.2.1, fun a ha b hb => N12.out a ha b (by simp [hb])⟩
          have z1 : (Tr.nd l1 k1 v1 r1).size + l2.size < n := by simp only [Tr.size]; omega
          have z2 : (Tr.nd l1 k1 v1 r1).size + l2.size ≤ 800000000 := by simp only [Tr.size]; omega
          have z3 := Tr.mergeN_size seed n _ _ z1
          have Z3 := Lib.hid z3
          have Q := Lib.hid q
          refine (IH.out _ _ (some b1) pl2 _ Sl2 _ z1 (by exact H1.out.at rfl) (by exact L2.out.at rfl) q2 (fun x hx => HS.out x (q x hx)) (by exact HM.out) OK1.out OK2.out.1 z2).mono ?_
          rintro e w1 ⟨p, S, rfl, t1, hp, k1⟩
          have hb2 : b2 ∉ b1 :: (Sl1 ++ Sr1) ++ Sl2 := fun h => by
            rcases List.mem_append.1 h with h | h
            · exact N12.out b2 h b2 (by simp) rfl
            · exact N2.out.1 h
          have d3 := (NodeAt.of (k1.obj hb2 O2.out)).c3
          have f3 := (NodeAt.of (k1.obj hb2 O2.out)).fr 3
          have T1 := Lib.hid t1
          have HP := Lib.hid hp
          have KW := Lib.hid (((Kept.refl (fun x => x ∈ b1 :: (Sl1 ++ Sr1) ++ Sl2) w).drewN n1).trans k1 fun _ h => .inl h)
          have B2 := Lib.hid hb2
          clear t1 hp k1 hb2 q q2 z1 z2 z3 c3 c4 e3 e4
          go_wp2_with fail
          have hD := HS.out b2 (List.mem_append.2 (.inr (by simp)))
          refine (left_done (l := Tr.mergeN seed n (.nd l1 k1 v1 r1) l2) (S := S) HM.out O2.out K2.out V2.out R2.out KW.out T1.out B2.out (fun h => (HS.out m (Q.out m h)).2 rfl) ?_ (fun x hx _ h => (HS.out x (Q.out x h)).1 hx) N2.out.2.1 (fun h => B2.out ((HP.out.mem_iff).1 h)) hD.1 (fun h => hD.2 h.symm) OK2.out.2.1.2.1 OK2.out.2.1.2.2 ?_).mono ?_
          · intro x hx h
            rcases List.mem_append.1 h with h | h
            · exact N12.out x h x (by simp [hx]) rfl
            · exact N2.out.2.2.2.2.1 x h hx
          · have := Z3.out
            simp only [Tr.size] at this
            omega
          rintro e w3 ⟨rfl, t3, k3⟩
          have R3 := Lib.hid t3
          have RK := Lib.hid (k3.mono fun x h => show x ∈ b1 :: (Sl1 ++ Sr1) ++ b2 :: (Sl2 ++ Sr2) from h.elim (fun h => List.mem_append.2 (.inr (by simp [h]))) (Q.out x))
          have RP := Lib.hid (show (b2 :: (S ++ Sr2)).Perm (b1 :: (Sl1 ++ Sr1) ++ b2 :: (Sl2 ++ Sr2)) from (List.Perm.cons b2 (by rw [← List.append_assoc]; exact HP.out.append_right Sr2)).trans List.perm_middle.symm)
          clear t3 k3 hD d3 f3
          go_wp2
          go_ret
          exact ⟨some b2, _, rfl, by rw [Tr.mergeN, if_neg (by rw [HA.out]; decide)]; exact R3.out, RP.out, RK.out⟩
        · -- the first one
          go_enter Try.func172, Try.ntmps172
          go_wp2_with fail
          refine (orabove_calls O1.out O2.out K1.out K2.out).mono ?_
          rintro e w' ⟨rfl, n1, rfl⟩
          go_wp2_with fail
          have HA := Lib.hid ha
          clear ha
          have q : ∀ x, x ∈ Sr1 ++ b2 :: (Sl2 ++ Sr2) → x ∈ b1 :: (Sl1 ++ Sr1) ++ b2 :: (Sl2 ++ Sr2) := fun x hx => by
            rcases List.mem_append.1 hx with h | h
            · exact List.mem_append.2 (.inl (by simp [h]))
            · exact List.mem_append.2 (.inr h)
          have q2 : (Sr1 ++ b2 :: (Sl2 ++ Sr2)).Nodup := List.nodup_append.2 ⟨N1.out.2.2.2.1, (List.nodup_append.1 HN.out).2.1, fun a ha b hb => N12.out a (by simp [ha]) b hb⟩
          have z1 : r1.size + (Tr.nd l2 k2 v2 r2).size < n := by simp only [Tr.size]; omega
          have z2 : r1.size + (Tr.nd l2 k2 v2 r2).size ≤ 800000000 := by simp only [Tr.size]; omega
          have z3 := Tr.mergeN_size seed n _ _ z1
          have Z3 := Lib.hid z3
          have Q := Lib.hid q
          refine (IH.out _ _ pr1 (some b2) Sr1 _ _ z1 (by exact R1.out.at rfl) (by exact H2.out.at rfl) q2 (fun x hx => HS.out x (q x hx)) (by exact HM.out) OK1.out.2.2 OK2.out z2).mono ?_
          rintro e w1 ⟨p, S, rfl, t1, hp, k1⟩
          have hb1 : b1 ∉ Sr1 ++ b2 :: (Sl2 ++ Sr2) := fun h => by
            rcases List.mem_append.1 h with h | h
            · exact N1.out.2.1 h
            · exact N12.out b1 (by simp) b1 h rfl
          have d3 := (NodeAt.of (k1.obj hb1 O1.out)).c4
          have f3 := (NodeAt.of (k1.obj hb1 O1.out)).fr 4
          have T1 := Lib.hid t1
          have HP := Lib.hid hp
          have KW := Lib.hid (((Kept.refl (fun x => x ∈ Sr1 ++ b2 :: (Sl2 ++ Sr2)) w).drewN n1).trans k1 fun _ h => .inl h)
          have B1 := Lib.hid hb1
          clear t1 hp k1 hb1 q q2 z1 z2 z3 c3 c4 e3 e4
          go_wp2_with fail
          have hD := HS.out b1 (by simp)
          refine (right_done (r := Tr.mergeN seed n r1 (.nd l2 k2 v2 r2)) (S := S) HM.out O1.out K1.out V1.out L1.out KW.out T1.out B1.out (fun h => (HS.out m (Q.out m h)).2 rfl) ?_ (fun x hx _ h => (HS.out x (Q.out x h)).1 hx) N1.out.1 (fun h => B1.out ((HP.out.mem_iff).1 h)) hD.1 (fun h => hD.2 h.symm) OK1.out.2.1.2.1 OK1.out.2.1.2.2 ?_).mono ?_
          · intro x hx h
            rcases List.mem_append.1 h with h | h
            · exact N1.out.2.2.2.2.1 x hx h
            · exact N12.out x (by simp [hx]) x h rfl
          · have := Z3.out
            simp only [Tr.size] at this
            omega
          rintro e w3 ⟨rfl, t3, k3⟩
          have R3 := Lib.hid t3
          have RK := Lib.hid (k3.mono fun x h => show x ∈ b1 :: (Sl1 ++ Sr1) ++ b2 :: (Sl2 ++ Sr2) from h.elim (fun h => List.mem_append.2 (.inl (by simp [h]))) (Q.out x))
          have RP := Lib.hid (show (b1 :: (Sl1 ++ S)).Perm (b1 :: (Sl1 ++ Sr1) ++ b2 :: (Sl2 ++ Sr2)) from by rw [List.cons_append, List.append_assoc]; exact List.Perm.cons b1 (HP.out.append_left Sl1))
          clear t3 k3 hD d3 f3
          go_wp2
          go_ret
          exact ⟨some b1, _, rfl, by rw [Tr.mergeN, if_pos HA.out]; exact R3.out, RP.out, RK.out⟩
end Go.Proofs.Ytaopjdjbpamhhaa
