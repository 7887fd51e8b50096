/- Proved: contracts of the map's functions on nodes: put, drop. Conditions: nodes as a tree in memory, of at most four hundred million pairs of lengths that are allowed. -/
import Derived.Test.YtaopjdjbpamhhaaOrd3
namespace Go.Proofs.Ytaopjdjbpamhhaa
open Go Go.RowKit
set_option linter.unusedVariables false
set_option linter.unusedSimpArgs false

theorem cmpS_zero {a b : Bts} : cmpS a b = 0 ↔ cmpB a b = 0 := by
  unfold cmpS
  split
  · constructor <;> intro h <;> omega
  · split
    · constructor <;> intro h <;> omega
    · constructor <;> intro h <;> omega
theorem cmpS_eq0 {a b : Bts} (h : cmpB a b = 0) : (cmpS a b == 0) = true := beq_iff_eq.2 (cmpS_zero.2 h)
theorem cmpS_ne0 {a b : Bts} (h : ¬ cmpB a b = 0) : (cmpS a b == 0) = false := beq_eq_false_iff_ne.2 fun e => h (cmpS_zero.1 e)

/-- A tree with a pair, in the place of one with its key. -/
def Tr.put (seed : Int) (key val : Bts) : Tr → Tr
  | nil => nd nil key val nil
  | nd l k v r => if cmpB key k = 0 then nd l k val r else if aboveK seed key k = true then nd ((nd l k v r).split key).1 key val ((nd l k v r).split key).2 else if cmpB key k < 0 then nd (l.put seed key val) k v r else nd l k v (r.put seed key val)
theorem Tr.put_size (seed : Int) (key val : Bts) : ∀ t : Tr, (t.put seed key val).size ≤ t.size + 1
  | nil => by simp [Tr.put, Tr.size]
  | nd l k v r => by
    have h1 := put_size seed key val l
    have h2 := put_size seed key val r
    have h3 := Tr.split_size key (nd l k v r)
    simp only [Tr.size] at h3
    rw [Tr.put]
    split
    · simp only [Tr.size]; omega
    · split
      · simp only [Tr.size]; omega
      · split <;> simp only [Tr.size] <;> omega

set_option maxHeartbeats 2000000 in
theorem orput_calls {seed : Int} {D : Nat → Prop} {m bx : Nat} {kx vx : Value} {key val : Bts} (hkl : 1 ≤ key.length ∧ key.length ≤ 64 ∧ val.length ≤ 1000) : ∀ (t : Tr) (p : Option Nat) (S : List Nat) (w : World) (s0 d0 : Int), TreeAt seed D w t p S → S.Nodup → (∀ b ∈ S, ¬ D b ∧ b ≠ m) → w.cell? ⟨m, 1, none⟩ = some (.int .u64 seed) → t.ok → t.size ≤ 400000000 →
    w.heap[bx]? = some (nodeObj kx vx (coin seed 3 key) none none s0 d0) → BV D w kx key → BV D w vx val → bx ∉ S → ¬ D bx → m ≠ bx →
    Calls Try.prog 139 #[.pointer (some ⟨m, 0, none⟩), ptr p, .pointer (some ⟨bx, 0, none⟩)] w fun e w' => ∃ p' S', e = .returned (ptr p') ∧ TreeAt seed D w' (t.put seed key val) p' S' ∧ S'.Nodup ∧ (∀ x ∈ S', x = bx ∨ x ∈ S) ∧ Kept (fun x => x = bx ∨ x ∈ S) w w' := by
  intro t
  induction t with
  | nil =>
    rintro p S w s0 d0 ⟨rfl, rfl⟩ _ _ hm _ _ hx hkx hvx _ hDx hmx
    have HM := Lib.hid hm
    have HX := Lib.hid hx
    have KX := Lib.hid hkx
    have VX := Lib.hid hvx
    clear hm hx hkx hvx
    show Calls Try.prog 139 #[_, .pointer none, _] w _
    go_enter Try.func139, Try.ntmps139
    go_wp2_with fail
    refine (orfresh_tree (l := .nil) (r := .nil) (Sl := []) (Sr := []) HM.out HX.out ⟨rfl, rfl⟩ ⟨rfl, rfl⟩ KX.out VX.out (by simp) (by simp) hDx hmx hkl.2.1 hkl.2.2 (by simp [Tr.size])).mono ?_
    rintro e w1 ⟨rfl, t1, k1⟩
    have T1 := Lib.hid t1
    have K1 := Lib.hid (k1.mono fun x h => show x = bx ∨ x ∈ ([] : List Nat) from .inl h)
    clear t1 k1
    go_wp2
    go_ret
    exact ⟨some bx, [bx], rfl, T1.out, by simp, by simp, K1.out⟩
  | nd l k v r ihl ihr =>
    rintro p S w s0 d0 h hnd hS hm hok hsz hx hkx hvx hbx hDx hmx
    have HT := Lib.hid h
    obtain ⟨b, pl, pr, Sl, Sr, kv, vv, rfl, rfl, ho, hk, hv, hl, hr⟩ := h
    obtain ⟨c0, c1, _, c3, c4, _, _, fr⟩ := NodeAt.of ho
    obtain ⟨x0, x1, _, x3, x4, _, _, fx⟩ := NodeAt.of hx
    have f1 := fr 1
    obtain ⟨ax, cx, rfl, _⟩ : ∃ a c, vx = .slice a val.length c ∧ True := by obtain ⟨a, c, h, _⟩ := hvx; exact ⟨a, c, h, trivial⟩
    have HO := Lib.hid ho
    have HK := Lib.hid hk
    have HV := Lib.hid hv
    have HL := Lib.hid hl
    have HR := Lib.hid hr
    have HS := Lib.hid hS
    have N := Lib.hid (nodup_parts hnd)
    have HN := Lib.hid hnd
    have HM := Lib.hid hm
    have OK := Lib.hid hok
    have HX := Lib.hid hx
    have KX := Lib.hid hkx
    have VX := Lib.hid hvx
    have IL := Lib.hid ihl
    have IR := Lib.hid ihr
    have BX := Lib.hid hbx
    have HD := Lib.hid (hS b (by simp))
    have bxb : bx ≠ b := fun h => hbx (by simp [h])
    have BXB := Lib.hid bxb
    have TS := Lib.hid (Tr.split_size key (.nd l k v r))
    simp only [Tr.size] at hsz
    clear ho hk hv hl hr hS hm hok hx hkx hvx ihl ihr hbx hnd fr fx
    show Calls Try.prog 139 #[_, .pointer (some ⟨b, 0, none⟩), _] w _
    by_cases e0 : cmpB key k = 0
    · have t0 := cmpS_eq0 e0
      have E0 := Lib.hid e0
      clear e0
      go_enter Try.func139, Try.ntmps139
      go_wp2
      go_quiet ((go_at_call 154; first | exact Drew.q (byCompare_drew (KX.out.at rfl) (HK.out.at rfl)) | exact Drew.qa (byCompare_drew (KX.out.at rfl) (HK.out.at rfl))))
      go_wp2_with fail
      have ho2 : (w.setCell ⟨b, 1, none⟩ (.slice ax val.length cx)).heap[b]? = some (nodeObj kv (.slice ax val.length cx) (coin seed 3 k) pl pr ((1 + l.size + r.size : Nat) : Int) ((Tr.nd l k v r).dg seed)) := setCell_obj HO.out _
      have kb : Kept (fun x => x = b) w (w.setCell ⟨b, 1, none⟩ (.slice ax val.length cx)) := (Kept.refl (fun x => x = b) w).setCell (p := ⟨b, 1, none⟩) (.inl rfl) _
      have hDb : ∀ x, D x → x < w.heap.size → ¬ x = b := fun x hx _ h => HD.out.1 (h ▸ hx)
      have M2 := Lib.hid (kb.cell (p := ⟨m, 1, none⟩) (fun h => HD.out.2 h.symm) HM.out)
      have L2 := Lib.hid (HL.out.kept kb hDb fun x hx h => N.out.1 (h ▸ hx))
      have R2 := Lib.hid (HR.out.kept kb hDb fun x hx h => N.out.2.1 (h ▸ hx))
      have K2 := Lib.hid (HK.out.kept byteEl_k kb hDb)
      have V2 := Lib.hid (VX.out.kept byteEl_k kb hDb)
      have KB := Lib.hid kb
      have O2 := Lib.hid ho2
      clear kb ho2 hDb c0 c1 c3 c4 x0 x1 x3 x4 f1
      refine (orfresh_tree (by exact M2.out) (by exact O2.out) (by exact L2.out.at rfl) (by exact R2.out.at rfl) (by exact K2.out.at rfl) (by exact V2.out.at rfl) N.out.1 N.out.2.1 HD.out.1 (fun h => HD.out.2 h.symm) OK.out.2.1.2.1 hkl.2.2 (by omega)).mono ?_
      rintro e w1 ⟨rfl, t1, k1⟩
      have T1 := Lib.hid t1
      have K1 := Lib.hid (((KB.out.drewN _).trans k1 fun _ h => .inl h).mono fun x h => show x = bx ∨ x ∈ b :: (Sl ++ Sr) from .inr (by simp [h]))
      clear t1 k1
      go_wp2
      go_ret
      exact ⟨some b, _, rfl, by rw [Tr.put, if_pos E0.out]; exact T1.out, HN.out, fun x hx => .inr hx, K1.out⟩
    · have t0 := cmpS_ne0 e0
      have E0 := Lib.hid e0
      clear e0
      cases ha : aboveK seed key k
      · by_cases hc : cmpB key k < 0
        · have h3 := cmpS_lt hc
          have HC := Lib.hid hc
          clear hc
          go_enter Try.func139, Try.ntmps139
          go_wp2
          go_quiet ((go_at_call 154; first | exact Drew.q (byCompare_drew (KX.out.at rfl) (HK.out.at rfl)) | exact Drew.qa (byCompare_drew (KX.out.at rfl) (HK.out.at rfl))))
          go_wp2_with fail
          refine (orabove_calls (by exact HX.out) (by exact HO.out) (by exact KX.out.at rfl) (by exact HK.out.at rfl)).mono ?_
          rintro e w1 ⟨rfl, n1, rfl⟩
          go_wp2_with fail
          have HA := Lib.hid ha
          clear ha
          have hq : ∀ x ∈ Sl, x ∈ b :: (Sl ++ Sr) := fun x h => by simp [h]
          have HQ := Lib.hid hq
          have Z := Lib.hid (Tr.put_size seed key val l)
          have sz : l.size ≤ 400000000 := by omega
          refine (IL.out pl Sl _ s0 d0 (by exact HL.out.at rfl) N.out.2.2.1 (fun x hx => HS.out x (hq x hx)) (by exact HM.out) OK.out.1 sz (by exact HX.out) (by exact KX.out.at rfl) (by exact VX.out.at rfl) (fun h => BX.out (hq bx h)) hDx hmx).mono ?_
          rintro e w1 ⟨p, S, rfl, t1, nS, hp, k1⟩
          have hb1 : ¬ (b = bx ∨ b ∈ Sl) := fun h => h.elim (fun h => BXB.out h.symm) N.out.1
          have d3 := (NodeAt.of (k1.obj hb1 HO.out)).c3
          have f3 := (NodeAt.of (k1.obj hb1 HO.out)).fr 3
          have T1 := Lib.hid t1
          have NS := Lib.hid nS
          have HP := Lib.hid hp
          have KW := Lib.hid (((Kept.refl (fun x => x = bx ∨ x ∈ Sl) w).drewN _).trans k1 fun _ h => .inl h)
          have B1 := Lib.hid hb1
          clear t1 hp k1 hb1 hq nS c0 c1 c3 c4 x0 x1 x3 x4 f1 HX
          go_wp2_with fail
          refine (left_done (l := l.put seed key val) (S := S) HM.out HO.out HK.out HV.out HR.out KW.out T1.out B1.out (fun h => h.elim hmx fun h => (HS.out m (HQ.out m h)).2 rfl) ?_ (fun x hx _ h => h.elim (fun h => hDx (h ▸ hx)) fun h => (HS.out x (HQ.out x h)).1 hx) N.out.2.1 (fun h => B1.out (HP.out b h)) HD.out.1 (fun h => HD.out.2 h.symm) OK.out.2.1.2.1 OK.out.2.1.2.2 (by have := Z.out; omega)).mono ?_
          · exact fun x hx h => h.elim (fun h => BX.out (by simp [← h, hx])) fun h => N.out.2.2.2.2.1 x h hx
          rintro e w3 ⟨rfl, t3, k3⟩
          have R3 := Lib.hid t3
          have RK := Lib.hid (k3.mono fun x h => show x = bx ∨ x ∈ b :: (Sl ++ Sr) from h.elim (fun h => .inr (by simp [h])) fun h => h.imp id (HQ.out x))
          have RI := Lib.hid (show ∀ x ∈ b :: (S ++ Sr), x = bx ∨ x ∈ b :: (Sl ++ Sr) from fun x hx => by
            rcases List.mem_cons.1 hx with h | h
            · exact .inr (by simp [h])
            · rcases List.mem_append.1 h with h | h
              · exact (HP.out x h).imp id (HQ.out x)
              · exact .inr (by simp [h]))
          have RN := Lib.hid (show (b :: (S ++ Sr)).Nodup from by
            rw [List.nodup_cons, List.nodup_append, List.mem_append]
            refine ⟨fun h => h.elim (fun h => B1.out (HP.out b h)) N.out.2.1, NS.out, N.out.2.2.2.1, fun x hx y hy e => ?_⟩
            subst e
            exact (HP.out x hx).elim (fun h => BX.out (by simp [← h, hy])) fun h => N.out.2.2.2.2.1 x h hy)
          clear t3 k3 d3 f3
          go_wp2
          go_ret
          exact ⟨some b, _, rfl, by rw [Tr.put, if_neg E0.out, if_neg (by rw [HA.out]; decide), if_pos HC.out]; exact R3.out, RN.out, RI.out, RK.out⟩
        · have h3 := cmpS_ge hc
          have HC := Lib.hid hc
          clear hc
          go_enter Try.func139, Try.ntmps139
          go_wp2
          go_quiet ((go_at_call 154; first | exact Drew.q (byCompare_drew (KX.out.at rfl) (HK.out.at rfl)) | exact Drew.qa (byCompare_drew (KX.out.at rfl) (HK.out.at rfl))))
          go_wp2_with fail
          refine (orabove_calls (by exact HX.out) (by exact HO.out) (by exact KX.out.at rfl) (by exact HK.out.at rfl)).mono ?_
          rintro e w1 ⟨rfl, n1, rfl⟩
          go_wp2_with fail
          have HA := Lib.hid ha
          clear ha
          have hq : ∀ x ∈ Sr, x ∈ b :: (Sl ++ Sr) := fun x h => by simp [h]
          have HQ := Lib.hid hq
          have Z := Lib.hid (Tr.put_size seed key val r)
          have sz : r.size ≤ 400000000 := by omega
          refine (IR.out pr Sr _ s0 d0 (by exact HR.out.at rfl) N.out.2.2.2.1 (fun x hx => HS.out x (hq x hx)) (by exact HM.out) OK.out.2.2 sz (by exact HX.out) (by exact KX.out.at rfl) (by exact VX.out.at rfl) (fun h => BX.out (hq bx h)) hDx hmx).mono ?_
          rintro e w1 ⟨p, S, rfl, t1, nS, hp, k1⟩
          have hb1 : ¬ (b = bx ∨ b ∈ Sr) := fun h => h.elim (fun h => BXB.out h.symm) N.out.2.1
          have d3 := (NodeAt.of (k1.obj hb1 HO.out)).c4
          have f3 := (NodeAt.of (k1.obj hb1 HO.out)).fr 4
          have T1 := Lib.hid t1
          have NS := Lib.hid nS
          have HP := Lib.hid hp
          have KW := Lib.hid (((Kept.refl (fun x => x = bx ∨ x ∈ Sr) w).drewN _).trans k1 fun _ h => .inl h)
          have B1 := Lib.hid hb1
          clear t1 hp k1 hb1 hq nS c0 c1 c3 c4 x0 x1 x3 x4 f1 HX
          go_wp2_with fail
          refine (right_done (r := r.put seed key val) (S := S) HM.out HO.out HK.out HV.out HL.out KW.out T1.out B1.out (fun h => h.elim hmx fun h => (HS.out m (HQ.out m h)).2 rfl) ?_ (fun x hx _ h => h.elim (fun h => hDx (h ▸ hx)) fun h => (HS.out x (HQ.out x h)).1 hx) N.out.1 (fun h => B1.out (HP.out b h)) HD.out.1 (fun h => HD.out.2 h.symm) OK.out.2.1.2.1 OK.out.2.1.2.2 (by have := Z.out; omega)).mono ?_
          · exact fun x hx h => h.elim (fun h => BX.out (by simp [← h, hx])) fun h => N.out.2.2.2.2.1 x hx h
          rintro e w3 ⟨rfl, t3, k3⟩
          have R3 := Lib.hid t3
          have RK := Lib.hid (k3.mono fun x h => show x = bx ∨ x ∈ b :: (Sl ++ Sr) from h.elim (fun h => .inr (by simp [h])) fun h => h.imp id (HQ.out x))
          have RI := Lib.hid (show ∀ x ∈ b :: (Sl ++ S), x = bx ∨ x ∈ b :: (Sl ++ Sr) from fun x hx => by
            rcases List.mem_cons.1 hx with h | h
            · exact .inr (by simp [h])
            · rcases List.mem_append.1 h with h | h
              · exact .inr (by simp [h])
              · exact (HP.out x h).imp id (HQ.out x))
          have RN := Lib.hid (show (b :: (Sl ++ S)).Nodup from by
            rw [List.nodup_cons, List.nodup_append, List.mem_append]
            refine ⟨fun h => h.elim N.out.1 (fun h => B1.out (HP.out b h)), N.out.2.2.1, NS.out, fun x hx y hy e => ?_⟩
            subst e
            exact (HP.out x hy).elim (fun h => BX.out (by simp [← h, hx])) fun h => N.out.2.2.2.2.1 x hx h)
          clear t3 k3 d3 f3
          go_wp2
          go_ret
          exact ⟨some b, _, rfl, by rw [Tr.put, if_neg E0.out, if_neg (by rw [HA.out]; decide), if_neg (by have := HC.out; omega)]; exact R3.out, RN.out, RI.out, RK.out⟩
      · go_enter Try.func139, Try.ntmps139
        go_wp2
        go_quiet ((go_at_call 154; first | exact Drew.q (byCompare_drew (KX.out.at rfl) (HK.out.at rfl)) | exact Drew.qa (byCompare_drew (KX.out.at rfl) (HK.out.at rfl))))
        go_wp2_with fail
        refine (orabove_calls (by exact HX.out) (by exact HO.out) (by exact KX.out.at rfl) (by exact HK.out.at rfl)).mono ?_
        rintro e w1 ⟨rfl, n1, rfl⟩
        go_wp2_with fail
        have HA := Lib.hid ha
        clear ha
        have sz : (Tr.nd l k v r).size ≤ 500000000 := by simp only [Tr.size]; omega
        refine (orsplit_calls (D2 := D) (.nd l k v r) (some b) _ _ (by exact HT.out.at rfl) HN.out (fun x hx => ⟨(HS.out x hx).1, HS.out x hx⟩) (by exact HM.out) OK.out sz (by exact KX.out.at rfl)).mono ?_
        rintro e w1 ⟨p1, p2, S1, S2, rfl, t1, t2, hp, k1⟩
        have ox := k1.obj BX.out HX.out
        have d3 := (NodeAt.of ox).c3
        have d4 := (NodeAt.of ox).c4
        have f3 := (NodeAt.of ox).fr 3
        have f4 := (NodeAt.of ox).fr 4
        have ho2 : ((w1.setCell ⟨bx, 3, none⟩ (.pointer (adr p1))).setCell ⟨bx, 4, none⟩ (.pointer (adr p2))).heap[bx]? = some (nodeObj kx (.slice ax val.length cx) (coin seed 3 key) p1 p2 s0 d0) := setCell_obj (setCell_obj ox _) _
        have kb : Kept (fun x => x = bx) w1 ((w1.setCell ⟨bx, 3, none⟩ (.pointer (adr p1))).setCell ⟨bx, 4, none⟩ (.pointer (adr p2))) := ((Kept.refl (fun x => x = bx) w1).setCell (p := ⟨bx, 3, none⟩) (.inl rfl) _).setCell (p := ⟨bx, 4, none⟩) (.inl rfl) _
        have hDb : ∀ x, D x → x < w1.heap.size → ¬ x = bx := fun x hx _ h => hDx (h ▸ hx)
        have hDs : ∀ (w2 : World) x, D x → x < w2.heap.size → ¬ x ∈ b :: (Sl ++ Sr) := fun _ x hx _ h => (HS.out x h).1 hx
        have hS1 : ∀ x ∈ S1, x ∈ b :: (Sl ++ Sr) := fun x hx => (hp.mem_iff).1 (by simp [hx])
        have hS2 : ∀ x ∈ S2, x ∈ b :: (Sl ++ Sr) := fun x hx => (hp.mem_iff).1 (by simp [hx])
        have M2 := Lib.hid (kb.cell (p := ⟨m, 1, none⟩) hmx (k1.cell (p := ⟨m, 1, none⟩) (fun h => (HS.out m h).2 rfl) HM.out))
        have A1 := Lib.hid (t1.kept kb hDb fun x hx h => BX.out (h ▸ hS1 x hx))
        have A2 := Lib.hid (t2.kept kb hDb fun x hx h => BX.out (h ▸ hS2 x hx))
        have K2 := Lib.hid (((HK.out.at rfl : BV D (w.drewN 0) kv k).at rfl : BV D w kv k))
        have KX2 := Lib.hid (((KX.out.kept byteEl_k ((Kept.refl (fun x => x ∈ b :: (Sl ++ Sr)) w).drewN 0) (hDs _)).at rfl : BV D w kx key))
        have KW := Lib.hid (show Kept (fun x => x ∈ b :: (Sl ++ Sr)) w w1 from ((Kept.refl _ w).drewN _).trans k1 fun _ h => .inl h)
        have KX3 := Lib.hid ((KX.out.kept byteEl_k KW.out (hDs _)).kept byteEl_k kb hDb)
        have VX3 := Lib.hid ((VX.out.kept byteEl_k KW.out (hDs _)).kept byteEl_k kb hDb)
        have HP := Lib.hid hp
        have O2 := Lib.hid ho2
        have KB := Lib.hid kb
        have B1 := Lib.hid (fun h => BX.out (hS1 bx h))
        have B2 := Lib.hid (fun h => BX.out (hS2 bx h))
        clear t1 t2 hp k1 kb ho2 ox hDb hDs hS1 hS2 c0 c1 c3 c4 x0 x1 x3 x4 f1 HX K2 KX2
        go_wp2_with fail
        refine (orfresh_tree (by exact M2.out) (by exact O2.out) (by exact A1.out) (by exact A2.out) (by exact KX3.out) (by exact VX3.out) B1.out B2.out hDx hmx hkl.2.1 hkl.2.2 (by have := TS.out; simp only [Tr.size] at this; omega)).mono ?_
        rintro e w3 ⟨rfl, t3, k3⟩
        have R3 := Lib.hid t3
        have RK := Lib.hid (((KW.out.mono fun x h => show x = bx ∨ x ∈ b :: (Sl ++ Sr) from .inr h).trans KB.out fun x h => .inl (.inl h)).trans k3 fun x h => .inl (.inl h))
        have RI := Lib.hid (show ∀ x ∈ bx :: (S1 ++ S2), x = bx ∨ x ∈ b :: (Sl ++ Sr) from fun x hx => (List.mem_cons.1 hx).imp id fun h => (HP.out.mem_iff).1 h)
        have RN := Lib.hid (show (bx :: (S1 ++ S2)).Nodup from List.nodup_cons.2 ⟨fun h => BX.out ((HP.out.mem_iff).1 h), (HP.out.nodup_iff).2 HN.out⟩)
        clear t3 k3 d3 d4 f3 f4
        go_wp2
        go_ret
        exact ⟨some bx, _, rfl, by rw [Tr.put, if_neg E0.out, if_pos HA.out]; exact R3.out, RN.out, RI.out, RK.out⟩
end Go.Proofs.Ytaopjdjbpamhhaa
