/- Proved: the contract of the map's function drop on nodes. Conditions: nodes as a tree in memory, of at most four hundred million pairs of lengths that are allowed; the key is there. -/
import Derived.Test.YtaopjdjbpamhhaaOrd4
namespace Go.Proofs.Ytaopjdjbpamhhaa
open Go Go.RowKit
set_option linter.unusedVariables false
set_option linter.unusedSimpArgs false

/-- Whether a key is met on the way down. -/
def Tr.has (key : Bts) : Tr → Bool
  | nil => false
  | nd l k _ r => if cmpB key k = 0 then true else if cmpB key k < 0 then l.has key else r.has key
/-- A tree without a key. -/
def Tr.drop (seed : Int) (key : Bts) : Tr → Tr
  | nil => nil
  | nd l k v r => if cmpB key k = 0 then Tr.mergeN seed (l.size + r.size + 1) l r else if cmpB key k < 0 then nd (l.drop seed key) k v r else nd l k v (r.drop seed key)
theorem Tr.drop_size (seed : Int) (key : Bts) : ∀ t : Tr, (t.drop seed key).size ≤ t.size
  | nil => by simp [Tr.drop, Tr.size]
  | nd l k v r => by
    have h1 := drop_size seed key l
    have h2 := drop_size seed key r
    have h3 := Tr.mergeN_size seed (l.size + r.size + 1) l r (by omega)
    rw [Tr.drop]
    split
    · simp only [Tr.size]; omega
    · split <;> simp only [Tr.size] <;> omega

set_option maxRecDepth 100000 in
set_option maxHeartbeats 2000000 in
theorem ordrop_calls {seed : Int} {D D2 : Nat → Prop} {m : Nat} {kx : Value} {key : Bts} : ∀ (t : Tr) (p : Option Nat) (S : List Nat) (w : World), TreeAt seed D w t p S → S.Nodup → (∀ b ∈ S, ¬ D b ∧ ¬ D2 b ∧ b ≠ m) → w.cell? ⟨m, 1, none⟩ = some (.int .u64 seed) → t.ok → t.size ≤ 400000000 → BV D2 w kx key → t.has key = true →
    Calls Try.prog 141 #[.pointer (some ⟨m, 0, none⟩), ptr p, kx] w fun e w' => ∃ p' S', e = .returned (ptr p') ∧ TreeAt seed D w' (t.drop seed key) p' S' ∧ S'.Nodup ∧ (∀ x ∈ S', x ∈ S) ∧ Kept (fun x => x ∈ S) w w' := by
  intro t
  induction t with
  | nil => intro p S w _ _ _ _ _ _ _ h; cases h
  | nd l k v r ihl ihr =>
    rintro p S w h hnd hS hm hok hsz hkx hhas
    obtain ⟨b, pl, pr, Sl, Sr, kv, vv, rfl, rfl, ho, hk, hv, hl, hr⟩ := h
    obtain ⟨c0, c1, _, c3, c4, _, _, fr⟩ := NodeAt.of ho
    have HO := Lib.hid ho
    have HK := Lib.hid hk
    have HV := Lib.hid hv
    have HL := Lib.hid hl
    have HR := Lib.hid hr
    have HS := Lib.hid hS
    have N := Lib.hid (nodup_parts hnd)
    have HN := Lib.hid hnd
    have HM := Lib.hid hm
    have OK := Lib.hid hok
    have KX := Lib.hid hkx
    have IL := Lib.hid ihl
    have IR := Lib.hid ihr
    have HD := Lib.hid (hS b (by simp))
    simp only [Tr.size] at hsz
    clear ho hk hv hl hr hS hm hok hkx ihl ihr hnd fr
    show Calls Try.prog 141 #[_, .pointer (some ⟨b, 0, none⟩), _] w _
    by_cases e0 : cmpB key k = 0
    · have t0 := cmpS_eq0 e0
      have E0 := Lib.hid e0
      clear e0 hhas
      go_enter Try.func141, Try.ntmps141
      go_wp2_with fail
      refine (byCompare_calls KX.out HK.out).mono ?_
      rintro e w' ⟨rfl, rfl⟩
      go_wp2_with fail
      refine wp_region_still_tail 9 (by kernel_rfl) (by kernel_rfl) ?_
      simp only [List.take_succ_cons, List.take_zero, List.drop_succ_cons, List.drop_zero]
      repeat still_step
      try refine wpStill_nil ?_
      change wpList _ _ _ _ _ w'.drew
      go_wp2_with fail
      have q1 : (Sl ++ Sr).Nodup := (List.nodup_cons.1 HN.out).2
      have z1 : l.size + r.size < l.size + r.size + 1 := by omega
      have z2 : l.size + r.size ≤ 800000000 := by omega
      refine (ormerge_calls _ l r pl pr Sl Sr _ z1 (by exact HL.out.at rfl) (by exact HR.out.at rfl) q1 (fun x hx => ⟨(HS.out x (by simp [List.mem_append.1 hx])).1, (HS.out x (by simp [List.mem_append.1 hx])).2.2⟩) (by exact HM.out) OK.out.1 OK.out.2.2 z2).mono ?_
      rintro e w1 ⟨p, S, rfl, t1, hp, k1⟩
      have T1 := Lib.hid t1
      have HP := Lib.hid hp
      have Q1 := Lib.hid q1
      have K1 := Lib.hid (((Kept.refl (fun x => x ∈ b :: (Sl ++ Sr)) w').drew).trans k1 fun x h => .inl (by simp [List.mem_append.1 h]))
      clear t1 hp k1 q1 z1 z2
      go_wp2
      go_ret
      exact ⟨p, S, rfl, by rw [Tr.drop, if_pos E0.out]; exact T1.out, (HP.out.nodup_iff).2 Q1.out, fun x hx => List.mem_cons_of_mem _ ((HP.out.mem_iff).1 hx), K1.out⟩
    · have t0 := cmpS_ne0 e0
      have E0 := Lib.hid e0
      clear e0
      by_cases hc : cmpB key k < 0
      · have h3 := cmpS_lt hc
        have HC := Lib.hid hc
        have HH := Lib.hid (show l.has key = true by simpa [Tr.has, E0.out, hc] using hhas)
        clear hc hhas
        go_enter Try.func141, Try.ntmps141
        go_wp2_with fail
        refine (byCompare_calls KX.out HK.out).mono ?_
        rintro e w' ⟨rfl, rfl⟩
        go_wp2_with fail
        have hq : ∀ x ∈ Sl, x ∈ b :: (Sl ++ Sr) := fun x h => by simp [h]
        have HQ := Lib.hid hq
        have Z := Lib.hid (Tr.drop_size seed key l)
        have sz : l.size ≤ 400000000 := by omega
        refine (IL.out pl Sl _ HL.out N.out.2.2.1 (fun x hx => HS.out x (hq x hx)) HM.out OK.out.1 sz KX.out HH.out).mono ?_
        rintro e w1 ⟨p, S, rfl, t1, nS, hp, k1⟩
        have d3 := (NodeAt.of (k1.obj N.out.1 HO.out)).c3
        have f3 := (NodeAt.of (k1.obj N.out.1 HO.out)).fr 3
        have T1 := Lib.hid t1
        have NS := Lib.hid nS
        have HP := Lib.hid hp
        have KW := Lib.hid k1
        clear t1 hp k1 hq nS c0 c1 c3 c4
        go_wp2_with fail
        refine (left_done (l := l.drop seed key) (S := S) HM.out HO.out HK.out HV.out HR.out KW.out T1.out N.out.1 (fun h => (HS.out m (HQ.out m h)).2.2 rfl) ?_ (fun x hx _ h => (HS.out x (HQ.out x h)).1 hx) N.out.2.1 (fun h => N.out.1 (HP.out b h)) HD.out.1 (fun h => HD.out.2.2 h.symm) OK.out.2.1.2.1 OK.out.2.1.2.2 (by have := Z.out; omega)).mono ?_
        · exact fun x hx h => N.out.2.2.2.2.1 x h hx
        rintro e w3 ⟨rfl, t3, k3⟩
        have R3 := Lib.hid t3
        have RK := Lib.hid (k3.mono fun x h => show x ∈ b :: (Sl ++ Sr) from h.elim (fun h => by simp [h]) (HQ.out x))
        have RI := Lib.hid (show ∀ x ∈ b :: (S ++ Sr), x ∈ b :: (Sl ++ Sr) from fun x hx => by
          rcases List.mem_cons.1 hx with h | h
          · simp [h]
          · rcases List.mem_append.1 h with h | h
            · exact HQ.out x (HP.out x h)
            · simp [h])
        have RN := Lib.hid (show (b :: (S ++ Sr)).Nodup from by
          rw [List.nodup_cons, List.nodup_append, List.mem_append]
          refine ⟨fun h => h.elim (fun h => N.out.1 (HP.out b h)) N.out.2.1, NS.out, N.out.2.2.2.1, fun x hx y hy e => ?_⟩
          subst e
          exact N.out.2.2.2.2.1 x (HP.out x hx) hy)
        clear t3 k3 d3 f3
        go_wp2
        go_ret
        exact ⟨some b, _, rfl, by rw [Tr.drop, if_neg E0.out, if_pos HC.out]; exact R3.out, RN.out, RI.out, RK.out⟩
      · have h3 := cmpS_ge hc
        have HC := Lib.hid hc
        have HH := Lib.hid (show r.has key = true by simpa [Tr.has, E0.out, hc] using hhas)
        clear hc hhas
        go_enter Try.func141, Try.ntmps141
        go_wp2_with fail
        refine (byCompare_calls KX.out HK.out).mono ?_
        rintro e w' ⟨rfl, rfl⟩
        go_wp2_with fail
        have hq : ∀ x ∈ Sr, x ∈ b :: (Sl ++ Sr) := fun x h => by simp [h]
        have HQ := Lib.hid hq
        have Z := Lib.hid (Tr.drop_size seed key r)
        have sz : r.size ≤ 400000000 := by omega
        refine (IR.out pr Sr _ HR.out N.out.2.2.2.1 (fun x hx => HS.out x (hq x hx)) HM.out OK.out.2.2 sz KX.out HH.out).mono ?_
        rintro e w1 ⟨p, S, rfl, t1, nS, hp, k1⟩
        have d3 := (NodeAt.of (k1.obj N.out.2.1 HO.out)).c4
        have f3 := (NodeAt.of (k1.obj N.out.2.1 HO.out)).fr 4
        have T1 := Lib.hid t1
        have NS := Lib.hid nS
        have HP := Lib.hid hp
        have KW := Lib.hid k1
        clear t1 hp k1 hq nS c0 c1 c3 c4
        go_wp2_with fail
        refine (right_done (r := r.drop seed key) (S := S) HM.out HO.out HK.out HV.out HL.out KW.out T1.out N.out.2.1 (fun h => (HS.out m (HQ.out m h)).2.2 rfl) ?_ (fun x hx _ h => (HS.out x (HQ.out x h)).1 hx) N.out.1 (fun h => N.out.2.1 (HP.out b h)) HD.out.1 (fun h => HD.out.2.2 h.symm) OK.out.2.1.2.1 OK.out.2.1.2.2 (by have := Z.out; omega)).mono ?_
        · exact fun x hx h => N.out.2.2.2.2.1 x hx h
        rintro e w3 ⟨rfl, t3, k3⟩
        have R3 := Lib.hid t3
        have RK := Lib.hid (k3.mono fun x h => show x ∈ b :: (Sl ++ Sr) from h.elim (fun h => by simp [h]) (HQ.out x))
        have RI := Lib.hid (show ∀ x ∈ b :: (Sl ++ S), x ∈ b :: (Sl ++ Sr) from fun x hx => by
          rcases List.mem_cons.1 hx with h | h
          · simp [h]
          · rcases List.mem_append.1 h with h | h
            · simp [h]
            · exact HQ.out x (HP.out x h))
        have RN := Lib.hid (show (b :: (Sl ++ S)).Nodup from by
          rw [List.nodup_cons, List.nodup_append, List.mem_append]
          refine ⟨fun h => h.elim N.out.1 (fun h => N.out.2.1 (HP.out b h)), N.out.2.2.1, NS.out, fun x hx y hy e => ?_⟩
          subst e
          exact N.out.2.2.2.2.1 x hx (HP.out x hy))
        clear t3 k3 d3 f3
        go_wp2
        go_ret
        exact ⟨some b, _, rfl, by rw [Tr.drop, if_neg E0.out, if_neg (by have := HC.out; omega)]; exact R3.out, RN.out, RI.out, RK.out⟩
end Go.Proofs.Ytaopjdjbpamhhaa
