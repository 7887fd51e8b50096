/- Proved: contracts of bytes.Clone and of the map's functions Put, Drop, Get, Kin. Conditions: maps in memory, of at most two hundred million pairs of lengths that are allowed. -/
import Derived.Test.YtaopjdjbpamhhaaMap1
import Derived.Test.YtaopjdjbpamhhaaOwn2
import Derived.Test.YtaopjdjbpamhhaaTree
namespace Go.Proofs.Ytaopjdjbpamhhaa
open Go Go.RowKit
set_option linter.unusedVariables false
set_option linter.unusedSimpArgs false

set_option maxHeartbeats 400000 in
theorem byClone_calls {D : Nat → Prop} {v : Value} {l : Bts} {w : World} (h : BV D w v l) :
    Calls Try.prog 95 #[v] w fun e w' => ∃ v', e = .returned v' ∧ Own 5 byteEl Noneof w.heap.size w' v' l ∧ Kept Noneof w w' := by
  have HS := Lib.hid h
  obtain ⟨a, c, rfl, ⟨hc, hn⟩, m, hr⟩ := h
  have heq := fun (wx : World) => Lib.run_eql_slice_nil (P := Try.prog) wx 31 5 a l.length c 0 0 tBytes.ht
  cases a with
  | none =>
    have hl : l = [] := by
      cases l with
      | nil => rfl
      | cons x t => obtain ⟨b, o, cs, h1, _⟩ := hr 0 (by simp); cases h1
    subst hl
    obtain rfl := hn rfl
    rw [List.length_nil] at heq ⊢
    clear hr hn HS hc m
    go_enter Try.func95, Try.ntmps95
    go_wp2
    go_ret
    exact ⟨_, rfl, Own.nil _ _ _ _ _, Kept.refl _ _⟩
  | some p =>
    clear hr hn
    go_enter Try.func95, Try.ntmps95
    go_wp2_with (at_builtin; refine wl_app_bytes rfl (.tmp 5) (.tmp 6) _ rfl tBytes _ [] rfl (Own.lit0 5 byteEl Noneof w) _ _ rfl (HS.out.kept byteEl_k ((Kept.refl Noneof w).alloc _) fun _ _ _ h => h) ?c4 ?c6 ?_; (case c4 => simp; omega); (case c6 => simp))
    intro x3 w3 o3 e3 _
    go_wp2
    go_ret
    exact ⟨_, rfl, by simpa using o3, ((Kept.refl Noneof w).alloc _).trans e3 fun b hb => .inr (by simp [Value.ownBlock] at hb; omega)⟩

set_option maxRecDepth 100000 in
set_option maxHeartbeats 2000000 in
theorem orMapPut_bad {seed : Int} {w : World} {m : Nat} {t : Tr} {F D1 D2 : Nat → Prop} {kv vv : Value} {k v : Bts} (h : MapAt seed w m t F) (h1 : BV D1 w kv k) (h2 : BV D2 w vv v) (hb : allowedK k v = false) :
    Calls Try.prog 73 #[.pointer (some ⟨m, 0, none⟩), kv, vv] w fun e w' => e = .returned (.int .i64 1) ∧ Drew w w' := by
  have H := Lib.hid h
  obtain ⟨a1, c1, rfl, _, _, _⟩ := h1
  obtain ⟨a2, c2, rfl, _, _, _⟩ := h2
  have HB := Lib.hid (show ¬ (1 ≤ k.length ∧ k.length ≤ 64 ∧ v.length ≤ 1000) from fun h => by simp [allowedK, h] at hb)
  clear h hb
  go_enter Try.func73, Try.ntmps73
  go_wp2_with fail
  refine (orreal_calls H.out).mono ?_
  rintro e w' ⟨rfl, rfl⟩
  go_wp2_with fail
  all_goals first | exact (HB.out ⟨by omega, by omega, by omega⟩).elim | (go_ret; exact ⟨rfl, Drew.refl _⟩)
theorem seedOf {seed : Int} {w w' : World} {m : Nat} {t : Tr} {p : Option Nat} {S : List Nat} {D F X : Nat → Prop} (h : MapIn seed w m t p S D F) (k : Kept X w w') (hX : ∀ b, F b → ¬ X b) : w'.cell? ⟨m, 1, none⟩ = some (.int .u64 seed) := k.cell (hX m h.fm) h.c1

set_option maxRecDepth 100000 in
set_option maxHeartbeats 4000000 in
theorem orMapPut_ok {seed : Int} {w : World} {m : Nat} {t : Tr} {F D1 D2 : Nat → Prop} {kv vv : Value} {k v : Bts} (h : MapAt seed w m t F) (h1 : BV D1 w kv k) (h2 : BV D2 w vv v) (hb : allowedK k v = true) (hs : t.size < 100000) :
    Calls Try.prog 73 #[.pointer (some ⟨m, 0, none⟩), kv, vv] w fun e w' => e = .returned (.int .i64 0) ∧ ∃ F', MapAt seed w' m (t.put seed k v) F' ∧ Kept F w w' ∧ (∀ b, F' b → F b ∨ w.heap.size ≤ b) := by
  have H := Lib.hid h
  have HK := Lib.hid h1
  have HV := Lib.hid h2
  obtain ⟨p, S, D, hm⟩ := h
  have c1 := hm.c1
  have c2 := hm.c2
  have HM := Lib.hid hm.bd
  obtain ⟨a1, n1, rfl, _, _, _⟩ := h1
  obtain ⟨a2, n2, rfl, _, _, _⟩ := h2
  have hl : 1 ≤ k.length ∧ k.length ≤ 64 ∧ v.length ≤ 1000 := by simpa [allowedK, and_assoc] using hb
  obtain ⟨l1, l2, l3⟩ := hl
  clear hb hm
  have HL := Lib.hid (show decide ((100000 : Int) ≤ (t.size : Int)) = false from decide_eq_false (by omega))
  clear hs
  go_enter Try.func73, Try.ntmps73
  go_wp2_with fail
  refine (orreal_calls H.out).mono ?_
  rintro e w ⟨rfl, rfl⟩
  go_wp2_with fail
  refine (orfind_calls HM.out HK.out).mono ?_
  rintro e w ⟨q, rfl, _, rfl⟩
  rcases q with _ | qb
  go_wp2_with fail
  refine (orcount_calls (by exact HM.out.ht.child)).mono ?_
  rintro e w ⟨rfl, rfl⟩
  have hlim := HL.out
  go_wp2_with fail
  clear hlim
  rotate_left
  go_wp2
  all_goals
    refine wp_region_kept 12 [(1, .act IsSlice fun u w1 => Own 5 byteEl Noneof w.heap.size w1 u k), (2, .act IsSlice fun u w1 => Own 5 byteEl Noneof w.heap.size w1 u [] ∧ ∀ p n c, u = .slice (some p) n c → c = n), (4, .act IsSlice fun u w1 => Own 5 byteEl Noneof w.heap.size w1 u v), (10, .con (.int .u64 (coin seed 3 k)))] Noneof (by kernel_rfl) (by kernel_rfl) (by kernel_rfl) ?_
    simp only [List.take_succ_cons, List.take_zero, List.drop_succ_cons, List.drop_zero]
    have hS : ∀ w', Kept Noneof w w' → w'.cell? ⟨m, 1, none⟩ = some (.int .u64 seed) := fun w' k => k.cell (fun h => h) c1
    (refine SeqL.val (v := ?_) hS rfl (by rfl) (fun wx hSw => ?_) ?_; rotate_left; (focus ((try dsimp only at hSw); go_simp; (try with_reducible rfl))); (try simp only [Act.put, List.setIfInBounds_toArray, List.set_cons_zero, List.set_cons_succ]))
    refine SeqL.act rfl rfl (by rfl) (by rfl) isSlice (fun wx hx hh K hK => ?_) (fun u1 hu1 => ?_)
    · go_simp
      refine (byClone_calls (HK.out.kept byteEl_k hx fun _ _ _ h => h)).mono ?_
      rintro e w1 ⟨v', rfl, o1, k1⟩
      exact hK.out v' w1 o1.slice' k1 (o1.base hx.size)
    obtain ⟨b1, n1', c1', rfl⟩ := hu1
    (try simp only [Act.put, List.setIfInBounds_toArray, List.set_cons_zero, List.set_cons_succ])
    refine SeqL.act rfl rfl (by rfl) (by rfl) isSlice (fun wx hx hh K hK => ?_) (fun u1 hu1 => ?_)
    · go_simp
      exact hK.out _ _ ⟨_, _, _, rfl⟩ ((Kept.refl _ _).alloc _) ⟨(Own.lit0 _ _ _ _).base hx.size, fun p n c h => by cases h; rfl⟩
    obtain ⟨b2, n2', c2', rfl⟩ := hu1
    (try simp only [Act.put, List.setIfInBounds_toArray, List.set_cons_zero, List.set_cons_succ])
    (refine SeqL.val (v := ?_) hS rfl (by rfl) (fun wx hSw => ?_) ?_; rotate_left; (focus ((try dsimp only at hSw); go_simp; (try with_reducible rfl))); (try simp only [Act.put, List.setIfInBounds_toArray, List.set_cons_zero, List.set_cons_succ]))
    refine SeqL.act rfl rfl (by rfl) (by rfl) isSlice (fun wx hx hh K hK => ?_) (fun u1 hu1 => ?_)
    · obtain ⟨wy, _, ⟨o2, f2⟩, hxy⟩ := hh 2 (by decide) (by kernel_rfl) _ _ _ rfl rfl
      refine wp_app_full_bytes (.tmp 40) (.tmp 41) _ rfl tBytes _ [] rfl (o2.kept hxy fun _ h => h.elim) f2 _ v rfl (HV.out.kept byteEl_k hx fun _ _ _ h => h) (by simp; omega) hx.size ?_
      rintro v' w' o4 k4 _
      exact hK.out _ _ o4.slice' k4 o4
    obtain ⟨b4, n4', c4', rfl⟩ := hu1
    (try simp only [Act.put, List.setIfInBounds_toArray, List.set_cons_zero, List.set_cons_succ])
    (refine SeqL.val (v := ?_) hS rfl (by rfl) (fun wx hSw => ?_) ?_; rotate_left; (focus ((try dsimp only at hSw); go_simp; (try with_reducible rfl))); (try simp only [Act.put, List.setIfInBounds_toArray, List.set_cons_zero, List.set_cons_succ]))
    (refine SeqL.val (v := ?_) hS rfl (by rfl) (fun wx hSw => ?_) ?_; rotate_left; (focus ((try dsimp only at hSw); go_simp; (try with_reducible rfl))); (try simp only [Act.put, List.setIfInBounds_toArray, List.set_cons_zero, List.set_cons_succ]))
    (refine SeqL.val (v := ?_) hS rfl (by rfl) (fun wx hSw => ?_) ?_; rotate_left; (focus ((try dsimp only at hSw); go_simp; (try with_reducible rfl))); (try simp only [Act.put, List.setIfInBounds_toArray, List.set_cons_zero, List.set_cons_succ]))
    (refine SeqL.val (v := ?_) hS rfl (by rfl) (fun wx hSw => ?_) ?_; rotate_left; (focus ((try dsimp only at hSw); go_simp; (try with_reducible rfl))); (try simp only [Act.put, List.setIfInBounds_toArray, List.set_cons_zero, List.set_cons_succ]))
    (refine SeqL.val (v := ?_) hS rfl (by rfl) (fun wx hSw => ?_) ?_; rotate_left; (focus ((try dsimp only at hSw); go_simp; (try with_reducible rfl))); (try simp only [Act.put, List.setIfInBounds_toArray, List.set_cons_zero, List.set_cons_succ]))
    refine SeqL.con rfl rfl (by rfl) (by rfl) (fun wx hx hh K hK => ?_) ?_
    · go_simp
      refine (slCoin_calls (HK.out.kept byteEl_k hx fun _ _ _ h => h)).mono ?_
      rintro e w1 ⟨rfl, k1⟩
      exact hK.out w1 ((Kept.refl _ _).drewn k1)
    (try simp only [Act.put, List.setIfInBounds_toArray, List.set_cons_zero, List.set_cons_succ])
    (refine SeqL.val (v := ?_) hS rfl (by rfl) (fun wx hSw => ?_) ?_; rotate_left; (focus ((try dsimp only at hSw); go_simp; (try with_reducible rfl))); (try simp only [Act.put, List.setIfInBounds_toArray, List.set_cons_zero, List.set_cons_succ]))
    refine SeqL.nil fun wz hz hh => ?_

    obtain ⟨wa, _, oa, ka⟩ := hh 1 (by decide) _ _ _ rfl rfl
    obtain ⟨wb, _, ob, kb⟩ := hh 4 (by decide) _ _ _ rfl rfl
    have OA := Lib.hid (show Own 5 byteEl Noneof w.heap.size wz (.slice b1 n1' c1') k from oa.kept ka fun _ h => h.elim)
    have OB := Lib.hid (show Own 5 byteEl Noneof w.heap.size wz (.slice b4 n4' c4') v from ob.kept kb fun _ h => h.elim)
    have HZ := Lib.hid hz
    clear hh oa ob ka kb hz hS
    have d2 : ∀ o, (wz.alloc o).cell? ⟨m, 2, none⟩ = some (ptr p) := fun o => (HZ.out.alloc o).cell (p := ⟨m, 2, none⟩) (fun h => h) c2
    go_wp2_with fail
    have ka := Lib.hid (HZ.out.alloc (nodeObj (.slice b1 n1' c1') (.slice b4 n4' c4') (coin seed 3 k) none none 0 0))
    have M2 := Lib.hid (HM.out.kept0 ka.out)
    have hsz := HZ.out.size
    have lm : m < w.heap.size := block_lt HM.out.ho
    have HS := Lib.hid (show ∀ b ∈ S, b < w.heap.size from HM.out.ht.lt)
    have hD2 : ∀ b, ((.slice b1 n1' c1' : Value).ownBlock = some b ∨ (.slice b4 n4' c4' : Value).ownBlock = some b) → w.heap.size ≤ b ∧ b < wz.heap.size := fun b h => h.elim (OA.out.lt b) (OB.out.lt b)
    have HD2 := Lib.hid hD2
    clear hD2
    refine (orput_calls (seed := seed) (D := fun b => (D b ∧ b < w.heap.size) ∨ (.slice b1 n1' c1' : Value).ownBlock = some b ∨ (.slice b4 n4' c4' : Value).ownBlock = some b) (m := m) (bx := wz.heap.size) (kx := .slice b1 n1' c1') (vx := .slice b4 n4' c4') ⟨l1, l2, l3⟩ t p S _ 0 0 ?_ HM.out.nd ?_ ?_ HM.out.ok ?_ (heap_alloc_new wz _) ?_ ?_ ?_ ?_ ?_).mono ?_
    · exact M2.out.ht.wide fun b hb _ => .inl hb.1
    · intro b hb
      have hlt := HS.out b hb
      exact ⟨fun h => h.elim (HM.out.ds b hb).1 fun h => by have := (HD2.out b h).1; omega, (HM.out.ds b hb).2⟩
    · exact M2.out.c1
    · have := HM.out.sz; omega
    · exact (OA.out.alloc _).rd (fun _ h => h.elim) fun b h => .inr (.inl h)
    · exact (OB.out.alloc _).rd (fun _ h => h.elim) fun b h => .inr (.inr h)
    · intro h; have := HS.out _ h; omega
    · exact fun h => h.elim (fun h => by omega) fun h => by have := (HD2.out _ h).2; omega
    · omega
    rintro e w3 ⟨p', S', rfl, t3, n3, s3, k3⟩
    have T3 := Lib.hid t3
    have N3 := Lib.hid n3
    have S3 := Lib.hid s3
    have K3 := Lib.hid k3
    have hm3 : w3.heap[m]? = some (mapObj seed p) := k3.obj (p := m) (fun h => h.elim (by omega) fun h => (HM.out.ds m h).2 rfl) M2.out.ho
    have HM3 := Lib.hid hm3
    have f2 : w3.frozen? ⟨m, 2, none⟩ = false := by
      unfold mapObj at hm3
      simp [World.frozen?, hm3]
    have e2 : ∃ u, w3.cell? ⟨m, 2, none⟩ = some u := by
      unfold mapObj at hm3
      exact ⟨ptr p, by simp [World.cell?, hm3]⟩
    obtain ⟨u2, e2⟩ := e2
    clear t3 n3 s3 k3 hm3
    go_wp2
    go_ret
    have KW := Lib.hid ((Kept.refl (fun x => x = m) w3).setCell (p := ⟨m, 2, none⟩) (.inl rfl) (ptr p'))
    refine ⟨rfl, fun b => F b ∨ w.heap.size ≤ b, ⟨p', S', fun b => (D b ∧ b < w.heap.size) ∨ (.slice b1 n1' c1' : Value).ownBlock = some b ∨ (.slice b4 n4' c4' : Value).ownBlock = some b, ?_⟩, ?_, fun b h => h⟩
    · refine ⟨setCell_obj HM3.out _, T3.out.kept KW.out ?_ ?_, N3.out, ?_, ?_, .inl HM.out.fm, ?_, ?_, Tr.put_ok ⟨l1, l2, l3⟩ HM.out.ok, ?_⟩
      · rintro b h _ rfl
        exact h.elim (fun h => HM.out.dm h) fun h => by have := (HD2.out _ h).1; omega
      · rintro b h rfl
        exact (S3.out _ h).elim (fun h => by omega) fun h => (HM.out.ds _ h).2 rfl
      · intro b hb
        rcases S3.out b hb with rfl | hb
        · exact ⟨fun h => h.elim (fun h => by omega) fun h => by have := (HD2.out _ h).2; omega, by omega⟩
        · have hlt := HS.out b hb
          exact ⟨fun h => h.elim (HM.out.ds b hb).1 fun h => by have := (HD2.out b h).1; omega, (HM.out.ds b hb).2⟩
      · exact fun h => h.elim (fun h => HM.out.dm h) fun h => by have := (HD2.out _ h).1; omega
      · intro b hb
        rcases S3.out b hb with rfl | hb
        · exact .inr hsz
        · exact .inl (HM.out.fs b hb)
      · intro b hb _
        exact hb.elim (fun h => .inl (HM.out.fd b h h.2)) fun h => .inr (HD2.out b h).1
      · have h1 := Tr.put_size seed k v t
        have h2 := of_decide_eq_false HL.out
        omega
    · refine (((HZ.out.mono fun _ h => h.elim).alloc _).trans K3.out ?_).setCell (.inl HM.out.fm) _
      exact fun x h => h.elim (fun h => .inr (by omega)) fun h => .inl (HM.out.fs x h)

end Go.Proofs.Ytaopjdjbpamhhaa
