/- Proved: contracts of the map's functions Drop, Get, Kin. Conditions: maps in memory, of pairs of lengths that are allowed. -/
import Derived.Test.YtaopjdjbpamhhaaMap2
namespace Go.Proofs.Ytaopjdjbpamhhaa
open Go Go.RowKit
set_option linter.unusedVariables false
set_option linter.unusedSimpArgs false

theorem MapAt.open {seed : Int} {w : World} {m : Nat} {t : Tr} {F : Nat → Prop} (h : MapAt seed w m t F) : ∃ p S D, MapIn seed w m t p S D F ∧ ∀ b, D b → b < w.heap.size := by
  obtain ⟨p, S, D, h⟩ := h
  exact ⟨p, S, _, h.bd, fun b h => h.2⟩
theorem orMapDrop_none {seed : Int} {w : World} {m : Nat} {t : Tr} {F D1 : Nat → Prop} {kv : Value} {k : Bts} (h : MapAt seed w m t F) (h1 : BV D1 w kv k) (hb : t.get k = none) :
    Calls Try.prog 75 #[.pointer (some ⟨m, 0, none⟩), kv] w fun e w' => e = .returned (.int .i64 3) ∧ w' = w := by
  have H := Lib.hid h
  have HK := Lib.hid h1
  obtain ⟨p, S, D, hm⟩ := h
  have HM := Lib.hid hm
  have HB := Lib.hid hb
  clear hm hb h1
  go_enter Try.func75, Try.ntmps75
  go_wp2_with fail
  refine (orreal_calls H.out).mono ?_
  rintro e w ⟨rfl, rfl⟩
  go_wp2_with fail
  refine (orfind_calls HM.out HK.out).mono ?_
  rintro e w ⟨q, rfl, hq, rfl⟩
  have hq' : q = none := by
    cases q with
    | none => rfl
    | some b => obtain ⟨x, vv, h1, _⟩ := hq; rw [HB.out] at h1; cases h1
  subst hq'
  clear hq
  go_wp2
  go_ret
  exact ⟨rfl, rfl⟩

set_option maxHeartbeats 1000000 in
theorem orMapDrop_ok {seed : Int} {w : World} {m : Nat} {t : Tr} {F D1 : Nat → Prop} {kv : Value} {k : Bts} (h : MapAt seed w m t F) (h1 : BV D1 w kv k) (hD : ∀ b, D1 b → b < w.heap.size → ¬ F b) (hb : (t.get k).isSome = true) :
    Calls Try.prog 75 #[.pointer (some ⟨m, 0, none⟩), kv] w fun e w' => e = .returned (.int .i64 0) ∧ MapAt seed w' m (t.drop seed k) F ∧ Kept F w w' := by
  have H := Lib.hid h
  have HK := Lib.hid (SV.bd byteEl_k h1)
  have HD1 := Lib.hid hD
  obtain ⟨p, S, D, hm, hlt⟩ := h.open
  have HL := Lib.hid hlt
  have c2 := hm.c2
  have HM := Lib.hid hm
  have HB := Lib.hid hb
  clear hm hb h1 hD hlt
  go_enter Try.func75, Try.ntmps75
  go_wp2_with fail
  refine (orreal_calls H.out).mono ?_
  rintro e w ⟨rfl, rfl⟩
  go_wp2_with fail
  refine (orfind_calls HM.out HK.out).mono ?_
  rintro e w ⟨q, rfl, hq, rfl⟩
  have hq' : ∃ b, q = some b := by
    cases q with
    | none => have h1 : t.get k = none := hq; have := HB.out; rw [h1] at this; cases this
    | some b => exact ⟨b, rfl⟩
  obtain ⟨qb, rfl⟩ := hq'
  clear hq
  go_wp2_with fail
  refine (ordrop_calls (seed := seed) (D := D) t p S w HM.out.ht HM.out.nd (fun b hb => ⟨(HM.out.ds b hb).1, fun h => HD1.out b h.1 h.2 (HM.out.fs b hb), (HM.out.ds b hb).2⟩) HM.out.c1 HM.out.ok (by have := HM.out.sz; omega) HK.out (by rw [← Tr.get_has]; exact HB.out)).mono ?_
  rintro e w3 ⟨p', S', rfl, t3, n3, s3, k3⟩
  have T3 := Lib.hid t3
  have N3 := Lib.hid n3
  have S3 := Lib.hid s3
  have K3 := Lib.hid k3
  have hm3 : w3.heap[m]? = some (mapObj seed p) := k3.obj (p := m) (fun h => (HM.out.ds m h).2 rfl) HM.out.ho
  have HM3 := Lib.hid hm3
  have f2 : w3.frozen? ⟨m, 2, none⟩ = false := by
    unfold mapObj at hm3
    simp [World.frozen?, hm3]
  have e2 : ∃ u, w3.cell? ⟨m, 2, none⟩ = some u := by
    unfold mapObj at hm3
    exact ⟨ptr p, by simp [World.cell?, hm3]⟩
  obtain ⟨u2, e2⟩ := e2
  clear t3 n3 s3 k3 hm3
  go_wp2
  go_ret
  have KW := Lib.hid ((Kept.refl (fun x => x = m) w3).setCell (p := ⟨m, 2, none⟩) (.inl rfl) (ptr p'))
  refine ⟨rfl, ⟨p', S', D, ?_⟩, ?_⟩
  · refine ⟨setCell_obj HM3.out _, T3.out.kept KW.out (fun b h _ e => HM.out.dm (e ▸ h)) (fun b hb e => (HM.out.ds b (S3.out b hb)).2 e), N3.out, fun b hb => HM.out.ds b (S3.out b hb), HM.out.dm, HM.out.fm, fun b hb => HM.out.fs b (S3.out b hb), fun b hb _ => HM.out.fd b hb (HL.out b hb), Tr.drop_ok HM.out.ok, ?_⟩
    have := Tr.drop_size seed k t
    have := HM.out.sz
    omega
  · exact (K3.out.mono fun x h => HM.out.fs x h).setCell (.inl HM.out.fm) _

theorem orKin_calls {s1 s2 : Int} {w : World} {m1 m2 : Nat} {t1 t2 : Tr} {F1 F2 : Nat → Prop} (h : MapAt s1 w m1 t1 F1) (h2 : MapAt s2 w m2 t2 F2) :
    Calls Try.prog 115 #[.pointer (some ⟨m1, 0, none⟩), .pointer (some ⟨m2, 0, none⟩)] w fun e w' => e = .returned (.bool (s1 == s2)) ∧ Drew w w' := by
  have H1 := Lib.hid h
  have H2 := Lib.hid h2
  obtain ⟨_, _, _, hm1⟩ := h
  obtain ⟨_, _, _, hm2⟩ := h2
  have c1 := hm1.c1
  have c2 := hm2.c1
  clear hm1 hm2
  go_enter Try.func115, Try.ntmps115
  go_wp2
  go_quiet ((first | ((go_at_call 121; first | exact Drew.q ((orreal_calls (by exact H1.out.at rfl)).mono (by rintro e w ⟨h, rfl⟩; exact ⟨h, Drew.refl _⟩)) | exact Drew.qa ((orreal_calls (by exact H1.out.at rfl)).mono (by rintro e w ⟨h, rfl⟩; exact ⟨h, Drew.refl _⟩)))) | ((go_at_call 121; first | exact Drew.q ((orreal_calls (by exact H2.out.at rfl)).mono (by rintro e w ⟨h, rfl⟩; exact ⟨h, Drew.refl _⟩)) | exact Drew.qa ((orreal_calls (by exact H2.out.at rfl)).mono (by rintro e w ⟨h, rfl⟩; exact ⟨h, Drew.refl _⟩))))))
  go_wp2
  go_ret
  exact ⟨rfl, (by repeat (first | exact Drew.refl _ | exact ⟨_, rfl⟩ | apply Drew.step | apply Drew.one))⟩
end Go.Proofs.Ytaopjdjbpamhhaa
