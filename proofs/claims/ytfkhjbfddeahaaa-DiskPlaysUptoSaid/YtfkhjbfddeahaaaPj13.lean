/- Joined: DiskAK, DiskS, DiskAL, DiskAM, CoH, DiskAN, DiskAO, DiskAP, DiskAQ, DiskAR, DiskAT, DiskAU. -/
import Derived.Test.YtfkhjbfddeahaaaPj12
/- Calls on no disk. -/
set_option linter.unusedVariables false
set_option linter.unusedSimpArgs false
namespace Go.Proofs.Ytfkhjbfddeahaaa.kc
open Go Go.Cn Go.Proofs Go.Proofs.Ytfkhjbfddeahaaa.vc

section
variable (h : Hp)
theorem c58n  : C 58 [.pointer none] h fun v h' => v = .bool false ∧ h' = h := by
  refine SCalls_of_vw fol (pf := pf) (shp := shp58n) (f := 58) (fn := Try.f58) (by kernel_rfl) (c := Try.f58.body.getD .skip) (by kernel_rfl) (by kernel_rfl) fun wf => ?_
  rw [vc58n]
  exact ⟨fun h => by simp [isN, notB] at h, fun h => by simp [isN, notB] at h, fun h => by simp [isN, notB] at h, 0, fun h => by simp [isN, notB] at h, rfl, rfl⟩
theorem c62n  : C 62 [.pointer none] h fun v h' => v = .int .i64 1 ∧ h' = h := by
  refine SCalls_of_vw fol (pf := pf) (shp := shp62n) (f := 62) (fn := Try.f62) (by kernel_rfl) (c := Try.f62.body.getD .skip) (by kernel_rfl) (by kernel_rfl) fun wf => ?_
  rw [vc62n]
  refine (c58n h).mono fun v h' ⟨e, e'⟩ => ⟨_, e, ?_⟩
  subst e'
  rw [if_pos (show notB false = true from rfl)]
  exact ⟨rfl, rfl⟩
theorem c55n (no : Int) : C 55 [.pointer none, .int .u32 no] h fun v h' => v = .tuple #[.string ⟨#[]⟩, .int .i64 1] ∧ h' = h := by
  refine SCalls_of_vw fol (pf := pf) (shp := shp55n) (f := 55) (fn := Try.f55) (by kernel_rfl) (c := Try.f55.body.getD .skip) (by kernel_rfl) (by kernel_rfl) fun wf => ?_
  rw [vc55n]
  refine (c62n h).mono fun v h' ⟨e, e'⟩ => ⟨_, e, ?_⟩
  subst e'
  rw [if_pos (show neI 1 0 = true from rfl)]
  exact ⟨rfl, rfl⟩
theorem c85n  : C 85 [.pointer none] h fun v h' => v = .tuple #[.int .i64 0, .int .i64 1] ∧ h' = h := by
  refine SCalls_of_vw fol (pf := pf) (shp := shp85n) (f := 85) (fn := Try.f85) (by kernel_rfl) (c := Try.f85.body.getD .skip) (by kernel_rfl) (by kernel_rfl) fun wf => ?_
  rw [vc85n]
  refine (c62n h).mono fun v h' ⟨e, e'⟩ => ⟨_, e, ?_⟩
  subst e'
  rw [if_pos (show neI 1 0 = true from rfl)]
  exact ⟨rfl, rfl⟩
theorem c54n (no : Int) (s : ByteArray) : C 54 [.pointer none, .int .u32 no, .string s] h fun v h' => v = .int .i64 1 ∧ h' = h := by
  refine SCalls_of_vw fol (pf := pf) (shp := shp54n) (f := 54) (fn := Try.f54) (by kernel_rfl) (c := Try.f54.body.getD .skip) (by kernel_rfl) (by kernel_rfl) fun wf => ?_
  rw [vc54n]
  refine (c62n h).mono fun v h' ⟨e, e'⟩ => ⟨_, e, ?_⟩
  subst e'
  rw [if_pos (show neI 1 0 = true from rfl)]
  exact ⟨rfl, rfl⟩
theorem c53n (n : Int) : C 53 [.pointer none, .int .i64 n] h fun v h' => v = .int .i64 1 ∧ h' = h := by
  refine SCalls_of_vw fol (pf := pf) (shp := shp53n) (f := 53) (fn := Try.f53) (by kernel_rfl) (c := Try.f53.body.getD .skip) (by kernel_rfl) (by kernel_rfl) fun wf => ?_
  rw [vc53n]
  refine (c62n h).mono fun v h' ⟨e, e'⟩ => ⟨_, e, ?_⟩
  subst e'
  rw [if_pos (show neI 1 0 = true from rfl)]
  exact ⟨rfl, rfl⟩
theorem c46n  : C 46 [.pointer none] h fun v h' => v = .int .i64 1 ∧ h' = h := by
  refine SCalls_of_vw fol (pf := pf) (shp := shp46n) (f := 46) (fn := Try.f46) (by kernel_rfl) (c := Try.f46.body.getD .skip) (by kernel_rfl) (by kernel_rfl) fun wf => ?_
  rw [vc46n]
  refine (c62n h).mono fun v h' ⟨e, e'⟩ => ⟨_, e, ?_⟩
  subst e'
  rw [if_pos (show neI 1 0 = true from rfl)]
  exact ⟨rfl, rfl⟩
theorem c44n (a : Option Addr) (l c : Nat) : C 44 [.pointer none, .slice a l c] h fun v h' => v = .int .i64 1 ∧ h' = h := by
  refine SCalls_of_vw fol (pf := pf) (shp := shp44n) (f := 44) (fn := Try.f44) (by kernel_rfl) (c := Try.f44.body.getD .skip) (by kernel_rfl) (by kernel_rfl) fun wf => ?_
  rw [vc44n]
  refine (c62n h).mono fun v h' ⟨e, e'⟩ => ⟨_, e, ?_⟩
  subst e'
  rw [if_pos (show neI 1 0 = true from rfl)]
  exact ⟨rfl, rfl⟩
theorem c32n (a : Option Addr) (l c : Nat) : C 32 [.pointer none, .slice a l c] h fun v h' => v = .int .i64 1 ∧ h' = h := by
  refine SCalls_of_vw fol (pf := pf) (shp := shp32n) (f := 32) (fn := Try.f32) (by kernel_rfl) (c := Try.f32.body.getD .skip) (by kernel_rfl) (by kernel_rfl) fun wf => ?_
  rw [vc32n]
  refine (c62n h).mono fun v h' ⟨e, e'⟩ => ⟨_, e, ?_⟩
  subst e'
  rw [if_pos (show neI 1 0 = true from rfl)]
  exact ⟨rfl, rfl⟩
theorem c36n  : C 36 [.pointer none] h fun v h' => v = .int .i64 1 ∧ h' = h := by
  refine SCalls_of_vw fol (pf := pf) (shp := shp36n) (f := 36) (fn := Try.f36) (by kernel_rfl) (c := Try.f36.body.getD .skip) (by kernel_rfl) (by kernel_rfl) fun wf => ?_
  rw [vc36n]
  refine (c58n h).mono fun v h' ⟨e, e'⟩ => ⟨_, e, ?_⟩
  subst e'
  rw [if_pos (show notB false = true from rfl)]
  exact ⟨rfl, rfl⟩
theorem c69n  : C 69 [.pointer none] h fun v h' => v = .int .i64 0 ∧ h' = h := by
  refine SCalls_of_vw fol (pf := pf) (shp := shp69n) (f := 69) (fn := Try.f69) (by kernel_rfl) (c := Try.f69.body.getD .skip) (by kernel_rfl) (by kernel_rfl) fun wf => ?_
  rw [vc69n]
  refine (c58n h).mono fun v h' ⟨e, e'⟩ => ⟨_, e, ?_⟩
  subst e'
  rw [if_pos (show notB false = true from rfl)]
  exact ⟨rfl, rfl⟩
theorem c70n  : C 70 [.pointer none] h fun v h' => v = .int .i64 0 ∧ h' = h := by
  refine SCalls_of_vw fol (pf := pf) (shp := shp70n) (f := 70) (fn := Try.f70) (by kernel_rfl) (c := Try.f70.body.getD .skip) (by kernel_rfl) (by kernel_rfl) fun wf => ?_
  rw [vc70n]
  refine (c58n h).mono fun v h' ⟨e, e'⟩ => ⟨_, e, ?_⟩
  subst e'
  rw [if_pos (show notB false = true from rfl)]
  exact ⟨rfl, rfl⟩
theorem c57n  : C 57 [.pointer none] h fun v h' => v = .int .i64 0 ∧ h' = h := by
  refine SCalls_of_vw fol (pf := pf) (shp := shp57n) (f := 57) (fn := Try.f57) (by kernel_rfl) (c := Try.f57.body.getD .skip) (by kernel_rfl) (by kernel_rfl) fun wf => ?_
  rw [vc57n]
  refine (c58n h).mono fun v h' ⟨e, e'⟩ => ⟨_, e, ?_⟩
  subst e'
  rw [if_pos (show notB false = true from rfl)]
  exact ⟨rfl, rfl⟩
theorem c45n  : C 45 [.pointer none] h fun v h' => v = .int .i64 0 ∧ h' = h := by
  refine SCalls_of_vw fol (pf := pf) (shp := shp45n) (f := 45) (fn := Try.f45) (by kernel_rfl) (c := Try.f45.body.getD .skip) (by kernel_rfl) (by kernel_rfl) fun wf => ?_
  rw [vc45n]
  refine (c58n h).mono fun v h' ⟨e, e'⟩ => ⟨_, e, ?_⟩
  subst e'
  rw [if_pos (show notB false = true from rfl)]
  exact ⟨rfl, rfl⟩
theorem c56n  : C 56 [.pointer none] h fun v h' => v = .int .i64 0 ∧ h' = h := by
  refine SCalls_of_vw fol (pf := pf) (shp := shp56n) (f := 56) (fn := Try.f56) (by kernel_rfl) (c := Try.f56.body.getD .skip) (by kernel_rfl) (by kernel_rfl) fun wf => ?_
  rw [vc56n]
  refine (c58n h).mono fun v h' ⟨e, e'⟩ => ⟨_, e, ?_⟩
  subst e'
  rw [if_pos (show notB false = true from rfl)]
  exact ⟨rfl, rfl⟩
theorem c39n  : C 39 [.pointer none] h fun v h' => v = .int .i64 0 ∧ h' = h := by
  refine SCalls_of_vw fol (pf := pf) (shp := shp39n) (f := 39) (fn := Try.f39) (by kernel_rfl) (c := Try.f39.body.getD .skip) (by kernel_rfl) (by kernel_rfl) fun wf => ?_
  rw [vc39n]
  refine (c58n h).mono fun v h' ⟨e, e'⟩ => ⟨_, e, ?_⟩
  subst e'
  rw [if_pos (show notB false = true from rfl)]
  exact ⟨rfl, rfl⟩
theorem c38n  : C 38 [.pointer none] h fun v h' => v = .bool false ∧ h' = h := by
  refine SCalls_of_vw fol (pf := pf) (shp := shp38n) (f := 38) (fn := Try.f38) (by kernel_rfl) (c := Try.f38.body.getD .skip) (by kernel_rfl) (by kernel_rfl) fun wf => ?_
  rw [vc38n]
  refine (c58n h).mono fun v h' ⟨e, e'⟩ => ⟨_, e, ?_⟩
  subst e'
  exact ⟨fun h => by simp at h, fun h => by simp at h, false, fun h => by simp at h, rfl, rfl⟩
theorem c30n  : C 30 [.pointer none] h fun v h' => v = .slice none 0 0 ∧ h' = h := by
  refine SCalls_of_vw fol (pf := pf) (shp := shp30n) (f := 30) (fn := Try.f30) (by kernel_rfl) (c := Try.f30.body.getD .skip) (by kernel_rfl) (by kernel_rfl) fun wf => ?_
  rw [vc30n]
  refine (c58n h).mono fun v h' ⟨e, e'⟩ => ⟨_, e, ?_⟩
  subst e'
  rw [if_pos (show notB false = true from rfl)]
  exact ⟨rfl, rfl⟩
theorem c34n  : C 34 [.pointer none] h fun v h' => v = .slice none 0 0 ∧ h' = h := by
  refine SCalls_of_vw fol (pf := pf) (shp := shp34n) (f := 34) (fn := Try.f34) (by kernel_rfl) (c := Try.f34.body.getD .skip) (by kernel_rfl) (by kernel_rfl) fun wf => ?_
  rw [vc34n]
  refine (c58n h).mono fun v h' ⟨e, e'⟩ => ⟨_, e, ?_⟩
  subst e'
  rw [if_pos (show notB false = true from rfl)]
  exact ⟨rfl, rfl⟩
theorem c31n  : C 31 [.pointer none] h fun v h' => v = .pointer none ∧ h' = h := by
  refine SCalls_of_vw fol (pf := pf) (shp := shp31n) (f := 31) (fn := Try.f31) (by kernel_rfl) (c := Try.f31.body.getD .skip) (by kernel_rfl) (by kernel_rfl) fun wf => ?_
  rw [vc31n]
  refine (c58n h).mono fun v h' ⟨e, e'⟩ => ⟨_, e, ?_⟩
  subst e'
  rw [if_pos (show notB false = true from rfl)]
  exact ⟨rfl, rfl⟩
theorem c37n : C 37 [.pointer none] h fun v h' => v = .agg #[.int .i64 0, .int .i64 0, .int .i64 0] ∧ Kept h h' := by
  refine SCalls_of_vw fol (pf := pf) (shp := shp37n) (f := 37) (fn := Try.f37) (by kernel_rfl) (c := Try.f37.body.getD .skip) (by kernel_rfl) (by kernel_rfl) fun wf => ?_
  rw [vc37n]
  intro h1 e1
  obtain ⟨b1, k1, n1, wf1⟩ := new_blk wf e1
  refine (c58n h1).mono fun v h' ⟨e, e'⟩ => ⟨_, e, ?_⟩
  have es := e'.symm; subst es
  rw [if_pos (show notB false = true from rfl)]
  obtain ⟨h2, e2, b2, k2, _, n2, wf2⟩ := set_blk wf1 b1 k1 wf (Nat.le_refl _) (vs := [.int .i64 0, .int .i64 0, .int .i64 0]) rfl rfl
  exact ⟨rfl, h2, e2, 0, 0, 0, ⟨rfl, (b2.cells (o := 0) (n := 3) (Nat.le_of_ble_eq_true rfl)).trans rfl⟩, rfl, k2⟩

theorem c89 (dO wh no n len b st : Int) (aa : Option Addr) (al ac : Nat) (fa : Option Addr) (fl fc : Nat) : C 89 [.agg #[.int .i64 dO, .int .i64 wh, .int .u32 no, .int .i64 n, .int .i64 len, .int .u8 b, .int .u8 st, .slice aa al ac, .slice fa fl fc]] h fun v h' => v = .bool true ∧ Kept h h' := by
  refine SCalls_of_vw fol (pf := pf) (shp := shp89) (f := 89) (fn := Try.f89) (by kernel_rfl) (c := Try.f89.body.getD .skip) (by kernel_rfl) (by kernel_rfl) fun wf => ?_
  rw [vc89]
  intro h1 e1
  obtain ⟨b1, k1, n1, wf1⟩ := new_blk wf e1
  refine ⟨rfl, no, ⟨rfl, b1.one rfl⟩, (c55n h1 no).mono fun v h' ⟨e, e'⟩ => ⟨_, _, e, ?_⟩⟩
  have es := e'.symm; subst es
  refine (c85n h1).mono fun v h' ⟨e, e'⟩ => ⟨_, _, e, ?_⟩
  have es := e'.symm; subst es
  refine ⟨fun _ => rfl, no, fun _ => ⟨rfl, b1.one rfl⟩, ?_⟩
  refine ⟨fun v hh => v = .int .i64 1 ∧ h1 = hh, fun _ => (c54n h1 no _).mono fun v h' ⟨e, e'⟩ => ⟨_, e, rfl, e'.symm⟩, fun hf => absurd hf (by decide), ?_⟩
  rintro n4 hx ⟨e, ex⟩
  subst ex
  simp only [Value.int.injEq, Value.bool.injEq, Value.slice.injEq, Value.pointer.injEq, true_and] at e
  subst e
  refine ⟨fun _ => rfl, n, fun _ => ⟨rfl, b1.one rfl⟩, ?_⟩
  refine ⟨fun v hh => v = .int .i64 1 ∧ h1 = hh, fun _ => (c53n h1 n).mono fun v h' ⟨e, e'⟩ => ⟨_, e, rfl, e'.symm⟩, fun hf => absurd hf (by decide), ?_⟩
  rintro n6 hx ⟨e, ex⟩
  subst ex
  simp only [Value.int.injEq, Value.bool.injEq, Value.slice.injEq, Value.pointer.injEq, true_and] at e
  subst e
  refine ⟨fun v hh => v = .int .i64 1 ∧ h1 = hh, fun _ => (c46n h1).mono fun v h' ⟨e, e'⟩ => ⟨_, e, rfl, e'.symm⟩, fun hf => absurd hf (by decide), ?_⟩
  rintro n7 hx ⟨e, ex⟩
  subst ex
  simp only [Value.int.injEq, Value.bool.injEq, Value.slice.injEq, Value.pointer.injEq, true_and] at e
  subst e
  refine ⟨fun _ => rfl, aa, al, ac, fun _ => ⟨rfl, b1.one rfl⟩, ?_⟩
  refine ⟨fun v hh => v = .int .i64 1 ∧ h1 = hh, fun _ => (c44n h1 aa al ac).mono fun v h' ⟨e, e'⟩ => ⟨_, e, rfl, e'.symm⟩, fun hf => absurd hf (by decide), ?_⟩
  rintro n8 hx ⟨e, ex⟩
  subst ex
  simp only [Value.int.injEq, Value.bool.injEq, Value.slice.injEq, Value.pointer.injEq, true_and] at e
  subst e
  refine ⟨rfl, fa, fl, fc, ⟨rfl, b1.one rfl⟩, (c32n h1 fa fl fc).mono fun v h' ⟨e, e'⟩ => ⟨_, e, ?_⟩⟩
  have es := e'.symm; subst es
  refine ⟨fun v hh => v = .int .i64 1 ∧ h1 = hh, fun _ => (c36n h1).mono fun v h' ⟨e, e'⟩ => ⟨_, e, rfl, e'.symm⟩, fun hf => absurd hf (by decide), ?_⟩
  rintro n10 hx ⟨e, ex⟩
  subst ex
  simp only [Value.int.injEq, Value.bool.injEq, Value.slice.injEq, Value.pointer.injEq, true_and] at e
  subst e
  refine ⟨fun v hh => v = .int .i64 0 ∧ h1 = hh, fun _ => (c69n h1).mono fun v h' ⟨e, e'⟩ => ⟨_, e, rfl, e'.symm⟩, fun hf => absurd hf (by decide), ?_⟩
  rintro m69 hx ⟨e, ex⟩
  subst ex
  simp only [Value.int.injEq, Value.bool.injEq, Value.slice.injEq, Value.pointer.injEq, true_and] at e
  subst e
  refine ⟨fun v hh => v = .int .i64 0 ∧ h1 = hh, fun _ => (c70n h1).mono fun v h' ⟨e, e'⟩ => ⟨_, e, rfl, e'.symm⟩, fun hf => absurd hf (by decide), ?_⟩
  rintro m70 hx ⟨e, ex⟩
  subst ex
  simp only [Value.int.injEq, Value.bool.injEq, Value.slice.injEq, Value.pointer.injEq, true_and] at e
  subst e
  refine ⟨fun v hh => v = .int .i64 0 ∧ h1 = hh, fun _ => (c57n h1).mono fun v h' ⟨e, e'⟩ => ⟨_, e, rfl, e'.symm⟩, fun hf => absurd hf (by decide), ?_⟩
  rintro m57 hx ⟨e, ex⟩
  subst ex
  simp only [Value.int.injEq, Value.bool.injEq, Value.slice.injEq, Value.pointer.injEq, true_and] at e
  subst e
  refine ⟨fun v hh => v = .int .i64 0 ∧ h1 = hh, fun _ => (c45n h1).mono fun v h' ⟨e, e'⟩ => ⟨_, e, rfl, e'.symm⟩, fun hf => absurd hf (by decide), ?_⟩
  rintro m45 hx ⟨e, ex⟩
  subst ex
  simp only [Value.int.injEq, Value.bool.injEq, Value.slice.injEq, Value.pointer.injEq, true_and] at e
  subst e
  refine ⟨fun v hh => v = .bool false ∧ h1 = hh, fun _ => (c38n h1).mono fun v h' ⟨e, e'⟩ => ⟨_, e, rfl, e'.symm⟩, fun hf => absurd hf (by decide), ?_⟩
  rintro b38 hx ⟨e, ex⟩
  subst ex
  simp only [Value.int.injEq, Value.bool.injEq, Value.slice.injEq, Value.pointer.injEq, true_and] at e
  subst e
  refine ⟨fun v hh => v = .int .i64 0 ∧ h1 = hh, fun _ => (c56n h1).mono fun v h' ⟨e, e'⟩ => ⟨_, e, rfl, e'.symm⟩, fun hf => absurd hf (by decide), ?_⟩
  rintro m56 hx ⟨e, ex⟩
  subst ex
  simp only [Value.int.injEq, Value.bool.injEq, Value.slice.injEq, Value.pointer.injEq, true_and] at e
  subst e
  refine ⟨fun v hh => v = .int .i64 0 ∧ h1 = hh, fun _ => (c39n h1).mono fun v h' ⟨e, e'⟩ => ⟨_, e, rfl, e'.symm⟩, fun hf => absurd hf (by decide), ?_⟩
  rintro m39 hx ⟨e, ex⟩
  subst ex
  simp only [Value.int.injEq, Value.bool.injEq, Value.slice.injEq, Value.pointer.injEq, true_and] at e
  subst e
  refine ⟨fun v hh => v = .slice none 0 0 ∧ h1 = hh, fun _ => (c30n h1).mono fun v h' ⟨e, e'⟩ => ⟨_, _, _, e, rfl, e'.symm⟩, fun hf => absurd hf (by decide), ?_⟩
  rintro a30 l30 d30 hx ⟨e, ex⟩
  subst ex
  simp only [Value.int.injEq, Value.bool.injEq, Value.slice.injEq, Value.pointer.injEq, true_and] at e
  obtain ⟨rfl, rfl, rfl⟩ := e
  refine ⟨fun v hh => v = .slice none 0 0 ∧ h1 = hh, fun _ => (c34n h1).mono fun v h' ⟨e, e'⟩ => ⟨_, _, _, e, rfl, e'.symm⟩, fun hf => absurd hf (by decide), ?_⟩
  rintro a34 l34 d34 hx ⟨e, ex⟩
  subst ex
  simp only [Value.int.injEq, Value.bool.injEq, Value.slice.injEq, Value.pointer.injEq, true_and] at e
  obtain ⟨rfl, rfl, rfl⟩ := e
  refine ⟨fun v hh => v = .agg #[.int .i64 0, .int .i64 0, .int .i64 0] ∧ Kept h hh, fun _ => (c37n h1).wf fun v h' wf' _ ⟨e, k⟩ => ⟨_, _, _, e, rfl, k1.trans wf k fun _ _ hf => hf⟩, fun hf => absurd hf (by decide), ?_⟩
  rintro n17 n18 n19 h2 ⟨e, k2⟩
  simp at e
  obtain ⟨rfl, rfl, rfl⟩ := e
  refine ⟨fun v hh => v = .pointer none ∧ Kept h hh, fun _ => (c31n h2).mono fun v h' ⟨e, e'⟩ => ⟨_, e, rfl, by rw [e']; exact k2⟩, fun hf => absurd hf (by decide), ?_⟩
  rintro a h3 ⟨e, k3⟩
  simp at e
  subst e
  exact ⟨rfl, k3⟩
end
end Go.Proofs.Ytfkhjbfddeahaaa.kc

/- DiskMakes: From of the document, tells. -/
set_option linter.unusedVariables false
set_option linter.unusedSimpArgs false
namespace Go.Proofs.Ytfkhjbfddeahaaa.kc
open Go Go.Cn Go.Proofs Go.Proofs.Ytfkhjbfddeahaaa.vc

/-- Same. -/
theorem c43 {h : Hp} {G G' : Option Nat} {a b : Option Addr} {l c l' c' : Nat} {L M : List ByteArray} (s : SlT encS 1 h G a l c L) (t : SlT encS 1 h G' b l' c' M) (hl : l ≤ 8589934592) :
    C 43 [.slice a l c, .slice b l' c'] h fun v h' => v = .bool (decide (L = M)) ∧ h' = h := by
  refine SCalls_of_vw fol (pf := pf) (shp := shp43) (f := 43) (fn := Try.f43) (by kernel_rfl) (c := Try.f43.body.getD .skip) (by kernel_rfl) (by kernel_rfl) fun wf => ?_
  rw [vc43]
  have hL := s.len
  have hM := t.len
  by_cases hll : l = l'
  rotate_left
  · rw [if_pos (by rw [neI_iff]; simp only [natI]; omega)]
    refine ⟨?_, rfl⟩
    rw [decide_eq_false]; intro e; subst e; omega
  rw [if_neg (by rw [neI_iff]; simp only [natI]; omega)]
  refine ⟨fun vals m hh => ∃ i : Nat, [.int .i64 i] = vals ∧ i ≤ l ∧ m = l - i ∧ hh = h ∧ ∀ (j : Nat), j < i → L[j]? = M[j]?, ⟨l, 0, rfl, by omega, rfl, rfl, by omega⟩, ?_⟩
  rintro n m hh ⟨i, e, hi, rfl, rfl, hno⟩
  simp at e; subst e
  split
  · rename_i hlt
    have hlt : i < l := by rw [ltI_iff] at hlt; simp only [natI] at hlt; omega
    have hz : L[i]? = some (L[i]'(by omega)) := List.getElem?_eq_getElem _
    have hy : M[i]? = some (M[i]'(by omega)) := List.getElem?_eq_getElem _
    generalize L[i]'(by omega) = z at hz
    generalize M[i]'(by omega) = y at hy
    obtain ⟨i1, i2⟩ := s.get encS_w hz (j := 0) (m := 1) (by omega)
    obtain ⟨j1, j2⟩ := t.get encS_w hy (j := 0) (m := 1) (by omega)
    refine ⟨⟨i1, by simp only [inR]; omega⟩, z, ⟨rfl, i2.trans rfl⟩, ⟨j1, by simp only [inR]; omega⟩, y, ⟨rfl, j2.trans rfl⟩, ?_⟩
    by_cases hzy : z = y
    rotate_left
    · rw [if_pos (by rw [notB_iff, Bool.eq_false_iff]; intro h1; exact hzy ((eq_iff _ _).mp h1))]
      refine ⟨?_, rfl⟩
      rw [decide_eq_false]; intro e; rw [e, hy] at hz; simp at hz; exact hzy hz.symm
    rw [if_neg (by rw [notB_iff, (eq_iff _ _).mpr hzy]; simp)]
    refine ⟨l - (i + 1), by simp only [lessN]; omega, i + 1, by rw [addW_small (by omega) (by omega)]; rfl, by omega, rfl, rfl, fun j hj => ?_⟩
    by_cases hji : j = i
    · subst hji; rw [hz, hy, hzy]
    · exact hno j (by omega)
  · rename_i hlt
    have hil : i = l := by rw [ltI_iff] at hlt; simp only [natI] at hlt; omega
    refine ⟨?_, rfl⟩
    rw [decide_eq_true]
    apply List.ext_getElem?
    intro j
    by_cases hj : j < i
    · exact hno j hj
    · rw [List.getElem?_eq_none (by omega), List.getElem?_eq_none (by omega)]

theorem paged_iff (n : Int) : sel (sel (sel (eqI n 1024) true (eqI n 2048)) true (eqI n 4096)) true (eqI n 8192) = decide (paged n) := by
  have h1 : (sel (sel (sel (eqI n 1024) true (eqI n 2048)) true (eqI n 4096)) true (eqI n 8192) = true) ↔ paged n := by
    rw [or_iff, or_iff, or_iff, eqI_iff, eqI_iff, eqI_iff, eqI_iff]
    show _ ↔ n ∈ [(1024 : Int), 2048, 4096, 8192]
    simp [or_assoc]
  by_cases hp : paged n
  · rw [decide_eq_true hp]; exact h1.mpr hp
  · rw [decide_eq_false hp, Bool.eq_false_iff]; exact fun h => hp (h1.mp h)

theorem c64 (h : Hp) (n : Int) : C 64 [.int .i64 n] h fun v h' => v = .bool (decide (paged n)) ∧ h' = h := by
  refine SCalls_of_vw fol (pf := pf) (shp := shp64) (f := 64) (fn := Try.f64) (by kernel_rfl) (c := Try.f64.body.getD .skip) (by kernel_rfl) (by kernel_rfl) fun wf => ?_
  rw [vc64]
  exact ⟨by rw [paged_iff], rfl⟩

/-- The document's disk that From makes. -/
def rnew (page most : Int) (s : Sv) : List Value := [.int .i64 page, .int .i64 most, s.v, .slice none 0 0, .slice none 0 0, .bool true, .int .i64 0, .int .i64 0, .int .i64 0, .int .i64 0, .int .i64 0]

/-- Size of the document's disk, where nothing waits. -/
theorem c71 {h : Hp} {r : Nat} {g : Option Nat} {page most : Int} {s : Sv} (hb : Blk h r g (rnew page most s)) : C 71 [.pointer (some ⟨r, 0, none⟩)] h fun v h' => v = .int .i64 (natI s.l) ∧ h' = h := by
  refine SCalls_of_vw fol (pf := pf) (shp := shp71) (f := 71) (fn := Try.f71) (by kernel_rfl) (c := Try.f71.body.getD .skip) (by kernel_rfl) (by kernel_rfl) fun wf => ?_
  rw [vc71]
  refine ⟨rfl, rfl, s.a, s.l, s.c, ⟨rfl, hb.one rfl⟩, fun vals m hh => [.int .i64 (natI s.l), .int .i64 0] = vals ∧ m = 0 ∧ hh = h, ⟨0, rfl, rfl, rfl⟩, ?_⟩
  rintro n n1 m hh ⟨e, rfl, rfl⟩
  simp at e
  obtain ⟨rfl, rfl⟩ := e
  refine ⟨rfl, rfl, none, 0, 0, ⟨rfl, hb.one rfl⟩, ?_⟩
  rw [if_neg (by rw [ltI_iff]; simp [natI])]
  exact ⟨rfl, rfl⟩

/-- From of the document. -/
theorem c40 {h : Hp} {G : Option Nat} {a : Option Addr} {l c : Nat} {image : List ByteArray} (sI : SlT encS 1 h G a l c image) (hl : l ≤ 1048576) (page most : Int) :
    C 40 [.int .i64 page, .int .i64 most, .slice a l c] h fun v h' => Kept h h' ∧ ((fromE page most image ≠ 0 ∧ v = .tuple #[.pointer none, .int .i64 (fromE page most image)]) ∨
      (fromE page most image = 0 ∧ ∃ r s' g', v = .tuple #[.pointer (some ⟨r, 0, none⟩), .int .i64 0] ∧ Blk h' r (some r) (rnew page most s') ∧ h.next ≤ r ∧ OwT encS 1 h' g' s' image ∧ ∀ y, g' = some y → r < y)) := by
  refine SCalls_of_vw fol (pf := pf) (shp := shp40) (f := 40) (fn := Try.f40) (by kernel_rfl) (c := Try.f40.body.getD .skip) (by kernel_rfl) (by kernel_rfl) fun wf => ?_
  rw [vc40]
  have hil := sI.len
  refine (c64 h page).mono fun v h' ⟨e, e'⟩ => ⟨_, e, ?_⟩
  subst e'
  by_cases h0 : ¬ paged page ∨ most < 1 ∨ most > 65536
  · have hE : fromE page most image = 2 := by unfold fromE; rw [if_pos h0]
    rw [if_pos, hE]
    · exact ⟨Keep.refl _ _, .inl ⟨by omega, rfl⟩⟩
    · rw [or_iff, or_iff, notB_iff, ltI_iff, gtI_iff, decide_eq_false_iff_not]
      rcases h0 with h0 | h0 | h0
      · exact .inl (.inl h0)
      · exact .inl (.inr h0)
      · exact .inr h0
  rw [if_neg]
  rotate_left
  · rw [or_iff, or_iff, notB_iff, ltI_iff, gtI_iff, decide_eq_false_iff_not]
    intro h3
    rcases h3 with (h3 | h3) | h3
    · exact h0 (.inl h3)
    · exact h0 (.inr (.inl h3))
    · exact h0 (.inr (.inr h3))
  by_cases h4 : (image.length : Int) > most
  · have hE : fromE page most image = 42 := by unfold fromE; rw [if_neg h0, if_pos (.inl h4)]
    rw [if_pos (by rw [gtI_iff]; simp only [natI]; omega), hE]
    exact ⟨Keep.refl _ _, .inl ⟨by omega, rfl⟩⟩
  rw [if_neg (by rw [gtI_iff]; simp only [natI]; omega)]
  intro h1 e1
  obtain ⟨b1, k1, n1, wf1⟩ := new_blk wf e1
  refine ⟨fun vals m hh => ∃ (i : Nat) (s' : Sv) (g' : Option Nat), [.int .i64 i] = vals ∧ i ≤ l ∧ m = l - i ∧ Wf hh ∧ Blk hh h'.next (some h'.next) (rnew page most s') ∧ OwT encS 1 hh g' s' (image.take i) ∧ (∀ y, g' = some y → h'.next < y) ∧ Kept h' hh ∧ (image.take i).any (oddOne page) = false,
    ⟨l, 0, ⟨none, 0, 0⟩, none, rfl, Nat.zero_le _, rfl, wf1, b1, by simpa using OwT.nil (enc := encS) (w := 1), by simp, k1, by simp⟩, ?_⟩
  rintro n m hh ⟨i, s', g', e, hi, rfl, wf2, b2, o2, hg2, k2, hno⟩
  simp at e; subst e
  have hsl : s'.l = i := by rw [← o2.2]; simp; omega
  have s2 := sI.keep k2 fun _ _ hf => hf
  split
  · rename_i hlt
    have hlt : i < l := by rw [ltI_iff] at hlt; simp only [natI] at hlt; omega
    have hz : image[i]? = some (image[i]'(by omega)) := List.getElem?_eq_getElem _
    generalize image[i]'(by omega) = z at hz
    obtain ⟨i1, i2⟩ := s2.get encS_w hz (j := 0) (m := 1) (by omega)
    have hin : inR (i : Int) l := by simp only [inR]; omega
    have htk : image.take (i + 1) = image.take i ++ [z] := by rw [List.take_add_one, hz]; simp
    refine ⟨⟨i1, hin⟩, z, ⟨rfl, i2.trans rfl⟩, ?_⟩
    by_cases ho : oddOne page z = true
    · rw [if_pos (show neI (natI (lenS z)) page = true from ho)]
      have hE : fromE page most image = 42 := by
        unfold fromE
        rw [if_neg h0, if_pos (.inr (List.any_eq_true.mpr ⟨z, List.mem_of_getElem? hz, ho⟩))]
      rw [hE]
      exact ⟨k2, .inl ⟨by omega, rfl⟩⟩
    rw [if_neg (show ¬ neI (natI (lenS z)) page = true from ho)]
    refine ⟨rfl, rfl, s'.a, s'.l, s'.c, ⟨rfl, b2.one rfl⟩, ⟨i1, hin⟩, z, ⟨rfl, i2.trans rfl⟩, ?_⟩
    intro h3 e3
    obtain ⟨b3, k3, n3, wf3⟩ := new_blk wf2 e3
    refine ⟨⟨rfl, (k3.blk b2).one rfl⟩, ?_⟩
    obtain ⟨a5, c5, g5, h5, e5, o5, nw5, k5, wf5⟩ := Ow.append1 wf2 app40 o2.1 e3 rfl rfl (room (by omega) (by omega))
    have b5 : Blk h5 h'.next (some h'.next) (rnew page most s') := k5.blk b2 fun y hy he => by simp at hy; have := hg2 y he; omega
    obtain ⟨h6, e6, b6, k6, n6, w6⟩ := b5.set (o := 2) (v := .slice a5 (s'.l + 1) c5) (by simp [rnew]) rfl
    have hg5 : ∀ y, g5 = some y → h'.next < y := by
      rcases nw5 with rfl | ⟨y, rfl, hy⟩
      · exact hg2
      · intro z hz; simp at hz; have := b2.lt wf2; omega
    refine ⟨a5, _, c5, h5, e5, rfl, rfl, rfl, h6, e6, l - (i + 1), by simp only [lessN]; omega, i + 1, ⟨a5, s'.l + 1, c5⟩, g5, by rw [addW_small (by omega) (by omega)]; rfl, by omega, rfl, w6 wf5, b6, ?_, hg5, ?_, ?_⟩
    · refine OwT.keep k6 ⟨?_, ?_⟩ fun y hy he => by have := hg5 y hy; omega
      · rw [htk, flatS]; exact o5
      · simp; omega
    · refine (k2.trans wf k5 fun y hy he => by have := hg2 y he; omega).trans wf k6 fun y hy he => by omega
    · rw [htk, List.any_append, hno]; simpa using ho
  · rename_i hlt
    have hil' : i = l := by rw [ltI_iff] at hlt; simp only [natI] at hlt; omega
    have ht : image.take i = image := List.take_of_length_le (by omega)
    rw [ht] at o2 hno
    have hE : fromE page most image = 0 := by
      unfold fromE
      rw [if_neg h0, if_neg]
      intro h5
      rcases h5 with h5 | h5
      · exact h4 h5
      · rw [hno] at h5; simp at h5
    exact ⟨k2, .inr ⟨hE, h'.next, s', g', rfl, b2, Nat.le_refl _, o2, hg2⟩⟩

/-- tells, where both tell the same. -/
theorem c42 {h : Hp} {d r : Nat} {W R : Nat → Prop} {D : Dk} {k M N : Nat} {g : Option Nat} {dv wv av : Sv} (x : DAt h d W R D) (fit : D.fit k M N)
    (hb : Blk h r g [.int .i64 D.bytes, .int .i64 D.most, dv.v, wv.v, av.v, .bool (!D.off), .int .i64 D.life, .int .i64 D.taken, .int .i64 D.wr, .int .i64 D.gr, .int .i64 D.sy]) (ha : av.l = D.arms.length)
    (hs : ∀ hh, Kept h hh → C 71 [.pointer (some ⟨r, 0, none⟩)] hh fun v h' => v = .int .i64 (natI D.seen.length) ∧ h' = hh) :
    C 42 [.pointer (some ⟨d, 0, none⟩), .pointer (some ⟨r, 0, none⟩)] h fun v h' => v = .bool true ∧ Kept h h' := by
  refine SCalls_of_vw fol (pf := pf) (shp := shp42) (f := 42) (fn := Try.f42) (by kernel_rfl) (c := Try.f42.body.getD .skip) (by kernel_rfl) (by kernel_rfl) fun wf => ?_
  rw [vc42]
  have eqs : ∀ n : Int, eqI n n = true := fun n => eqI_iff.mpr rfl
  have eqb : ∀ b : Bool, eqB b b = true := fun b => by cases b <;> rfl
  have tt : sel true true false = true := rfl
  have an : andB true (andB true (andB true true)) = true := rfl
  refine ⟨rfl, rfl, D.bytes, ⟨rfl, hb.one rfl⟩, (x.page fit).mono fun v h' ⟨e, e'⟩ => ⟨_, e, ⟨rfl, by subst e'; exact hb.one rfl⟩, ?_⟩⟩
  subst e'
  simp only [eqs]
  refine ⟨fun _ => rfl, fun _ => rfl, D.most, fun _ => ⟨rfl, hb.one rfl⟩, fun v hh => v = .int .i64 D.most ∧ hh = h', fun _ => (x.mostC fit).mono fun v hh ⟨e, e'⟩ => ⟨_, e, rfl, e'⟩, fun hf => by simp at hf, ?_⟩
  rintro n3 h3 ⟨e, rfl⟩
  simp at e; subst e
  simp only [eqs, tt]
  refine ⟨fun _ => ⟨rfl, hb.one rfl⟩, fun v hh => v = .int .i64 (natI D.seen.length) ∧ hh = h3, fun _ => (x.sizeC fit).mono fun v hh ⟨e, e'⟩ => ⟨_, e, rfl, e'⟩, fun hf => by simp at hf, ?_⟩
  rintro n4 h4 ⟨e, rfl⟩
  simp at e; subst e
  refine ⟨fun v hh => v = .int .i64 (natI D.seen.length) ∧ hh = h4, fun _ => (hs _ (Keep.refl _ _)).mono fun v hh ⟨e, e'⟩ => ⟨_, e, rfl, e'⟩, fun hf => by simp at hf, ?_⟩
  rintro n5 h5 ⟨e, rfl⟩
  simp at e; subst e
  simp only [eqs, tt]
  refine ⟨fun _ => rfl, fun _ => rfl, av.a, av.l, av.c, fun _ => ⟨rfl, hb.one rfl⟩, fun v hh => v = .int .i64 (natI D.arms.length) ∧ hh = h5, fun _ => (x.armed fit).mono fun v hh ⟨e, e'⟩ => ⟨_, e, rfl, e'⟩, fun hf => by simp at hf, ?_⟩
  rintro n6 h6 ⟨e, rfl⟩
  simp at e; subst e
  rw [ha]
  simp only [eqs, tt]
  refine ⟨fun _ => ⟨rfl, by rw [← ha]; exact hb.one rfl⟩, fun _ => rfl, fun _ => rfl, _, fun _ => ⟨rfl, hb.one rfl⟩, fun v hh => v = .bool (!D.off) ∧ hh = h6, fun _ => (x.on fit).mono fun v hh ⟨e, e'⟩ => ⟨_, e, rfl, e'⟩, fun hf => by simp at hf, ?_⟩
  rintro n7 h7 ⟨e, rfl⟩
  simp at e; subst e
  simp only [eqb, tt]
  refine ⟨fun _ => ⟨rfl, hb.one rfl⟩, fun _ => rfl, fun _ => rfl, _, fun _ => ⟨rfl, hb.one rfl⟩, fun v hh => v = .int .i64 D.life ∧ hh = h7, fun _ => (x.lifeC fit).mono fun v hh ⟨e, e'⟩ => ⟨_, e, rfl, e'⟩, fun hf => by simp at hf, ?_⟩
  rintro n8 h8 ⟨e, rfl⟩
  simp at e; subst e
  simp only [eqs, tt]
  refine ⟨fun _ => ⟨rfl, hb.one rfl⟩, fun _ => rfl, fun _ => rfl, _, fun _ => ⟨rfl, hb.one rfl⟩, fun v hh => v = .int .i64 D.taken ∧ hh = h8, fun _ => (x.takenC fit).mono fun v hh ⟨e, e'⟩ => ⟨_, e, rfl, e'⟩, fun hf => by simp at hf, ?_⟩
  rintro n9 h9 ⟨e, rfl⟩
  simp at e; subst e
  simp only [eqs, tt]
  refine ⟨fun _ => ⟨rfl, hb.one rfl⟩, fun _ => rfl, fun _ => rfl, _, _, _, fun _ => ⟨rfl, (hb.cells (o := 8) (n := 3) (Nat.le_of_ble_eq_true rfl)).trans rfl⟩, fun v hh => v = .agg #[.int .i64 D.wr, .int .i64 D.gr, .int .i64 D.sy] ∧ Kept h9 hh, fun _ => (x.acts fit).mono fun v hh ⟨e, k'⟩ => ⟨_, _, _, e, rfl, k'⟩, fun hf => by simp at hf, ?_⟩
  rintro n14 n15 n16 h10 ⟨e, k10⟩
  simp at e
  obtain ⟨rfl, rfl, rfl⟩ := e
  simp only [eqs, tt, an]
  exact ⟨fun _ => ⟨rfl, ((k10.blk hb).cells (o := 8) (n := 3) (Nat.le_of_ble_eq_true rfl)).trans rfl⟩, trivial, k10⟩

/-- DiskMakes. -/
theorem c11 {h : Hp} {a : Option Addr} {l c : Nat} {image : List ByteArray} (sI : SlT encS 1 h none a l c image) (hl : l ≤ 1048576) (page most : Int) :
    C 11 [.int .i64 page, .int .i64 most, .slice a l c] h fun v h' => v = .bool true := by
  refine SCalls_of_vw fol (pf := pf) (shp := shp11) (f := 11) (fn := Try.f11) (by kernel_rfl) (c := Try.f11.body.getD .skip) (by kernel_rfl) (by kernel_rfl) fun wf => ?_
  rw [vc11]
  have eqs : ∀ n : Int, eqI n n = true := fun n => eqI_iff.mpr rfl
  have nes : ∀ n : Int, neI n n = false := fun n => by rw [Bool.eq_false_iff, Ne, neI_iff]; simp
  have eqb : ∀ b : Bool, eqB b b = true := fun b => by cases b <;> rfl
  have ff : sel false true false = false := rfl
  have nt : notB true = false := rfl
  have nf : notB false = true := rfl
  have iN : ∀ q, isN (some (Addr.mk q 0 none)) = false := fun _ => rfl
  have iZ : isN none = true := rfl
  refine (c40 sI hl page most).wf fun v h1 wf1 _ ⟨k1, hq1⟩ => ?_
  have sI1 := sI.keep k1 (by simp)
  -- the second pair: page and most alone
  have second : ∀ {h2 : Hp} (K : Option Addr → Int → Option Addr → Int → Hp → Prop), Wf h2 → (∀ h3 p n q m, Wf h3 → Kept h2 h3 → n = fromE page most [] → m = fromE page most [] → (isN q = neI n 0) → K p n q m h3) →
      C 40 [.int .i64 page, .int .i64 most, .slice none 0 0] h2 fun v h' => ∃ p n, v = .tuple #[.pointer p, .int .i64 n] ∧ C 26 [.int .i64 page, .int .i64 most] h' fun v h' => ∃ q m, v = .tuple #[.pointer q, .int .i64 m] ∧ K p n q m h' := by
    intro h2 K wf2 hK
    refine (c40 (SlT.nil h2 none) (by omega) page most).wf fun v h3 wf3 _ ⟨k3, hq3⟩ => ?_
    have ask : ∀ p n, n = fromE page most [] → C 26 [.int .i64 page, .int .i64 most] h3 fun v h' => ∃ q m, v = .tuple #[.pointer q, .int .i64 m] ∧ K p n q m h' := by
      intro p n hn
      refine (c26 h3 page most).wf fun v h4 wf4 _ ⟨k4, hq4⟩ => ?_
      have k24 : Kept h2 h4 := k3.trans wf2 k4 fun _ _ hf => hf
      rcases hq4 with ⟨hne, rfl⟩ | ⟨hz, q, p0, ps, pd, pw, pa, s', dd', w', a', rfl, x, hn'⟩
      · exact ⟨_, _, rfl, hK _ _ _ _ _ wf4 k24 hn rfl (by rw [hn, iZ]; symm; rw [neI_iff]; exact hne)⟩
      · exact ⟨_, _, rfl, hK _ _ _ _ _ wf4 k24 hn hz.symm (by rw [hn, hz]; rfl)⟩
    rcases hq3 with ⟨hne, rfl⟩ | ⟨hz, r, s', g', rfl, _⟩
    · exact ⟨_, _, rfl, ask _ _ rfl⟩
    · exact ⟨_, _, rfl, ask _ _ hz.symm⟩
  rcases hq1 with ⟨hne, rfl⟩ | ⟨hz, r, rs, rg, rfl, rb, hr, ro, hrg⟩
  · refine ⟨_, _, rfl, (c41 sI1 (by omega) page most).wf fun v h2 wf2 _ ⟨k2, hq2⟩ => ?_⟩
    rcases hq2 with ⟨_, rfl⟩ | ⟨hz, _⟩
    rotate_left
    · exact absurd hz hne
    refine ⟨_, _, rfl, second _ wf2 fun h3 p n q m wf3 k3 hn hm hq => ?_⟩
    subst hn hm
    simp only [nes, eqb, nt, ff, hq, iZ]
    rw [if_neg (by simp)]
    refine ⟨fun v hh => v = .bool true ∧ hh = h3, fun hf => by simp at hf, fun _ => ⟨true, rfl, rfl⟩, ?_⟩
    rintro b1 h4 ⟨e, rfl⟩
    simp at e; subst e
    simp only [nt, nf, andB]
    refine ⟨fun v hh => v = .slice none 0 0 ∧ hh = h4, fun hf => by simp at hf, fun _ => ⟨none, 0, 0, rfl, rfl⟩, ?_⟩
    rintro a6 l6 c6 h5 ⟨e, rfl⟩
    refine ⟨fun v hh => v = .bool true ∧ hh = h5, fun hf => by simp at hf, fun _ => ⟨true, rfl, rfl⟩, ?_⟩
    rintro b6 h6 ⟨e, rfl⟩
    simp at e; subst e
    simp only [nt, sel]
    rw [if_neg (by simp)]
    exact (c25 h6).mono fun v h' ⟨e, _⟩ => ⟨true, e, rfl⟩
  · refine ⟨_, _, rfl, (c41 sI1 (by omega) page most).wf fun v h2 wf2 _ ⟨k2, hq2⟩ => ?_⟩
    rcases hq2 with ⟨hne, _⟩ | ⟨_, q, p0, ps, pd, pw, pa, s', dd', w', a', rfl, x2, hn2⟩
    · exact absurd hz hne
    obtain ⟨k, M, f0, _, _⟩ := newD_fit hz
    have X2 := DAt.of x2
    have b2 := k2.blk rb
    refine ⟨_, _, rfl, second _ wf2 fun h3 p n q4 m wf3 k3 hn hm hq => ?_⟩
    subst hn hm
    have X3 := X2.kept k3
    have b3 := k3.blk b2
    have ro3 := (ro.keep k2 fun _ _ hf => hf).keep k3 fun _ _ hf => hf
    have hrl : rs.l = image.length := ro3.2.symm
    simp only [nes, eqb, nt, ff, hq, iN]
    rw [if_neg (by simp)]
    refine ⟨fun v hh => v = .bool true ∧ Wf hh ∧ Kept h3 hh, fun _ => ?_, fun hf => by simp [notB] at hf, ?_⟩
    · refine (c42 X3 f0 (dv := rs) (wv := ⟨none, 0, 0⟩) (av := ⟨none, 0, 0⟩) b3 rfl fun hh kh => ?_).wf fun v h4 wf4 _ ⟨e, k4⟩ => ⟨_, e, rfl, wf4, k4⟩
      refine (c71 (kh.blk b3)).mono fun v h' ⟨e, e'⟩ => ⟨?_, e'⟩
      rw [e, hrl]; rfl
    rintro b1 h4 ⟨e, wf4, k4⟩
    simp at e; subst e
    simp only [nt, nf, andB]
    refine ⟨fun v hh => (∃ s g, v = Sv.v s ∧ OwT encS 1 hh g s image) ∧ Wf hh ∧ Kept h4 hh, fun _ => ?_, fun hf => by simp at hf, ?_⟩
    · exact ((X3.kept k4).image f0).wf fun v h5 wf5 _ ⟨s', g', e, o, _, k'⟩ => ⟨_, _, _, e, ⟨s', g', rfl, o⟩, wf5, k'⟩
    rintro a6 l6 c6 h5 ⟨⟨s6, g6, e, o6⟩, wf5, k5⟩
    simp at e
    obtain ⟨rfl, rfl, rfl⟩ := e
    have sI5 := ((((sI1.keep k2 (by simp)).keep k3 (by simp)).keep k4 (by simp)).keep k5 (by simp))
    refine ⟨fun v hh => v = .bool true ∧ hh = h5, fun _ => ?_, fun hf => by simp at hf, ?_⟩
    · refine (c43 o6.slT sI5 (by rw [← o6.2]; have := sI.len; omega)).mono fun v hh ⟨e, e'⟩ => ⟨_, e, ?_, e'⟩
      simp
    rintro b6 h6 ⟨e, rfl⟩
    simp at e; subst e
    simp only [nt, ff, sel]
    rw [if_neg (by simp)]
    exact (c25 h6).mono fun v h' ⟨e, _⟩ => ⟨true, e, rfl⟩
end Go.Proofs.Ytfkhjbfddeahaaa.kc

/- Small functions of the law: comparisons, a scene's page and bound, arms that are lent. -/
set_option linter.unusedVariables false
set_option linter.unusedSimpArgs false
namespace Go.Proofs.Ytfkhjbfddeahaaa.kc
open Go Go.Cn Go.Proofs Go.Proofs.Ytfkhjbfddeahaaa.vc

theorem c83 {h : Hp} {G G' : Option Nat} {a b : Option Addr} {l c l' c' : Nat} {L : List Int} (s : SlT encF 1 h G a l c L) (t : SlT encF 1 h G' b l' c' L) (hl : l ≤ 8589934592) :
    C 83 [.slice a l c, .slice b l' c'] h fun v h' => v = .bool true ∧ h' = h := by
  refine SCalls_of_vw fol (pf := pf) (shp := shp83) (f := 83) (fn := Try.f83) (by kernel_rfl) (c := Try.f83.body.getD .skip) (by kernel_rfl) (by kernel_rfl) fun wf => ?_
  rw [vc83]
  have hL := s.len
  have hL' := t.len
  have hll : l' = l := by omega
  subst hll
  rw [if_neg (by rw [neI_iff]; simp)]
  refine ⟨fun vals m hh => ∃ i : Nat, [.int .i64 i] = vals ∧ i ≤ l' ∧ m = l' - i ∧ h = hh, ⟨l', 0, rfl, Nat.zero_le _, rfl, rfl⟩, ?_⟩
  rintro n m hh ⟨i, e, hi, rfl, rfl⟩
  simp at e; subst e
  by_cases hlt : ltI (i : Int) (natI l') = true
  · rw [if_pos hlt]
    have hlt : i < l' := by rw [ltI_iff] at hlt; simp only [natI] at hlt; omega
    have hz : L[i]? = some (L[i]'(by omega)) := List.getElem?_eq_getElem _
    generalize L[i]'(by omega) = z at hz
    have hin : inR (i : Int) l' := by simp only [inR]; omega
    obtain ⟨i1, i2⟩ := s.get encF_w hz (j := 0) (m := 1) (by omega)
    obtain ⟨j1, j2⟩ := t.get encF_w hz (j := 0) (m := 1) (by omega)
    refine ⟨⟨i1, hin⟩, z, ⟨rfl, i2.trans rfl⟩, ⟨j1, hin⟩, z, ⟨rfl, j2.trans rfl⟩, ?_⟩
    rw [if_neg (by rw [neI_iff]; simp)]
    exact ⟨l' - (i + 1), by simp only [lessN]; omega, i + 1, by rw [addW_small (by omega) (by omega)]; rfl, by omega, rfl, rfl⟩
  · rw [if_neg hlt]; exact ⟨rfl, rfl⟩

theorem c90 {h : Hp} {G G' : Option Nat} {a b : Option Addr} {l c l' c' : Nat} {L : List (Int × Int × Int)} (s : SlT encW 3 h G a l c L) (t : SlT encW 3 h G' b l' c' L) (hl : l ≤ 8589934592) :
    C 90 [.slice a l c, .slice b l' c'] h fun v h' => v = .bool true ∧ h' = h := by
  refine SCalls_of_vw fol (pf := pf) (shp := shp90) (f := 90) (fn := Try.f90) (by kernel_rfl) (c := Try.f90.body.getD .skip) (by kernel_rfl) (by kernel_rfl) fun wf => ?_
  rw [vc90]
  have hL := s.len
  have hL' := t.len
  have hll : l' = l := by omega
  subst hll
  rw [if_neg (by rw [neI_iff]; simp)]
  refine ⟨fun vals m hh => ∃ i : Nat, [.int .i64 i] = vals ∧ i ≤ l' ∧ m = l' - i ∧ h = hh, ⟨l', 0, rfl, Nat.zero_le _, rfl, rfl⟩, ?_⟩
  rintro n m hh ⟨i, e, hi, rfl, rfl⟩
  simp at e; subst e
  by_cases hlt : ltI (i : Int) (natI l') = true
  · rw [if_pos hlt]
    have hlt : i < l' := by rw [ltI_iff] at hlt; simp only [natI] at hlt; omega
    have hz : L[i]? = some (L[i]'(by omega)) := List.getElem?_eq_getElem _
    generalize L[i]'(by omega) = z at hz
    have hin : inR (i : Int) l' := by simp only [inR]; omega
    obtain ⟨i1, i2⟩ := s.get encW_w hz (j := 0) (m := 3) (by omega)
    obtain ⟨j1, j2⟩ := t.get encW_w hz (j := 0) (m := 3) (by omega)
    refine ⟨⟨i1, hin⟩, z.1, z.2.1, z.2.2, ⟨rfl, i2.trans rfl⟩, ⟨j1, hin⟩, z.1, z.2.1, z.2.2, ⟨rfl, j2.trans rfl⟩, ?_⟩
    have eqs : ∀ n : Int, eqI n n = true := fun n => eqI_iff.mpr rfl
    have an : notB (andB true (andB true (andB true true))) = false := rfl
    rw [if_neg (by simp only [eqs, an]; simp)]
    exact ⟨l' - (i + 1), by simp only [lessN]; omega, i + 1, by rw [addW_small (by omega) (by omega)]; rfl, by omega, rfl, rfl⟩
  · rw [if_neg hlt]; exact ⟨rfl, rfl⟩

/-- A scene. -/
structure Scn where
  page : Int
  most : Int
  ia : Option Addr
  il : Nat
  ic : Nat
  wh : Bool
  sa : Option Addr
  sl : Nat
  sc : Nat
def Scn.enc (x : Scn) : List Value := [.int .i64 x.page, .int .i64 x.most, .slice x.ia x.il x.ic, .bool x.wh, .slice x.sa x.sl x.sc]
def pageN (p : Int) : Int := if paged p then p else 8

theorem c74 (h : Hp) (x : Scn) : C 74 [.agg x.enc.toArray] h fun v h' => v = .int .i64 (pageN x.page) ∧ Kept h h' := by
  refine SCalls_of_vw fol (pf := pf) (shp := shp74) (f := 74) (fn := Try.f74) (by kernel_rfl) (c := Try.f74.body.getD .skip) (by kernel_rfl) (by kernel_rfl) fun wf => ?_
  show vBody Try.prog C pf shp74 Try.f74 (Try.f74.body.getD .skip) [.agg #[.int .i64 x.page, .int .i64 x.most, .slice x.ia x.il x.ic, .bool x.wh, .slice x.sa x.sl x.sc]] h _
  rw [vc74]
  intro h1 e1
  obtain ⟨b1, k1, n1, wf1⟩ := new_blk wf e1
  refine ⟨rfl, x.page, ⟨rfl, b1.one rfl⟩, (c64 h1 x.page).mono fun v h' ⟨e, e'⟩ => ⟨_, e, ?_⟩⟩
  subst e'
  by_cases hp : paged x.page
  · rw [if_pos (by rw [decide_eq_true hp])]
    exact ⟨rfl, x.page, ⟨rfl, b1.one rfl⟩, by unfold pageN; rw [if_pos hp], k1⟩
  · rw [if_neg (by rw [decide_eq_false hp]; simp)]
    exact ⟨by unfold pageN; rw [if_neg hp], k1⟩

theorem pageN_le (p : Int) : 0 ≤ pageN p ∧ pageN p ≤ 8192 := by
  unfold pageN
  split
  · rename_i h
    unfold paged at h
    simp at h
    omega
  · omega

/-- What beyond lets by. -/
theorem c47 (h : Hp) (x : Scn) (hi : x.il ≤ 1048576) : C 47 [.agg x.enc.toArray] h fun v h' => (v = .bool true ∨ (v = .bool false ∧ x.il ≤ 131072 ∧ x.sl ≤ 262144)) ∧ Kept h h' := by
  refine SCalls_of_vw fol (pf := pf) (shp := shp47) (f := 47) (fn := Try.f47) (by kernel_rfl) (c := Try.f47.body.getD .skip) (by kernel_rfl) (by kernel_rfl) fun wf => ?_
  show vBody Try.prog C pf shp47 Try.f47 (Try.f47.body.getD .skip) [.agg #[.int .i64 x.page, .int .i64 x.most, .slice x.ia x.il x.ic, .bool x.wh, .slice x.sa x.sl x.sc]] h _
  rw [vc47]
  intro h1 e1
  obtain ⟨b1, k1, n1, wf1⟩ := new_blk wf e1
  refine ⟨rfl, x.ia, x.il, x.ic, ⟨rfl, b1.one rfl⟩, x.page, x.most, x.ia, x.il, x.ic, x.wh, x.sa, x.sl, x.sc, ⟨rfl, (b1.cells (o := 0) (n := 5) (Nat.le_of_ble_eq_true rfl)).trans rfl⟩, (c74 h1 x).wf fun v h2 wf2 _ ⟨e2, k2⟩ => ⟨_, e2, ?_⟩⟩
  have b2 := k2.blk b1
  have hp := pageN_le x.page
  have hmul0 : 0 ≤ (x.il : Int) * pageN x.page := Int.mul_nonneg (by omega) hp.1
  have hmul1 : (x.il : Int) * pageN x.page ≤ 8589934592 := by
    have h1 : (x.il : Int) * pageN x.page ≤ (x.il : Int) * 8192 := Int.mul_le_mul_of_nonneg_left hp.2 (by omega)
    omega
  have hmul : mulW .i64 (natI x.il) (pageN x.page) = (x.il : Int) * pageN x.page := by
    unfold mulW IntKind.wrap natI
    simp [IntKind.bits, IntKind.signed]
    omega
  generalize (x.il : Int) * pageN x.page = P0 at hmul hmul0 hmul1
  rw [hmul]
  refine ⟨⟨rfl, b2.one rfl⟩, fun vals m hh => ∃ (i : Nat) (n : Int), [.int .i64 n, .int .i64 i] = vals ∧ i ≤ x.sl ∧ m = x.sl - i ∧ h2 = hh ∧ (i = 0 → n = P0) ∧ (0 < i → n = P0 + 10001 * (i : Int) ∧ n ≤ 2147483647), ⟨x.sl, 0, _, rfl, Nat.zero_le _, rfl, rfl, fun _ => rfl, by omega⟩, ?_⟩
  rintro n ni m hh ⟨i, n', e, hi', rfl, rfl, hn0, hn1⟩
  simp at e
  obtain ⟨rfl, rfl⟩ := e
  refine ⟨rfl, x.sa, x.sl, x.sc, ⟨rfl, b2.one rfl⟩, ?_⟩
  have kk : Kept h h2 := k1.trans wf k2 fun _ _ hf => hf
  have hn : n' = P0 + 10001 * (i : Int) ∧ (0 < i → n' ≤ 2147483647) := by
    by_cases h0 : i = 0
    · subst h0; exact ⟨by rw [hn0 rfl]; omega, by omega⟩
    · exact ⟨(hn1 (by omega)).1, fun _ => (hn1 (by omega)).2⟩
  by_cases hlt : ltI (i : Int) (natI x.sl) = true
  · rw [if_pos hlt]
    have hlt : i < x.sl := by rw [ltI_iff] at hlt; simp only [natI] at hlt; omega
    by_cases hg : gtI (addW .i64 (addW .i64 n' 1) 10000) 2147483647 = true
    · rw [if_pos hg]
      exact ⟨.inl rfl, kk⟩
    · rw [if_neg hg]
      have e2 : addW .i64 (addW .i64 n' 1) 10000 = n' + 10001 := by
        rw [addW_small (a := n') (by omega) (by omega), addW_small (by omega) (by omega)]; omega
      rw [e2] at hg ⊢
      have hg : n' + 10001 ≤ 2147483647 := by rw [gtI_iff] at hg; omega
      exact ⟨x.sl - (i + 1), by simp only [lessN]; omega, i + 1, n' + 10001, by rw [addW_small (by omega) (by omega)]; rfl, by omega, rfl, rfl, by omega, fun _ => by omega⟩
  · rw [if_neg hlt]
    have hil : i = x.sl := by rw [ltI_iff] at hlt; simp only [natI] at hlt; omega
    refine ⟨rfl, x.ia, x.il, x.ic, ⟨rfl, b2.one rfl⟩, ?_, kk⟩
    by_cases hb : sel (gtI (natI x.il) 131072) true (gtI n' 2147483647) = true
    · rw [hb]; exact .inl rfl
    · have hb' : sel (gtI (natI x.il) 131072) true (gtI n' 2147483647) = false := by simpa using hb
      rw [hb']
      rw [or_iff, gtI_iff, gtI_iff] at hb
      simp only [natI] at hb
      exact .inr ⟨rfl, by omega, by omega⟩
end Go.Proofs.Ytfkhjbfddeahaaa.kc

/- Arms that are lent, and whether they were kept. -/
set_option linter.unusedVariables false
set_option linter.unusedSimpArgs false
namespace Go.Proofs.Ytfkhjbfddeahaaa.kc
open Go Go.Cn Go.Proofs Go.Proofs.Ytfkhjbfddeahaaa.vc

theorem app45 : AppT Try.prog 45 45 77 4 48 := AppT.of _ (by kernel_rfl)

theorem cutA_zero (w : Nat) (a : Option Addr) : cutA 0 w a = a := by
  cases a with
  | none => rfl
  | some a => obtain ⟨b, o, s⟩ := a; simp [cutA]
theorem diffN_zero (n : Nat) : diffN (natI n) 0 = n := by simp [diffN, natI]
theorem OwT.spot {α : Type} {enc : α → List Value} {w : Nat} {h : Hp} {g : Option Nat} {s : Sv} {L : List α} (o : OwT enc w h g s L) : spotOk w s.a ∧ s.l ≤ s.c := by
  have h0 := o.1.sl
  refine ⟨?_, h0.le⟩
  have := h0.mem
  cases ha : s.a with
  | none => trivial
  | some a => rw [ha] at this; exact this.1

/-- The fates of an arm that was lent, with a mark behind them. -/
structure Lf where
  g : Option Nat
  s : Sv
  F : List Int
def Lf.th (f : Lf) : Th := Th.own encF 1 f.g f.s (f.F ++ [165])
def lentA (z : Ar) (f : Lf) : Ar := { z with fa := f.s.a, fl := f.F.length, fc := f.s.c }
def lentL (Ls : List Ar) (fs : List Lf) : List Ar := List.zipWith lentA Ls fs
def markA : Ar := ⟨0, -77, false, none, 0, 0, 0, []⟩
def doneA : Ar := ⟨3, 1, false, none, 0, 0, 0, []⟩
theorem Ar.c4 (x : Ar) : x.enc4.all isCell = true := rfl

theorem c79 {h : Hp} {Rest : List Th} (m0 : Many h Rest) {aa : Option Addr} {al ac : Nat} {Ls : List Ar} (hT : Th.args aa al ac Ls ∈ Rest) (hl : Ls.length ≤ 1048576) (hfl : ∀ z ∈ Ls, z.fates.length ≤ 1048576) :
    C 79 [.slice aa al ac] h fun v h' => ∃ g s fs, v = .slice s.a al s.c ∧ fs.map Lf.F = Ls.map Ar.fates ∧ Many h' (Th.own Ar.enc4 4 g s (lentL Ls fs ++ [markA]) :: (fs.map Lf.th ++ Rest)) ∧ Wf h' := by
  refine SCalls_of_vw fol (pf := pf) (shp := shp79) (f := 79) (fn := Try.f79) (by kernel_rfl) (c := Try.f79.body.getD .skip) (by kernel_rfl) (by kernel_rfl) fun wf => ?_
  rw [vc79]
  have tA : ∀ {A : List Th} {hh : Hp}, Many hh (A ++ Rest) → SlT Ar.enc4 4 hh none aa al ac Ls ∧ ∀ z ∈ Ls, SlT encF 1 hh none z.fa z.fl z.fc z.fates := fun m => (m.at_ _ (List.mem_append_right _ hT)).1
  have hal : Ls.length = al := (tA (A := []) m0).1.len
  refine ⟨fun vals m hh => ∃ (i : Nat) (g : Option Nat) (s : Sv) (fs : List Lf), [s.v, .int .i64 i] = vals ∧ i ≤ al ∧ m = al - i ∧ Wf hh ∧ fs.map Lf.F = (Ls.take i).map Ar.fates ∧ Many hh (Th.own Ar.enc4 4 g s (lentL (Ls.take i) fs) :: (fs.map Lf.th ++ Rest)),
    ⟨al, 0, none, ⟨none, 0, 0⟩, [], rfl, Nat.zero_le _, rfl, wf, by simp, m0.nilOwn Ar.enc4 4⟩, ?_⟩
  rintro a1 l1 c1 n m h5 ⟨i, g, s, fs, e, hi, rfl, wf5, hF, m5⟩
  simp at e
  obtain ⟨⟨rfl, rfl, rfl⟩, rfl⟩ := e
  have hfsl : fs.length = i := by have := congrArg List.length hF; simp at this; omega
  have hsl : s.l = i := by
    have : (lentL (Ls.take i) fs).length = s.l := (Many.own (A := []) m5).2
    rw [← this]; simp [lentL]; omega
  by_cases hlt : ltI (i : Int) (natI al) = true
  · rw [if_pos hlt]
    have hlt : i < al := by rw [ltI_iff] at hlt; simp only [natI] at hlt; omega
    obtain ⟨sa, sf⟩ := tA (A := _ :: fs.map Lf.th) m5
    have hz : Ls[i]? = some (Ls[i]'(by omega)) := List.getElem?_eq_getElem _
    generalize Ls[i]'(by omega) = z at hz
    have hzm := List.mem_of_getElem? hz
    have hzl := (sf z hzm).len
    have hzb := hfl z hzm
    obtain ⟨i1, i2⟩ := sa.get Ar.w4 hz (j := 0) (m := 4) (by omega)
    refine ⟨⟨i1, by simp only [inR]; omega⟩, z.on, z.nth, z.pw, z.fa, z.fl, z.fc, ⟨rfl, i2.trans rfl⟩, ?_⟩
    intro h6 e6
    obtain ⟨m6, wf6, n6⟩ := m5.newVar wf5 e6
    obtain ⟨h7, e7, m7, wf7⟩ := Many.fill (A := []) (vs := z.enc4) wf6 m6 rfl rfl
    have b7 := Many.var (A := []) m7
    generalize hq : h5.next = q at *
    refine ⟨rfl, h7, e7, rfl, z.fa, z.fl, z.fc, ⟨rfl, b7.one rfl⟩, ?_⟩
    obtain ⟨_, sf7⟩ := tA (A := Th.var q z.enc4 :: Th.own Ar.enc4 4 g s _ :: fs.map Lf.th) m7
    obtain ⟨s8, g8, h8, e8, m8, hs8, _, _, wf8⟩ := m7.clone wf7 app36 (by omega) encF_c (sf7 z hzm) (by omega)
    refine ⟨s8.a, s8.l, s8.c, h8, e8, ?_⟩
    intro h9 e9
    obtain ⟨s10, g10, h10, e10, m10, hs10, wf10⟩ := Many.push (A := []) (x := (165 : Int)) wf8 m8 app36 e9 rfl rfl (room (by omega) (by omega))
    have b10 := Many.var (A := [Th.own encF 1 g10 s10 _]) m10
    have o10 := Many.own (A := []) m10
    obtain ⟨sp10, lc10⟩ := o10.spot
    refine ⟨s10.a, s10.l, s10.c, h10, e10, rfl, z.fa, z.fl, z.fc, ⟨rfl, b10.one rfl⟩, ⟨by simp only [cutOk, natI]; omega, sp10⟩, rfl, rfl, ?_⟩
    rw [cutA_zero, diffN_zero, diffN_zero]
    obtain ⟨f, hf⟩ : ∃ f : Lf, f = ⟨g10, s10, z.fates⟩ := ⟨_, rfl⟩
    obtain ⟨h11, e11, m11, wf11⟩ := Many.set (A := [Th.own encF 1 g10 s10 _]) (o := 3) (v := .slice s10.a z.fl s10.c) wf10 m10 (by simp [Ar.enc4]) rfl
    have hy4 : (z.enc4).set 3 (.slice s10.a z.fl s10.c) = (lentA z f).enc4 := by subst hf; rw [← hzl]; rfl
    rw [hy4] at m11
    have b11 := Many.var (A := [Th.own encF 1 g10 s10 _]) m11
    refine ⟨h11, e11, (lentA z f).on, (lentA z f).nth, (lentA z f).pw, (lentA z f).fa, (lentA z f).fl, (lentA z f).fc, ⟨rfl, (b11.cells (o := 0) (n := 4) (Nat.le_of_ble_eq_true rfl)).trans rfl⟩, ?_⟩
    intro h12 e12
    obtain ⟨s13, g13, h13, e13, m13, hs13, wf13⟩ := Many.push (A := [Th.own encF 1 g10 s10 _, Th.var q _]) (x := lentA z f) wf11 m11 app45 e12 rfl rfl (room (by omega) (by omega))
    refine ⟨s13.a, s13.l, s13.c, h13, e13, al - (i + 1), by simp only [lessN]; omega, i + 1, g13, s13, fs ++ [f], by rw [addW_small (by omega) (by omega)]; rfl, by omega, rfl, wf13, ?_, ?_⟩
    · rw [List.take_add_one, hz, List.map_append, List.map_append, hF]; subst hf; rfl
    · have hcat : lentL (Ls.take (i + 1)) (fs ++ [f]) = lentL (Ls.take i) fs ++ [lentA z f] := by
        unfold lentL
        rw [List.take_add_one, hz]
        rw [List.zipWith_append (by rw [List.length_take]; omega)]; rfl
      rw [hcat]
      have m14 : Many h13 (Lf.th f :: (Th.own Ar.enc4 4 g13 s13 (lentL (Ls.take i) fs ++ [lentA z f]) :: (fs.map Lf.th ++ Rest))) := by
        subst hf
        exact m13.sub (List.Sublist.cons_cons _ (List.Sublist.cons _ (List.Sublist.refl _)))
      refine m14.perm ((List.Perm.swap _ _ _).trans (List.Perm.cons _ ?_))
      rw [List.map_append, List.append_assoc]
      exact List.perm_middle.symm
  · rw [if_neg hlt]
    have hil : i = al := by rw [ltI_iff] at hlt; simp only [natI] at hlt; omega
    have ht : Ls.take i = Ls := List.take_of_length_le (by omega)
    rw [ht] at m5 hF
    intro h6 e6
    obtain ⟨s7, g7, h7, e7, m7, hs7, wf7⟩ := Many.push (A := []) (x := markA) wf5 m5 app45 e6 rfl rfl (room (by omega) (by omega))
    have o7 := Many.own (A := []) m7
    obtain ⟨sp7, lc7⟩ := o7.spot
    refine ⟨s7.a, s7.l, s7.c, h7, e7, ⟨by simp only [cutOk, natI]; omega, sp7⟩, g7, s7, fs, ?_, hF, m7, wf7⟩
    rw [cutA_zero, diffN_zero, diffN_zero]

theorem c81 {h : Hp} {Rest : List Th} {g : Option Nat} {s : Sv} {fs : List Lf} {aa : Option Addr} {al ac : Nat} {Ls : List Ar} (hF : fs.map Lf.F = Ls.map Ar.fates) (m0 : Many h (Th.own Ar.enc4 4 g s (lentL Ls fs ++ [markA]) :: (fs.map Lf.th ++ Rest))) (hT : Th.args aa al ac Ls ∈ Rest) (hl : Ls.length ≤ 1048576) (hfl : ∀ z ∈ Ls, z.fates.length ≤ 1048576) :
    C 81 [.slice s.a al s.c, .slice aa al ac] h fun v h' => v = .bool true ∧ Many h' Rest ∧ Wf h' := by
  refine SCalls_of_vw fol (pf := pf) (shp := shp81) (f := 81) (fn := Try.f81) (by kernel_rfl) (c := Try.f81.body.getD .skip) (by kernel_rfl) (by kernel_rfl) fun wf => ?_
  rw [vc81]
  have tA : ∀ {A : List Th} {hh : Hp}, Many hh (A ++ Rest) → SlT Ar.enc4 4 hh none aa al ac Ls ∧ ∀ z ∈ Ls, SlT encF 1 hh none z.fa z.fl z.fc z.fates := fun m => (m.at_ _ (List.mem_append_right _ hT)).1
  have hal : Ls.length = al := (tA (A := _ :: fs.map Lf.th) m0).1.len
  have hfsl : fs.length = Ls.length := by have := congrArg List.length hF; simpa using this
  have hLl : (lentL Ls fs).length = al := by unfold lentL; rw [List.length_zipWith]; omega
  have o0 := Many.own (A := []) m0
  have hsl : s.l = al + 1 := by rw [← o0.2, List.length_append, hLl]; rfl
  obtain ⟨sp0, lc0⟩ := o0.spot
  have ea : addW .i64 (natI al) 1 = natI (al + 1) := by simp only [natI]; rw [addW_small (by omega) (by omega)]; rfl
  rw [ea, cutA_zero]
  have hmk : (lentL Ls fs ++ [markA])[al]? = some markA := by rw [List.getElem?_append_right (by omega), hLl, Nat.sub_self]; rfl
  obtain ⟨k1, k2⟩ := o0.slT.get Ar.w4 hmk (j := 1) (m := 1) (by omega)
  rw [diffN_zero]
  refine ⟨⟨by simp only [cutOk, natI]; omega, sp0⟩, ⟨k1, by simp only [inR, natI]; omega⟩, rfl, -77, ⟨rfl, k2.trans rfl⟩, ?_⟩
  refine ⟨fun vals m hh => ∃ (i : Nat) (X : List Ar), [.bool true, .int .i64 i] = vals ∧ i ≤ al ∧ m = al - i ∧ Wf hh ∧ X.length = i ∧ Many hh (Th.own Ar.enc4 4 g s (X ++ ((lentL Ls fs).drop i ++ [markA])) :: ((fs.drop i).map Lf.th ++ Rest)),
    ⟨al, 0, [], rfl, Nat.zero_le _, rfl, wf, rfl, m0⟩, ?_⟩
  clear m0 o0 k1 k2
  rintro b1 n m h5 ⟨i, X, e, hi, rfl, wf5, hX, m5⟩
  simp at e
  obtain ⟨rfl, rfl⟩ := e
  by_cases hlt : ltI (i : Int) (natI al) = true
  rotate_left
  · rw [if_neg hlt]
    have m6 : Many h5 (([Th.own Ar.enc4 4 g s (X ++ ((lentL Ls fs).drop i ++ [markA]))] ++ (fs.drop i).map Lf.th) ++ Rest) := m5
    exact ⟨rfl, m6.sub (List.sublist_append_right _ _), wf5⟩
  rw [if_pos hlt]
  have hlt : i < al := by rw [ltI_iff] at hlt; simp only [natI] at hlt; omega
  obtain ⟨sa, sf⟩ := tA (A := _ :: (fs.drop i).map Lf.th) m5
  have hz : Ls[i]? = some (Ls[i]'(by omega)) := List.getElem?_eq_getElem _
  generalize Ls[i]'(by omega) = z at hz
  have hzm := List.mem_of_getElem? hz
  have hf : fs[i]? = some (fs[i]'(by omega)) := List.getElem?_eq_getElem _
  have hdf : fs.drop i = fs[i]'(by omega) :: fs.drop (i + 1) := List.drop_eq_getElem_cons (by omega)
  generalize fs[i]'(by omega) = f at hf hdf
  have hfz : f.F = z.fates := by
    have := congrArg (fun l => l[i]?) hF
    simp only [List.getElem?_map, hz, hf, Option.map_some, Option.some.injEq] at this
    exact this
  have hy : (lentL Ls fs)[i]? = some (lentA z f) := by unfold lentL; rw [List.getElem?_zipWith, hz, hf]
  have hdl : (lentL Ls fs).drop i = lentA z f :: (lentL Ls fs).drop (i + 1) := by
    rw [List.drop_eq_getElem_cons (by omega)]
    have h1 : (lentL Ls fs)[i]? = some ((lentL Ls fs)[i]'(by omega)) := List.getElem?_eq_getElem _
    rw [hy] at h1
    simp only [Option.some.injEq] at h1
    rw [← h1]
  rw [hdf, hdl] at m5
  have o5 := Many.own (A := []) m5
  have hyi : (X ++ (lentA z f :: (lentL Ls fs).drop (i + 1) ++ [markA]))[i]? = some (lentA z f) := by rw [List.getElem?_append_right (by omega), hX, Nat.sub_self]; rfl
  have r0 : ∀ j m, j + m ≤ 4 → s.a.isSome = true ∧ h5.cellsAt (blk s.a) (off s.a + i * 4 + j) m = some (((lentA z f).enc4.drop j).take m) := fun j m hj => o5.slT.get Ar.w4 hyi hj
  have r1 : ∀ j m, j + m ≤ 4 → aa.isSome = true ∧ h5.cellsAt (blk aa) (off aa + i * 4 + j) m = some ((z.enc4.drop j).take m) := fun j m hj => sa.get Ar.w4 hz hj
  have hin : inR (i : Int) al := by simp only [inR]; omega
  have s0 := (r0 0 1 (by omega)).1
  have s1 := (r1 0 1 (by omega)).1
  have of : OwT encF 1 h5 f.g f.s (f.F ++ [165]) := Many.own (A := [Th.own Ar.enc4 4 g s _]) m5
  have hfl' : f.s.l = f.F.length + 1 := by rw [← of.2]; simp
  obtain ⟨spf, lcf⟩ := of.spot
  have hzl : z.fates.length = z.fl := (sf z hzm).len
  have hzb := hfl z hzm
  have hFl : f.F.length = z.fl := by rw [hfz, hzl]
  have efl : addW .i64 (natI z.fl) 1 = natI (z.fl + 1) := by simp only [natI]; rw [addW_small (by omega) (by omega)]; rfl
  have eqs : ∀ n : Int, eqI n n = true := fun n => eqI_iff.mpr rfl
  have eqb : ∀ b : Bool, eqB b b = true := fun b => by cases b <;> rfl
  have tt : sel true true false = true := rfl
  refine ⟨⟨s1, hin⟩, rfl, z.fa, z.fl, z.fc, ⟨rfl, (r1 3 1 (by omega)).2⟩, ⟨s0, hin⟩, rfl, f.s.a, f.F.length, f.s.c, ⟨rfl, (r0 3 1 (by omega)).2⟩, ?_⟩
  rw [efl, cutA_zero, cutA_zero]
  refine ⟨⟨by simp only [cutOk, natI]; omega, spf⟩, fun _ => ⟨s0, hin⟩, fun _ => rfl, z.on, fun _ => ⟨rfl, (r0 0 1 (by omega)).2⟩, fun _ => ⟨s1, hin⟩, fun _ => rfl, z.on, fun _ => ⟨rfl, (r1 0 1 (by omega)).2⟩, ?_⟩
  simp only [eqs, tt]
  refine ⟨fun _ => ⟨s0, hin⟩, fun _ => rfl, z.nth, fun _ => ⟨rfl, (r0 1 1 (by omega)).2⟩, fun _ => ⟨s1, hin⟩, fun _ => rfl, z.nth, fun _ => ⟨rfl, (r1 1 1 (by omega)).2⟩, ?_⟩
  simp only [eqs, tt]
  refine ⟨fun _ => ⟨s0, hin⟩, fun _ => rfl, z.pw, fun _ => ⟨rfl, (r0 2 1 (by omega)).2⟩, fun _ => ⟨s1, hin⟩, fun _ => rfl, z.pw, fun _ => ⟨rfl, (r1 2 1 (by omega)).2⟩, ?_⟩
  simp only [eqb, tt]
  rw [diffN_zero, diffN_zero, diffN_zero, diffN_zero]
  refine ⟨fun _ => ⟨by simp only [cutOk, natI]; omega, spf⟩, fun _ => ⟨s1, hin⟩, fun _ => rfl, z.fa, z.fl, z.fc, fun _ => ⟨rfl, (r1 3 1 (by omega)).2⟩, fun v hh => v = .bool true ∧ h5 = hh, fun _ => ?_, fun hf => by simp at hf, ?_⟩
  · have t1 := of.slT.take encF_w (m := z.fl) (by omega)
    rw [List.take_append_of_le_length (by omega), List.take_of_length_le (by omega), hfz] at t1
    exact (c83 t1 (sf z hzm) (by omega)).mono fun v h' ⟨e, e'⟩ => ⟨_, e, rfl, e'.symm⟩
  rintro b2 hx ⟨e, ex⟩
  subst ex
  simp only [Value.bool.injEq] at e
  subst e
  have hmf : (f.F ++ [165])[z.fl]? = some 165 := by rw [List.getElem?_append_right (by omega), hFl, Nat.sub_self]; rfl
  obtain ⟨q1, q2⟩ := of.slT.get encF_w hmf (j := 0) (m := 1) (by omega)
  refine ⟨fun _ => ⟨q1, by simp only [inR, natI]; omega⟩, 165, fun _ => ⟨rfl, q2.trans rfl⟩, ?_⟩
  simp only [eqs, tt]
  refine ⟨fun vals m hh => ∃ (j : Nat) (Fc : List Int), [.int .i64 j] = vals ∧ j ≤ z.fl ∧ m = z.fl - j ∧ Wf hh ∧ Fc.length = z.fl + 1 ∧ Many hh (Th.own Ar.enc4 4 g s (X ++ (lentA z f :: (lentL Ls fs).drop (i + 1) ++ [markA])) :: (Th.own encF 1 f.g f.s Fc :: ((fs.drop (i + 1)).map Lf.th ++ Rest))),
    ⟨z.fl, 0, f.F ++ [165], rfl, Nat.zero_le _, rfl, wf5, by simp; omega, m5⟩, ?_⟩
  clear r0 r1 o5 of q1 q2 sa sf m5 wf5
  rintro n6 m6 h6 ⟨j, Fc, e, hj, rfl, wf6, hFc, m6⟩
  simp at e
  subst e
  by_cases hlj : ltI (j : Int) (natI z.fl) = true
  · rw [if_pos hlj]
    have hlj : j < z.fl := by rw [ltI_iff] at hlj; simp only [natI] at hlj; omega
    obtain ⟨p1, h7, e7, m7, wf7⟩ := Many.setOwn (A := [Th.own Ar.enc4 4 g s _]) (x := (90 : Int)) wf6 encF_w m6 (i := j) (by omega) rfl
    exact ⟨⟨p1, by simp only [inR]; omega⟩, rfl, h7, e7, z.fl - (j + 1), by simp only [lessN]; omega, j + 1, Fc.set j 90, by rw [addW_small (by omega) (by omega)]; rfl, by omega, rfl, wf7, by rw [List.length_set]; exact hFc, m7⟩
  · rw [if_neg hlj]
    obtain ⟨p1, h7, e7, m7, wf7⟩ := Many.setOwn (A := []) (x := doneA) wf6 Ar.w4 m6 (i := i) (by simp; omega) rfl
    refine ⟨⟨p1, hin⟩, rfl, h7, e7, al - (i + 1), by simp only [lessN]; omega, i + 1, X ++ [doneA], by rw [addW_small (by omega) (by omega)]; rfl, by omega, rfl, wf7, by simp; omega, ?_⟩
    have hset : (X ++ (lentA z f :: (lentL Ls fs).drop (i + 1) ++ [markA])).set i doneA = X ++ [doneA] ++ ((lentL Ls fs).drop (i + 1) ++ [markA]) := by
      rw [List.set_append_right _ _ (by omega), hX, Nat.sub_self]; simp
    rw [hset] at m7
    exact m7.sub (List.Sublist.cons_cons _ (List.sublist_cons_self _ _))
end Go.Proofs.Ytfkhjbfddeahaaa.kc

/- Reasoning over canonical heaps: lists that only grow at their end and shrink at their front; a list that has grown, and what it was. -/
set_option linter.unusedVariables false
set_option linter.unusedSimpArgs false
namespace Go.Cn

section
variable {P : Program}

/-- What append does. -/
theorem cappend_eq {h : Hp} {t xt elem : TypeId} {w bytes : Nat} (ht : AppT P t xt elem w bytes) {a : Option Addr} {l c : Nat} {x : Value} {n : Nat} {new : List Value} (hlc : l ≤ c) (hx : dataOf w x h = some (n, new)) (hnl : new.length = n * w) (hr : roomy (l + n) bytes = true) :
    cappend P t xt (.slice a l c) x h = if n = 0 then some (.slice a l c, h) else
      (match (Value.slice a l c) with
        | .slice none 0 0 => some (.slice (some ⟨h.next, 0, some w⟩) n n, h.alloc new elem)
        | .slice (some ⟨b, o, sp⟩) l c =>
          if l + n ≤ c then (h.store b (o + l * w) new).map fun h' => (.slice (some ⟨b, o, sp⟩) (l + n) c, h')
          else match sp with
            | none => if l = 0 then some (.slice (some ⟨h.next, 0, some w⟩) n n, h.alloc new elem) else
              (h.cellsAt b o (l * w)).map fun old => (.slice (some ⟨h.next, 0, some w⟩) (l + n) (l + n), h.alloc (old ++ new) elem)
            | some k => if k = w then (h.extend b o (o + l * w) new).map fun h' => (.slice (some ⟨h.next, 0, some w⟩) (l + n) (l + n), h') else none
        | _ => none) := by
  obtain ⟨i, z, e1, e2, e3, e4, e5⟩ := ht.info
  obtain ⟨u, e6, e7⟩ := ht.other
  have hp := ht.pos
  have hb := ht.bpos
  unfold cappend
  rw [ht.under]
  dsimp only
  rw [e1, e6]
  have hb1 : ¬ (w = 0) := by omega
  have hb2 : ¬ (bytes = 0) := by omega
  cases u with
  | int k => exact absurd rfl (e7 k)
  | _ =>
    dsimp only
    rw [e2, hx]
    by_cases hn : n = 0
    · simp [hn, hlc]
    · simp only [hn, if_false, slen, e3, e4, e5, Option.map_some, decide_true, Bool.not_true, hr, Bool.false_or, Bool.or_false, hb1, hb2, decide_false, Bool.false_eq_true]
      cases a <;> rfl

theorem one_data {h : Hp} (wf : Wf h) {new : List Value} {w : Nat} (hnl : new.length = w) (e : TypeId) : dataOf w (.slice (some ⟨h.next, 0, none⟩) 1 1) (h.alloc new e) = some (1, new) := by
  have hb := alloc_blk wf new e
  simp only [dataOf, Nat.one_mul]
  rw [hb.cells (by omega)]
  simp [← hnl]

/-! ### 1. A list that begins anywhere in its block, and ends with it -/
def Ol (h : Hp) (w : Nat) (g : Option Nat) (a : Option Addr) (l : Nat) (cs : List Value) : Prop :=
  ∃ b o sp g' CS, g = some g' ∧ a = some ⟨b, o, sp⟩ ∧ (sp = none ∨ sp = some w) ∧ 0 < l ∧ Blk h b (some g') CS ∧ CS.length = o + l * w ∧ cs = CS.drop o

section
variable {h : Hp} {w : Nat} {g : Option Nat} {a : Option Addr} {l : Nat} {cs : List Value}
theorem Ol.sl (s : Ol h w g a l cs) : Sl h w g a l l cs := by
  obtain ⟨b, o, sp, g', CS, rfl, rfl, hsp, hl, hb, hlen, rfl⟩ := s
  refine ⟨Nat.le_refl _, by rw [List.length_drop]; omega, hsp, fun _ => ⟨CS, hb, by omega, ?_⟩⟩
  exact List.take_of_length_le (by rw [List.length_drop]; omega)
theorem Ol.keep {S : Nat → Prop} {h' : Hp} (k : Keep S h h') (s : Ol h w g a l cs) (hn : ∀ x, g = some x → ¬ S x) : Ol h' w g a l cs := by
  obtain ⟨b, o, sp, g', CS, rfl, rfl, hsp, hl, hb, hlen, rfl⟩ := s
  exact ⟨b, o, sp, g', CS, rfl, rfl, hsp, hl, k.blk hb fun x hx => by simp at hx; subst hx; exact hn _ rfl, hlen, rfl⟩
theorem Ol.glt (wf : Wf h) (s : Ol h w g a l cs) : ∀ x, g = some x → x < h.next := by
  obtain ⟨b, o, sp, g', CS, rfl, rfl, hsp, hl, hb, hlen, rfl⟩ := s
  intro x hx; simp at hx; subst hx; exact hb.glt wf
theorem Ol.tail (s : Ol h w g a l cs) (h1 : 1 < l) : Ol h w g (a.map fun a => ⟨a.block, a.off + 1 * w, a.spot⟩) (l - 1) (cs.drop w) := by
  obtain ⟨b, o, sp, g', CS, rfl, rfl, hsp, hl, hb, hlen, rfl⟩ := s
  refine ⟨b, o + 1 * w, sp, g', CS, rfl, rfl, hsp, by omega, hb, ?_, by rw [List.drop_drop, Nat.one_mul]⟩
  have : l * w = w + (l - 1) * w := by
    obtain ⟨m, rfl⟩ : ∃ m, l = m + 1 := ⟨l - 1, by omega⟩
    rw [Nat.succ_mul, Nat.add_sub_cancel]; omega
  omega
theorem Ol.append1 {h1 : Hp} (wf : Wf h) {t xt elem e : TypeId} {bytes : Nat} (ht : AppT P t xt elem w bytes) (s : Ol h w g a l cs)
    {new : List Value} (he : h1 = h.alloc new e) (hnl : new.length = w) (hv : new.all isCell = true) (hr : roomy (l + 1) bytes = true) :
    ∃ a' g' h', cappend P t xt (.slice a l l) (.slice (some ⟨h.next, 0, none⟩) 1 1) h1 = some (.slice a' (l + 1) (l + 1), h') ∧ Ol h' w g' a' (l + 1) (cs ++ new) ∧ (g' = g ∨ ∃ y, g' = some y ∧ h.next ≤ y) ∧ Keep (fun x => g = some x) h h' ∧ Wf h' := by
  subst he
  have k := alloc_keep wf new e
  have wf' := alloc_wf wf new e
  have s1 := s.keep k fun _ _ hf => hf
  rw [cappend_eq ht (Nat.le_refl _) (one_data wf hnl e) (by omega) hr, if_neg (by omega)]
  obtain ⟨b, o, sp, g', CS, rfl, rfl, hsp, hl, hb, hlen, rfl⟩ := s1
  simp only
  rw [if_neg (by omega)]
  rcases hsp with rfl | rfl
  · simp only
    rw [if_neg (by omega), hb.cells (by omega)]
    have hold : ((CS.drop o).take (l * w)) = CS.drop o := List.take_of_length_le (by rw [List.length_drop]; omega)
    rw [hold]
    simp only [Option.map_some]
    have f1 := alloc_blk wf' (CS.drop o ++ new) elem
    refine ⟨_, _, _, rfl, ⟨_, 0, some w, _, _, rfl, rfl, .inr rfl, by omega, f1, by rw [List.length_append, List.length_drop, Nat.succ_mul]; omega, rfl⟩, .inr ⟨_, rfl, by rw [alloc_next]; omega⟩, ?_, alloc_wf wf' _ _⟩
    exact (k.trans wf (alloc_keep wf' _ _) fun _ _ hf => hf).mono wf fun _ _ hf => hf.elim
  · simp only [if_true]
    obtain ⟨h', g1, g2, g3, g4, g5, g6⟩ := hb.extend wf' (o := o) (e := o + l * w) (new := new) (by omega) (by omega) hv
    rw [g1]
    have hold : (CS.drop o).take (o + l * w - o) = CS.drop o := List.take_of_length_le (by rw [List.length_drop]; omega)
    rw [hold] at g2
    refine ⟨_, _, _, rfl, ⟨_, 0, some w, _, _, rfl, rfl, .inr rfl, by omega, g2, by rw [List.length_append, List.length_drop, Nat.succ_mul]; omega, rfl⟩, .inl rfl, ?_, g6⟩
    exact ((k.mono wf (S' := fun x => some g' = some x) fun _ _ hf => hf.elim).trans wf (S' := fun x => some g' = some x) (g4.mono wf' fun x _ hx => by rw [hx]) fun x hx he => he)
end

/-! ### 2. A list that has grown, and what it was -/
/-- The blocks of a group that stay behind an append to block b. -/
theorem extend_chain {h h' : Hp} {b g e : Nat} {cs new : List Value} (hb : Blk h b (some g) cs) (hx : h.extend b 0 e new = some h') (hlt : b ≠ h.next) :
    ∃ rest, h'.gs.get g = some (h.next :: rest) ∧ b ∈ rest ∧ (e = cs.length → ∀ b0 l, h.gs.get g = some l → b0 ∈ l.dropWhile (· != b) → b0 ∈ rest) ∧ ∀ x, x ≠ h.next → x ≠ b → h'.ob x = h.ob x := by
  obtain ⟨t, h1, h2⟩ := hb
  obtain ⟨cs0, t0, g0, rest, hE⟩ := Hp.extend_spec hx hlt
  have e1 := hE.old
  rw [h1] at e1
  simp at e1
  obtain ⟨rfl, rfl, rfl⟩ := e1
  refine ⟨rest, by rw [hE.gs, if_pos rfl], ?_, fun he b0 l hl hm => ?_, fun x hn hnb => by rw [hE.ob, if_neg hn, if_neg hnb]⟩
  · rcases hE.rest with ⟨_, e2⟩ | e2
    · rw [e2]; exact Hp.below_self h2
    · rw [e2]; simp
  · have hb' : h.below b g = l.dropWhile (· != b) := by unfold Hp.below; rw [hl]
    -- the other way of an append is not taken where the list ends with its block
    have : rest = h.below b g := by
      have hex := hx
      unfold Hp.extend at hex
      rw [h1] at hex
      simp only at hex
      split at hex
      · simp only [Option.some.injEq] at hex
        have hg := hE.gs g
        rw [if_pos rfl] at hg
        rw [← hex] at hg
        simp only [if_pos he] at hg
        rw [Hp.gs_setGs, if_pos rfl] at hg
        simp only [Option.some.injEq, List.cons.injEq, true_and] at hg
        exact hg.symm
      · simp at hex
    rw [this, hb']; exact hm
end
end Go.Cn

/- A list that has grown, and what it was. -/
set_option linter.unusedVariables false
set_option linter.unusedSimpArgs false
namespace Go.Proofs.Ytfkhjbfddeahaaa.kc
open Go Go.Cn Go.Proofs Go.Proofs.Ytfkhjbfddeahaaa.vc

section
variable {α : Type} {enc : α → List Value} {w : Nat}

/-- s0 still tells L0; s, which began as it, tells L and may grow on. -/
def Gw (enc : α → List Value) (w : Nat) (h : Hp) (g0 g1 : Option Nat) (s0 : Sv) (L0 : List α) (s : Sv) (L : List α) : Prop :=
  (Ap g0 g1 ∧ SlT enc w h g0 s0.a s0.l s0.c L0 ∧ OwT enc w h g1 s L) ∨
  (∃ b sp g CS, g0 = some g ∧ g1 = some g ∧ s0.a = some ⟨b, 0, sp⟩ ∧ s.a = some ⟨b, 0, sp⟩ ∧ (sp = none ∨ sp = some w) ∧ s0.l ≤ s.l ∧ s.l ≤ s.c ∧ s0.l ≤ s0.c ∧ 0 < s0.l ∧ Blk h b (some g) CS ∧ CS.length = s.c * w ∧ L.flatMap enc = CS.take (s.l * w) ∧ L.length = s.l ∧ L0.flatMap enc = CS.take (s0.l * w) ∧ L0.length = s0.l) ∨
  (∃ b0 b sp0 g CS0 l, g0 = some g ∧ g1 = some g ∧ s0.a = some ⟨b0, 0, sp0⟩ ∧ (sp0 = none ∨ sp0 = some w) ∧ s0.l ≤ s0.c ∧ s.a = some ⟨b, 0, some w⟩ ∧ s.c = s.l ∧ 0 < s.l ∧ Blk h b (some g) (L.flatMap enc) ∧ (L.flatMap enc).length = s.l * w ∧ L.length = s.l ∧ Blk h b0 (some g) CS0 ∧ s0.l * w ≤ CS0.length ∧ L0.flatMap enc = CS0.take (s0.l * w) ∧ L0.length = s0.l ∧
    b0 ≠ b ∧ h.gs.get g = some l ∧ b0 ∈ l.dropWhile (· != b))

variable {h : Hp} {g0 g1 : Option Nat} {s0 s : Sv} {L0 L : List α}

theorem Gw.base (x : Gw enc w h g0 g1 s0 L0 s L) : SlT enc w h g0 s0.a s0.l s0.c L0 := by
  rcases x with ⟨_, x, _⟩ | ⟨b, sp, g, CS, rfl, rfl, ea, _, hsp, h1, h2, h3, h4, hb, hl, e1, e2, e3, e4⟩ | ⟨b0, b, sp0, g, CS0, l, rfl, rfl, ea, hsp, h1, _, _, _, _, _, _, hb, hl, e3, e4, _⟩
  · exact x
  · have : s0.l * w ≤ s.l * w := Nat.mul_le_mul_right w h1
    have : s.l * w ≤ s.c * w := Nat.mul_le_mul_right w h2
    rw [ea]
    exact ⟨⟨h3, by rw [e3, List.length_take]; omega, hsp, fun _ => ⟨CS, hb, by omega, by rw [List.drop_zero, e3]⟩⟩, e4⟩
  · rw [ea]
    exact ⟨⟨h1, by rw [e3, List.length_take]; omega, hsp, fun _ => ⟨CS0, hb, by omega, by rw [List.drop_zero, e3]⟩⟩, e4⟩
theorem Gw.cur (x : Gw enc w h g0 g1 s0 L0 s L) : SlT enc w h g1 s.a s.l s.c L := by
  rcases x with ⟨_, _, x⟩ | ⟨b, sp, g, CS, rfl, rfl, _, ea, hsp, h1, h2, h3, h4, hb, hl, e1, e2, e3, e4⟩ | ⟨b0, b, sp0, g, CS0, l, rfl, rfl, _, _, _, ea, h1, h2, hb, hl, e4, _⟩
  · exact x.slT
  · have : s.l * w ≤ s.c * w := Nat.mul_le_mul_right w h2
    rw [ea]
    exact ⟨⟨h2, by rw [e1, List.length_take]; omega, hsp, fun _ => ⟨CS, hb, by omega, by rw [List.drop_zero, e1]⟩⟩, e2⟩
  · rw [ea, h1]
    exact ⟨⟨Nat.le_refl _, hl, .inr rfl, fun _ => ⟨_, hb, by omega, by rw [List.drop_zero, ← hl, List.take_length]⟩⟩, e4⟩
theorem Gw.keep {S : Nat → Prop} {h' : Hp} (k : Keep S h h') (x : Gw enc w h g0 g1 s0 L0 s L) (hn : ∀ y, g0 = some y ∨ g1 = some y → ¬ S y) : Gw enc w h' g0 g1 s0 L0 s L := by
  rcases x with ⟨h0, x, y⟩ | ⟨b, sp, g, CS, rfl, rfl, ea, ea', hsp, h1, h2, h3, h4, hb, hl⟩ | ⟨b0, b, sp0, g, CS0, l, rfl, rfl, ea, hsp, h1, ea', h2, h3, hb, hl, e4, hb0, hl0, e5, e6, hne, hg, hm⟩
  · exact .inl ⟨h0, x.keep k fun y hy => hn y (.inl hy), y.keep k fun y hy => hn y (.inr hy)⟩
  · exact .inr (.inl ⟨b, sp, g, CS, rfl, rfl, ea, ea', hsp, h1, h2, h3, h4, k.blk hb fun y hy => hn y (.inl hy), hl⟩)
  · refine .inr (.inr ⟨b0, b, sp0, g, CS0, l, rfl, rfl, ea, hsp, h1, ea', h2, h3, k.blk hb fun y hy => hn y (.inl hy), hl, e4, k.blk hb0 fun y hy => hn y (.inl hy), hl0, e5, e6, hne, ?_, hm⟩)
    obtain ⟨t, ho, _⟩ := hb
    rw [(k.rw _ _ _ _ ho (hn g (.inl rfl))).2]; exact hg
theorem Gw.glt (wf : Wf h) (x : Gw enc w h g0 g1 s0 L0 s L) : ∀ y, g1 = some y → y < h.next := by
  rcases x with ⟨h0, x, y⟩ | ⟨b, sp, g, CS, rfl, rfl, ea, ea', hsp, h1, h2, h3, h4, hb, hl⟩ | ⟨b0, b, sp0, g, CS0, l, rfl, rfl, ea, hsp, h1, ea', h2, h3, hb, hl, e4, hb0, hl0, e5, e6, hne, hg, hm⟩
  · exact y.1.glt wf
  · intro y hy; simp at hy; subst hy; exact hb.glt wf
  · intro y hy; simp at hy; subst hy; exact hb.glt wf

theorem Gw.start (o : OwT enc w h g1 s L) : ∃ g0, (∀ y, g0 = some y → g1 = some y) ∧ Gw enc w h g0 g1 s L s L := by
  by_cases h0 : s.l = 0
  · refine ⟨none, by simp, .inl ⟨Ap.nl _, ?_, o⟩⟩
    have t := o.slT
    have hm := t.sl.mem
    refine ⟨⟨t.sl.le, t.sl.len, ?_⟩, t.len⟩
    cases ha : s.a with
    | none => rw [ha] at hm; exact hm
    | some a => rw [ha] at hm; exact ⟨hm.1, fun h1 => absurd h1 (by omega)⟩
  · refine ⟨g1, fun _ hy => hy, ?_⟩
    obtain ⟨o1, o2⟩ := o
    rcases o1 with ⟨_, h1, _⟩ | ⟨b, sp, g', CS, hg, ha, hsp, hl, hc, hb, hlen, e⟩
    · exact absurd h1 h0
    · exact .inr (.inl ⟨b, sp, g', CS, hg, hg, ha, ha, hsp, Nat.le_refl _, hl, hl, by omega, hb, hlen, e, o2, e, o2⟩)

/-- It grows by one. -/
theorem Gw.push (wf : Wf h) (x : Gw enc w h g0 g1 s0 L0 s L) (hlt : ∀ y, g0 = some y → y < h.next) {t xt elem e : TypeId} {bytes : Nat} (ht : AppT Try.prog t xt elem w bytes) {v : α} {h1 : Hp} (he : h1 = h.alloc (enc v) e) (hw : (enc v).length = w) (hc : (enc v).all isCell = true) (hr : roomy (s.l + 1) bytes = true) :
    ∃ s' g1' h', cappend Try.prog t xt s.v (.slice (some ⟨h.next, 0, none⟩) 1 1) h1 = some (.slice s'.a s'.l s'.c, h') ∧ Gw enc w h' g0 g1' s0 L0 s' (L ++ [v]) ∧ (g1' = g1 ∨ ∃ y, g1' = some y ∧ h.next ≤ y) ∧ Keep (fun y => g1 = some y) h h' ∧ s'.l = s.l + 1 ∧ Wf h' := by
  have hfl : (L ++ [v]).flatMap enc = L.flatMap enc ++ enc v := by simp
  rcases x with ⟨h0, x, y⟩ | ⟨b, sp, g, CS, rfl, rfl, ea, ea', hsp, hl1, hl2, hl3, hl4, hb, hlen, e1, e2, e3, e4⟩ | ⟨b0, b, sp0, g, CS0, l, rfl, rfl, ea, hsp, hl1, ea', hl2, hl3, hb, hlen, e2, hb0, hl0, e5, e6, hne, hg, hm⟩
  · obtain ⟨a', c', g', h', a1, a2, a3, a4, a5⟩ := Ow.append1 wf ht y.1 he hw hc hr
    refine ⟨⟨a', s.l + 1, c'⟩, g', h', a1, .inl ⟨?_, x.keep a4 fun y hy he => h0 y hy he, ?_⟩, a3, a4, rfl, a5⟩
    · rcases a3 with rfl | ⟨y, rfl, hy⟩
      · exact h0
      · intro z hz he; simp at he; subst he; have := hlt _ hz; omega
    · exact ⟨by rw [hfl]; exact a2, by have := y.2; simp; omega⟩
  · subst he
    have k := alloc_keep wf (enc v) e
    have wf' := alloc_wf wf (enc v) e
    have hb1 := k.blk hb
    rw [show s.v = .slice s.a s.l s.c from rfl, ea', cappend_eq ht hl2 (one_data wf hw e) (by omega) hr, if_neg (by omega)]
    simp only [Nat.zero_add]
    have hsc : s.l * w ≤ s.c * w := Nat.mul_le_mul_right w hl2
    have hs0 : s0.l * w ≤ s.l * w := Nat.mul_le_mul_right w hl1
    by_cases hroom : s.l + 1 ≤ s.c
    · rw [if_pos hroom]
      have h2 : (s.l + 1) * w ≤ s.c * w := Nat.mul_le_mul_right w hroom
      have h3 : (s.l + 1) * w = s.l * w + w := Nat.succ_mul _ _
      obtain ⟨h', q1, q2, q3, q4, q5⟩ := hb1.store (o := s.l * w) (vs := enc v) (by omega) hc
      rw [q1]
      refine ⟨⟨some ⟨b, 0, sp⟩, s.l + 1, s.c⟩, _, h', rfl, .inr (.inl ⟨b, sp, g, _, rfl, rfl, ea, rfl, hsp, by simp only; omega, hroom, hl3, hl4, q2, by rw [splice_length (by omega)]; exact hlen, ?_, by simp; omega, ?_, e4⟩), .inl rfl, ?_, rfl, q5 wf'⟩
      · rw [hfl, e1]
        have hl5 : (CS.take (s.l * w) ++ enc v).length = (s.l + 1) * w := by rw [List.length_append, List.length_take, hw]; omega
        simp only
        rw [← hl5]
        exact List.take_left.symm
      · rw [e3]
        unfold splice
        rw [List.append_assoc, List.take_append_of_le_length (by rw [List.length_take]; omega), List.take_take, Nat.min_eq_left hs0]
      · exact (k.mono wf (S' := fun x => some g = some x) fun _ _ hf => hf.elim).trans wf (S' := fun x => some g = some x) (q3.mono wf' fun x _ hx => by rw [hx]) fun x hx he => he
    · rw [if_neg hroom]
      have hsl : s.l = s.c := by omega
      rcases hsp with rfl | rfl
      · simp only
        rw [if_neg (by omega), hb1.cells (by omega)]
        simp only [List.drop_zero, Option.map_some]
        rw [← e1, ← hfl]
        have f1 := alloc_blk wf' ((L ++ [v]).flatMap enc) elem
        have k2 := k.trans wf (alloc_keep wf' ((L ++ [v]).flatMap enc) elem) fun _ _ hf => hf
        have hlen2 : ((L ++ [v]).flatMap enc).length = (s.l + 1) * w := by rw [hfl, e1, List.length_append, List.length_take, hw, Nat.succ_mul]; omega
        have hg0 := hb.glt wf
        refine ⟨⟨some ⟨_, 0, some w⟩, s.l + 1, s.l + 1⟩, _, _, rfl, .inl ⟨?_, ?_, ⟨.inr ⟨_, some w, _, _, rfl, rfl, .inr rfl, Nat.le_refl _, by simp only; omega, f1, hlen2, by simp only; rw [← hlen2, List.take_length]⟩, by simp; omega⟩⟩, .inr ⟨_, rfl, by rw [alloc_next]; omega⟩, k2.mono wf fun _ _ hf => hf.elim, rfl, alloc_wf wf' _ _⟩
        · intro z hz he; simp at hz he; rw [alloc_next] at he; omega
        · rw [ea]
          have bb := k2.blk hb fun _ _ hf => hf
          exact ⟨⟨hl3, by rw [e3, List.length_take]; omega, .inl rfl, fun _ => ⟨CS, bb, by omega, by rw [List.drop_zero, e3]⟩⟩, e4⟩
      · simp only [if_true]
        obtain ⟨h', q1, q2, q3, q4, q5, q6⟩ := hb1.extend wf' (o := 0) (e := s.l * w) (new := enc v) (by omega) (by omega) hc
        obtain ⟨rest, r1, r2, _, _⟩ := extend_chain hb1 q1 (by have := hb1.lt wf'; omega)
        rw [q1]
        rw [List.drop_zero, Nat.sub_zero, ← e1, ← hfl] at q2
        have hbn : b ≠ (h.alloc (enc v) e).next := by have := hb1.lt wf'; omega
        have hlen2 : ((L ++ [v]).flatMap enc).length = (s.l + 1) * w := by rw [hfl, e1, List.length_append, List.length_take, hw, Nat.succ_mul]; omega
        refine ⟨⟨some ⟨_, 0, some w⟩, s.l + 1, s.l + 1⟩, _, h', rfl, .inr (.inr ⟨b, _, some w, g, _, _, rfl, rfl, ea, .inr rfl, hl3, rfl, rfl, by simp only; omega, q2, hlen2, by simp; omega, q3, by rw [List.length_take]; omega, by rw [List.take_take, Nat.min_eq_left hs0]; exact e3, e4, hbn, r1, ?_⟩), .inl rfl, ?_, rfl, q6⟩
        · rw [List.dropWhile_cons_of_neg (by simp)]
          exact List.mem_cons_of_mem _ r2
        · exact (k.mono wf (S' := fun x => some g = some x) fun _ _ hf => hf.elim).trans wf (S' := fun x => some g = some x) (q4.mono wf' fun x _ hx => by rw [hx]) fun x hx he => he
  · subst he
    have k := alloc_keep wf (enc v) e
    have wf' := alloc_wf wf (enc v) e
    have hb1 := k.blk hb
    have hb01 := k.blk hb0
    rw [show s.v = .slice s.a s.l s.c from rfl, ea', hl2, cappend_eq ht (Nat.le_refl _) (one_data wf hw e) (by omega) hr, if_neg (by omega)]
    simp only [Nat.zero_add]
    rw [if_neg (by omega)]
    simp only [if_true]
    obtain ⟨h', q1, q2, q3, q4, q5, q6⟩ := hb1.extend wf' (o := 0) (e := s.l * w) (new := enc v) (by omega) (by omega) hc
    obtain ⟨rest, r1, r2, r3, r4⟩ := extend_chain hb1 q1 (by have := hb1.lt wf'; omega)
    rw [q1]
    have htk : (L.flatMap enc).take (s.l * w) = L.flatMap enc := List.take_of_length_le (by omega)
    rw [List.drop_zero, Nat.sub_zero, htk, ← hfl] at q2
    have hlen2 : ((L ++ [v]).flatMap enc).length = (s.l + 1) * w := by rw [hfl, List.length_append, hw, Nat.succ_mul]; omega
    have hb0n : b0 ≠ (h.alloc (enc v) e).next := by have := hb01.lt wf'; omega
    have hmr : b0 ∈ rest := r3 (by omega) b0 l (by rw [Hp.gs_alloc]; exact hg) hm
    have hb0' : Blk h' b0 (some g) CS0 := by
      obtain ⟨t0, ho, _⟩ := hb01
      refine ⟨t0, by rw [r4 _ hb0n hne]; exact ho, ?_⟩
      simp [Hp.live, r1, hmr]
    refine ⟨⟨some ⟨_, 0, some w⟩, s.l + 1, s.l + 1⟩, _, h', rfl, .inr (.inr ⟨b0, _, sp0, g, CS0, _, rfl, rfl, ea, hsp, hl1, rfl, rfl, by simp only; omega, q2, hlen2, by simp; omega, hb0', hl0, e5, e6, hb0n, r1, ?_⟩), .inl rfl, ?_, rfl, q6⟩
    · rw [List.dropWhile_cons_of_neg (by simp)]
      exact List.mem_cons_of_mem _ hmr
    · exact (k.mono wf (S' := fun x => some g = some x) fun _ _ hf => hf.elim).trans wf (S' := fun x => some g = some x) (q4.mono wf' fun x _ hx => by rw [hx]) fun x hx he => he
end

/-! ### as things -/
def Th.gw {α : Type} (enc : α → List Value) (w : Nat) (g0 g1 : Option Nat) (s0 : Sv) (L0 : List α) (s : Sv) (L : List α) : Th := ⟨fun h => Gw enc w h g0 g1 s0 L0 s L, fun y => g1 = some y, fun y => g0 = some y ∨ g1 = some y⟩
theorem Th.gw_stable {α : Type} (enc : α → List Value) (w : Nat) (g0 g1 : Option Nat) (s0 : Sv) (L0 : List α) (s : Sv) (L : List α) : (Th.gw enc w g0 g1 s0 L0 s L).stable := fun k hn o => o.keep k hn
def Th.lst {α : Type} (enc : α → List Value) (w : Nat) (g : Option Nat) (a : Option Addr) (l : Nat) (L : List α) : Th := ⟨fun h => Ol h w g a l (L.flatMap enc) ∧ L.length = l, fun y => g = some y, fun y => g = some y⟩
theorem Th.lst_stable {α : Type} (enc : α → List Value) (w : Nat) (g : Option Nat) (a : Option Addr) (l : Nat) (L : List α) : (Th.lst enc w g a l L).stable := fun k hn o => ⟨o.1.keep k hn, o.2⟩

section
variable {h : Hp} {A B : List Th} {α : Type} {enc : α → List Value} {w : Nat}
theorem Many.gw {g0 g1 : Option Nat} {s0 s : Sv} {L0 L : List α} (m : Many h (A ++ Th.gw enc w g0 g1 s0 L0 s L :: B)) : Gw enc w h g0 g1 s0 L0 s L := (m.at_ (Th.gw enc w g0 g1 s0 L0 s L) (by simp)).1
theorem Many.lst {g : Option Nat} {a : Option Addr} {l : Nat} {L : List α} (m : Many h (A ++ Th.lst enc w g a l L :: B)) : SlT enc w h g a l l L := by
  have := (m.at_ (Th.lst enc w g a l L) (by simp)).1
  exact ⟨this.1.sl, this.2⟩
theorem Many.startGw (wf : Wf h) {g : Option Nat} {s : Sv} {L : List α} (m : Many h (A ++ Th.own enc w g s L :: B)) : ∃ g0, Many h (A ++ Th.gw enc w g0 g s L s L :: B) := by
  obtain ⟨g0, hg, x⟩ := Gw.start m.own
  exact ⟨g0, m.op (Keep.refl _ _) x (Th.gw_stable _ _ _ _ _ _ _ _) (fun _ hy => .inr hy) (fun _ hy => .inl hy) (fun y hy => .inl (hy.elim (hg y) id)) (fun y hy => by
    rcases hy with hy | hy
    · exact m.own.1.glt wf y (hg y hy)
    · exact m.own.1.glt wf y hy)⟩
theorem Many.pushGw (wf : Wf h) {g0 g1 : Option Nat} {s0 s : Sv} {L0 L : List α} (m : Many h (A ++ Th.gw enc w g0 g1 s0 L0 s L :: B)) {t xt elem e : TypeId} {bytes : Nat} (ht : AppT Try.prog t xt elem w bytes) {v : α} {h1 : Hp} (he : h1 = h.alloc (enc v) e) (hw : (enc v).length = w) (hc : (enc v).all isCell = true) (hr : roomy (s.l + 1) bytes = true) :
    ∃ s' g1' h', cappend Try.prog t xt s.v (.slice (some ⟨h.next, 0, none⟩) 1 1) h1 = some (.slice s'.a s'.l s'.c, h') ∧ Many h' (A ++ Th.gw enc w g0 g1' s0 L0 s' (L ++ [v]) :: B) ∧ s'.l = s.l + 1 ∧ Wf h' := by
  have hlt := (m.at_ (Th.gw enc w g0 g1 s0 L0 s L) (by simp)).2.2.2
  obtain ⟨s', g1', h', e1, x, hg, k, hl, wf'⟩ := m.gw.push wf (fun y hy => hlt y (.inl hy)) ht he hw hc hr
  refine ⟨s', g1', h', e1, m.op k x (Th.gw_stable _ _ _ _ _ _ _ _) (fun _ hy => .inr hy) (fun y hy => ?_) (fun y hy => ?_) (fun y hy => ?_), hl, wf'⟩
  · rcases hg with rfl | ⟨z, rfl, hz⟩
    · exact .inl hy
    · have hy : some z = some y := hy
      simp at hy; subst hy; exact .inr hz
  · rcases hy with hy | hy
    · exact .inl (.inl hy)
    · rcases hg with rfl | ⟨z, rfl, hz⟩
      · exact .inl (.inr hy)
      · simp at hy; subst hy; exact .inr hz
  · rcases hy with hy | hy
    · exact Nat.lt_of_lt_of_le (hlt y (.inl hy)) k.next
    · exact x.glt wf' y hy
theorem Many.pushLst (wf : Wf h) {g : Option Nat} {a : Option Addr} {l : Nat} {L : List α} (m : Many h (A ++ Th.lst enc w g a l L :: B)) {t xt elem e : TypeId} {bytes : Nat} (ht : AppT Try.prog t xt elem w bytes) {v : α} {h1 : Hp} (he : h1 = h.alloc (enc v) e) (hw : (enc v).length = w) (hc : (enc v).all isCell = true) (hr : roomy (l + 1) bytes = true) :
    ∃ a' g' h', cappend Try.prog t xt (.slice a l l) (.slice (some ⟨h.next, 0, none⟩) 1 1) h1 = some (.slice a' (l + 1) (l + 1), h') ∧ Many h' (A ++ Th.lst enc w g' a' (l + 1) (L ++ [v]) :: B) ∧ Wf h' := by
  have o := (m.at_ (Th.lst enc w g a l L) (by simp)).1
  obtain ⟨a', g', h', e1, o1, hg, k, wf'⟩ := o.1.append1 wf ht he hw hc hr
  have hn : ∀ y, g' = some y → g = some y ∨ h.next ≤ y := fun y hy => by
    rcases hg with rfl | ⟨z, rfl, hz⟩
    · exact .inl hy
    · simp at hy; subst hy; exact .inr hz
  refine ⟨a', g', h', e1, m.op k ⟨?_, ?_⟩ (Th.lst_stable _ _ _ _ _ _) (fun _ hy => hy) hn hn (o1.glt wf'), wf'⟩
  · have : (L ++ [v]).flatMap enc = L.flatMap enc ++ enc v := by simp
    rw [this]; exact o1
  · have := o.2; simp; omega
theorem Many.tailLst (hwd : ∀ x, (enc x).length = w) {g : Option Nat} {a : Option Addr} {l : Nat} {v : α} {L : List α} (m : Many h (A ++ Th.lst enc w g a l (v :: L) :: B)) (h1 : 1 < l) : Many h (A ++ Th.lst enc w g (cutA 1 w a) (l - 1) L :: B) := by
  have o := (m.at_ (Th.lst enc w g a l (v :: L)) (by simp)).1
  have hlt := (m.at_ (Th.lst enc w g a l (v :: L)) (by simp)).2.2.2
  have t := o.1.tail h1
  refine m.op (Keep.refl _ _) ⟨?_, by have := o.2; simp at this; omega⟩ (Th.lst_stable _ _ _ _ _ _) (fun _ hy => hy) (fun _ hy => .inl hy) (fun _ hy => .inl hy) hlt
  have : ((v :: L).flatMap enc).drop w = L.flatMap enc := by rw [List.flatMap_cons, List.drop_append, List.drop_eq_nil_of_le (by rw [hwd]; exact Nat.le_refl _), hwd, Nat.sub_self, List.drop_zero, List.nil_append]
  rw [this] at t
  exact t
end
end Go.Proofs.Ytfkhjbfddeahaaa.kc

/- The law's world in memory; look. -/
set_option linter.unusedVariables false
set_option linter.unusedSimpArgs false
namespace Go.Proofs.Ytfkhjbfddeahaaa.kc
open Go Go.Cn Go.Proofs Go.Proofs.Ytfkhjbfddeahaaa.vc

theorem app41 : AppT Try.prog 41 41 40 1 24 := AppT.of _ (by kernel_rfl)
theorem app124 : AppT Try.prog 124 124 51 1 24 := AppT.of _ (by kernel_rfl)
theorem app123 : AppT Try.prog 123 123 122 2 16 := AppT.of _ (by kernel_rfl)

def encP (p : Nat × Nat) : List Value := [.pointer (some ⟨p.1, 0, none⟩), .pointer (some ⟨p.2, 0, none⟩)]
theorem encP_w (x : Nat × Nat) : (encP x).length = 2 := rfl
theorem encP_c (x : Nat × Nat) : (encP x).all isCell = true := rfl
def encV (s : Sv) : List Value := [s.v]
theorem encV_w (x : Sv) : (encV x).length = 1 := rfl
theorem encV_c (x : Sv) : (encV x).all isCell = true := rfl

/-- A disk of the program's and the document's. -/
structure Pt where
  d : Nat
  r : Nat
  W : Nat → Prop
  F : Nat → Prop
  P : Dk
  gd : Option Nat
  gw : Option Nat
  ga : Option Nat
  R : Nat → Prop
  Q : List Fk
  dd : Sv
  w : Sv
  a : Sv
  D : Dk
def Pt.rths (p : Pt) : List Th := rthings p.r p.D p.gd p.gw p.ga p.R p.Q p.dd p.w p.a
def Pt.ths (p : Pt) : List Th := Th.disk p.d p.W p.F p.P :: p.rths
structure Pt.ok (k M N : Nat) (p : Pt) : Prop where
  pf : p.P.fit k M N
  df : p.D.fit k M N
  al : Alike p.P p.D
  cb : Cob p.D
  hQ : ∀ x ∈ p.D.arms, x.fk ∈ p.Q
theorem Pt.ok.mono {k M N N' : Nat} {p : Pt} (o : p.ok k M N) (h : N ≤ N') : p.ok k M N' := ⟨o.pf.mono h, o.df.mono h, o.al, o.cb, o.hQ⟩

/-- Lists that were told, and what they are. -/
structure Tl where
  ia : Sv
  ib : Sv
  wa : Sv
  wb : Sv
  ig : Option Nat
  jg : Option Nat
  wg : Option Nat
  hg : Option Nat
  L : List ByteArray
  V : List (Int × Int × Int)
def Tl.ths (t : Tl) : List Th := [Th.own encS 1 t.ig t.ia t.L, Th.own encS 1 t.jg t.ib t.L, Th.own encW 3 t.wg t.wa t.V, Th.own encW 3 t.hg t.wb t.V]
def Tl.small (t : Tl) : Prop := t.L.length ≤ 65536 ∧ t.V.length ≤ 8589934500

def wths (w : Nat) (page : Int) (ps : List (Nat × Nat)) (ia ib wa wb : List Sv) (gl : Option Nat) (la : Option Addr) (ll : Nat) (gi gj gw gu : Option Nat) (si sj sw su : Sv) : List Th :=
  [Th.var w [.slice la ll ll, .int .i64 page, si.v, sj.v, sw.v, su.v], Th.lst encP 2 gl la ll ps, Th.own encV 1 gi si ia, Th.own encV 1 gj sj ib, Th.own encV 1 gw sw wa, Th.own encV 1 gu su wb]
def Pt.at_ (p : Pt) : Nat × Nat := (p.d, p.r)
/-- The world. -/
def WD (w : Nat) (page : Int) (ps : List Pt) (ts : List Tl) (Rest : List Th) (h : Hp) : Prop :=
  ∃ gl la ll gi gj gw gu si sj sw su, Many h (wths w page (ps.map Pt.at_) (ts.map Tl.ia) (ts.map Tl.ib) (ts.map Tl.wa) (ts.map Tl.wb) gl la ll gi gj gw gu si sj sw su ++ (ps.flatMap Pt.ths ++ (ts.flatMap Tl.ths ++ Rest)))

theorem Many.addOwn {h h' : Hp} {L : List Th} (m : Many h L) (k : Kept h h') (wf' : Wf h') {α : Type} {enc : α → List Value} {w : Nat} {g : Option Nat} {s : Sv} {M : List α} (o : OwT enc w h' g s M) (hg : g = none ∨ ∃ y, g = some y ∧ h.next ≤ y) : Many h' (Th.own enc w g s M :: L) := by
  have hn : ∀ y, g = some y → h.next ≤ y := fun y hy => by
    rcases hg with rfl | ⟨z, rfl, hz⟩
    · simp at hy
    · simp at hy; omega
  exact m.add k o (Th.own_stable _ _ _ _ _) (fun _ hy => hy) hn (fun y hy => .inl (hn y hy)) (o.1.glt wf')

/-- One pair set ahead. -/
theorem focus_perm {α : Type} (X A p B Z : List α) : (X ++ ((A ++ (p ++ B)) ++ Z)).Perm (p ++ (X ++ (A ++ (B ++ Z)))) := by
  have e : X ++ ((A ++ (p ++ B)) ++ Z) = (X ++ A) ++ (p ++ (B ++ Z)) := by simp only [List.append_assoc]
  have e2 : p ++ (X ++ (A ++ (B ++ Z))) = p ++ ((X ++ A) ++ (B ++ Z)) := by simp only [List.append_assoc]
  rw [e, e2]
  rw [← List.append_assoc, ← List.append_assoc p]
  exact List.Perm.append_right _ List.perm_append_comm

section
variable {h : Hp} {p : Pt} {O : List Th} {k M N : Nat}
theorem Pt.runP {f : FuncId} {args : List Value} {r : Value} {P' : Dk} (m : Many h (p.ths ++ O)) (hc : DAt h p.d p.W p.F p.P → C f args h fun v h' => v = r ∧ Op h p.d p.W p.F P' h') :
    C f args h fun v h' => v = r ∧ ∃ W F, Many h' (Pt.ths { p with W := W, F := F, P := P' } ++ O) := Many.run (A := []) m hc
theorem Pt.atP (m : Many h (p.ths ++ O)) : DAt h p.d p.W p.F p.P := Many.disk (A := []) m
theorem Pt.toR (m : Many h (p.ths ++ O)) (hQ : ∀ x ∈ p.D.arms, x.fk ∈ p.Q) : RD p.r p.D (Th.disk p.d p.W p.F p.P :: O) h :=
  ⟨p.gd, p.gw, p.ga, p.R, p.Q, p.dd, p.w, p.a, hQ, m.perm List.perm_middle.symm⟩
theorem Pt.ofR {D' : Dk} {h' : Hp} (x : RD p.r D' (Th.disk p.d p.W p.F p.P :: O) h') : ∃ p' : Pt, p'.at_ = p.at_ ∧ p'.P = p.P ∧ p'.D = D' ∧ (∀ x ∈ p'.D.arms, x.fk ∈ p'.Q) ∧ Many h' (p'.ths ++ O) := by
  obtain ⟨gd, gw, ga, R, Q, dd, w, a, hQ, m⟩ := x
  exact ⟨⟨p.d, p.r, p.W, p.F, p.P, gd, gw, ga, R, Q, dd, w, a, D'⟩, rfl, rfl, rfl, hQ, m.perm List.perm_middle⟩
end

theorem Alike.eqs {P D : Dk} (a : Alike P D) : P.bytes = D.bytes ∧ P.seen = D.seen ∧ P.dur = D.dur ∧ P.most = D.most ∧ P.off = D.off ∧ P.waits = D.waits ∧ P.arms.length = D.arms.length ∧ P.life = D.life ∧ P.taken = D.taken ∧ P.wr = D.wr ∧ P.gr = D.gr ∧ P.sy = D.sy := by
  have a0 : bareD P = bareD D := a
  have e : ∀ {β : Type} (f : Dk → β), f (bareD P) = f (bareD D) := fun f => congrArg f a0
  refine ⟨e Dk.bytes, e Dk.seen, e Dk.dur, e Dk.most, e Dk.off, e Dk.waits, ?_, e Dk.life, e Dk.taken, e Dk.wr, e Dk.gr, e Dk.sy⟩
  have : (P.arms.map Ar.bare).length = (D.arms.map Ar.bare).length := e fun D => D.arms.length
  simpa using this

theorem c87 {h : Hp} {w : Nat} {page : Int} {A B : List Pt} {p : Pt} {ts : List Tl} {Rest : List Th} {k M N : Nat} (x : WD w page (A ++ p :: B) ts Rest h) (ok : p.ok k M N) (hN : N ≤ 8589934500) (hts : ts.length ≤ 8589934500) :
    C 87 [.pointer (some ⟨w, 0, none⟩), .agg #[.pointer (some ⟨p.d, 0, none⟩), .pointer (some ⟨p.r, 0, none⟩)]] h fun v h' => v = .bool true ∧ Wf h' ∧ ∃ (p' : Pt) (t : Tl), p'.ok k M N ∧ t.small ∧ WD w page (A ++ p' :: B) (ts ++ [t]) Rest h' := by
  refine SCalls_of_vw fol (pf := pf) (shp := shp87) (f := 87) (fn := Try.f87) (by kernel_rfl) (c := Try.f87.body.getD .skip) (by kernel_rfl) (by kernel_rfl) fun wf => ?_
  rw [vc87]
  obtain ⟨gl, la, ll, gi, gj, gw, gu, si, sj, sw, su, m0⟩ := x
  rw [List.flatMap_append, List.flatMap_cons] at m0
  have m0 := m0.perm (focus_perm _ _ _ _ _)
  obtain ⟨O, hO⟩ : ∃ O, O = wths w page ((A ++ p :: B).map Pt.at_) (ts.map Tl.ia) (ts.map Tl.ib) (ts.map Tl.wa) (ts.map Tl.wb) gl la ll gi gj gw gu si sj sw su ++ (A.flatMap Pt.ths ++ (B.flatMap Pt.ths ++ (ts.flatMap Tl.ths ++ Rest))) := ⟨_, rfl⟩
  rw [← hO] at m0
  obtain ⟨eb, es, ed, em, eo, ew, ear, el, et, ewr, egr, esy⟩ := ok.al.eqs
  have hdM := ok.df.ok.durL
  have hM := ok.df.ok.m1
  have hW := ok.df.waits
  intro h1 e1
  obtain ⟨m1, wf1, n1⟩ := m0.newVar wf e1
  generalize h.next = q at m1 n1
  have b1 := Many.var (A := []) m1
  refine ⟨rfl, _, ⟨rfl, b1.one rfl⟩, ?_⟩
  have xd : DAt h1 p.d p.W p.F p.P := Many.disk (A := [Th.var q _]) m1
  refine (xd.image ok.pf).wf fun v h2 wf2 _ ⟨s2, g2, e2, o2, n2, k2⟩ => ⟨s2.a, s2.l, s2.c, e2, ?_⟩
  have m2 := m1.addOwn k2 wf2 o2 n2
  have b2 := Many.var (A := [Th.own encS 1 g2 s2 _]) m2
  refine ⟨rfl, _, ⟨rfl, b2.one rfl⟩, ?_⟩
  have xd : DAt h2 p.d p.W p.F p.P := Many.disk (A := [Th.own encS 1 g2 s2 _, Th.var q _]) m2
  refine (xd.waits ok.pf (by omega)).wf fun v h3 wf3 _ ⟨s3, g3, e3, o3, n3, k3⟩ => ⟨s3.a, s3.l, s3.c, e3, ?_⟩
  have m3 := m2.addOwn k3 wf3 o3 n3
  have b3 := Many.var (A := [Th.own encW 3 g3 s3 _, Th.own encS 1 g2 s2 _]) m3
  refine ⟨rfl, _, ⟨rfl, b3.one rfl⟩, ?_⟩
  have m3' : Many h3 (p.ths ++ ([Th.own encW 3 g3 s3 (p.P.waits.map Wt.told), Th.own encS 1 g2 s2 p.P.dur, Th.var q [.pointer (some ⟨p.d, 0, none⟩), .pointer (some ⟨p.r, 0, none⟩)]] ++ O)) :=
    m3.perm (by
      show ([Th.own encW 3 g3 s3 (p.P.waits.map Wt.told), Th.own encS 1 g2 s2 p.P.dur, Th.var q [.pointer (some ⟨p.d, 0, none⟩), .pointer (some ⟨p.r, 0, none⟩)]] ++ (p.ths ++ O)).Perm _
      rw [← List.append_assoc, ← List.append_assoc]
      exact List.Perm.append_right _ List.perm_append_comm)
  refine (c103 (Pt.toR m3' ok.hQ) ok.df hN ok.cb.coh).wf fun v h4 wf4 _ ⟨g4, s4, e4, x4, _⟩ => ⟨s4.a, s4.l, s4.c, e4, ?_⟩
  obtain ⟨gd, gw', ga, R, Q, dd, w', a', hQ, m4⟩ := x4
  have m4 := m4.perm (List.perm_middle (a := Th.own encW 3 g4 s4 (p.D.waits.map Wt.told)))
  have m4' : Many h4 ([Th.own encW 3 g4 s4 (p.D.waits.map Wt.told)] ++ rthings p.r p.D gd gw' ga R Q dd w' a' ++ [Th.disk p.d p.W p.F p.P, Th.own encW 3 g3 s3 (p.P.waits.map Wt.told), Th.own encS 1 g2 s2 p.P.dur] ++ Th.var q [.pointer (some ⟨p.d, 0, none⟩), .pointer (some ⟨p.r, 0, none⟩)] :: O) := m4
  have b4 := m4'.var
  have br : Blk h4 p.r (some p.r) (rcells p.D dd w' a') := Many.var (A := [Th.own encW 3 g4 s4 (p.D.waits.map Wt.told)]) m4
  refine ⟨rfl, _, ⟨rfl, b4.one rfl⟩, rfl, rfl, dd.a, dd.l, dd.c, ⟨rfl, br.one rfl⟩, ?_⟩
  have od : OwT encS 1 h4 gd dd p.D.dur := Many.own (A := [Th.own encW 3 g4 s4 (p.D.waits.map Wt.told), Th.var p.r _]) m4
  obtain ⟨s5, g5, h5, e5, m5, hs5, _, _, wf5⟩ := m4.clone wf4 app40 (by omega) encS_c od.slT (by omega)
  -- put in order: the world first, the pair, what was told
  obtain ⟨p', hp'⟩ : ∃ p' : Pt, p' = ⟨p.d, p.r, p.W, p.F, p.P, gd, gw', ga, R, Q, dd, w', a', p.D⟩ := ⟨_, rfl⟩
  obtain ⟨t, ht⟩ : ∃ t : Tl, t = ⟨s2, s5, s3, s4, g2, g5, g3, g4, p.D.dur, p.D.waits.map Wt.told⟩ := ⟨_, rfl⟩
  have hat : p'.at_ = p.at_ := by subst hp'; rfl
  have hp'ok : p'.ok k M N := by subst hp'; exact ⟨ok.pf, ok.df, ok.al, ok.cb, hQ⟩
  have m6 : Many h5 (wths w page ((A ++ p' :: B).map Pt.at_) (ts.map Tl.ia) (ts.map Tl.ib) (ts.map Tl.wa) (ts.map Tl.wb) gl la ll gi gj gw gu si sj sw su ++ (t.ths ++ ((A ++ p' :: B).flatMap Pt.ths ++ (ts.flatMap Tl.ths ++ Rest)))) := by
    have hmap : (A ++ p' :: B).map Pt.at_ = (A ++ p :: B).map Pt.at_ := by simp [hat]
    rw [hmap]
    have q1 : Many h5 ([Th.own encS 1 g5 s5 p.D.dur, Th.own encW 3 g4 s4 (p.D.waits.map Wt.told)] ++ (p'.rths ++ ([Th.disk p.d p.W p.F p.P, Th.own encW 3 g3 s3 (p.D.waits.map Wt.told), Th.own encS 1 g2 s2 p.D.dur] ++ O))) := by
      rw [ew, ed] at m5
      have q0 : Many h5 ([Th.own encS 1 g5 s5 p.D.dur, Th.own encW 3 g4 s4 (p.D.waits.map Wt.told)] ++ (p'.rths ++ ([Th.disk p.d p.W p.F p.P, Th.own encW 3 g3 s3 (p.D.waits.map Wt.told), Th.own encS 1 g2 s2 p.D.dur, Th.var q [.pointer (some ⟨p.d, 0, none⟩), .pointer (some ⟨p.r, 0, none⟩)]] ++ O))) := by
        subst hp'; exact m5
      exact q0.sub (List.Sublist.append (List.Sublist.refl _) (List.Sublist.append (List.Sublist.refl _) (List.Sublist.append (List.Sublist.cons_cons _ (List.Sublist.cons_cons _ (List.Sublist.cons_cons _ (List.nil_sublist _)))) (List.Sublist.refl _))))
    refine q1.perm ?_
    have hths : p'.ths = Th.disk p.d p.W p.F p.P :: p'.rths := by subst hp'; rfl
    have htt : t.ths = [Th.own encS 1 g2 s2 p.D.dur, Th.own encS 1 g5 s5 p.D.dur, Th.own encW 3 g3 s3 (p.D.waits.map Wt.told), Th.own encW 3 g4 s4 (p.D.waits.map Wt.told)] := by subst ht; rfl
    rw [List.flatMap_append, List.flatMap_cons, hths, htt, hO]
    generalize wths w page ((A ++ p :: B).map Pt.at_) (ts.map Tl.ia) (ts.map Tl.ib) (ts.map Tl.wa) (ts.map Tl.wb) gl la ll gi gj gw gu si sj sw su = X
    generalize A.flatMap Pt.ths = A'
    generalize B.flatMap Pt.ths = B'
    generalize ts.flatMap Tl.ths ++ Rest = Z
    generalize Th.own encS 1 g5 s5 p.D.dur = x1
    generalize Th.own encW 3 g4 s4 (p.D.waits.map Wt.told) = x2
    generalize Th.own encW 3 g3 s3 (p.D.waits.map Wt.told) = x3
    generalize Th.own encS 1 g2 s2 p.D.dur = x4
    generalize Th.disk p.d p.W p.F p.P = x5
    generalize p'.rths = Y
    classical
    refine List.perm_iff_count.mpr fun a => ?_
    simp only [List.count_append, List.count_cons, List.count_nil, List.cons_append, List.nil_append]
    omega
  clear m5 m4 m4' m3 m3' m2 m1 m0 b1 b2 b3 b4 br od xd
  have bw := Many.var (A := []) m6
  refine ⟨s5.a, s5.l, s5.c, h5, e5, rfl, rfl, si.a, si.l, si.c, ⟨rfl, bw.one rfl⟩, ?_⟩
  have lens : si.l = ts.length ∧ sj.l = ts.length ∧ sw.l = ts.length ∧ su.l = ts.length := by
    have l1 := (Many.own (A := [Th.var w _, Th.lst encP 2 gl la ll _]) m6).2
    have l2 := (Many.own (A := [Th.var w _, Th.lst encP 2 gl la ll _, Th.own encV 1 gi si _]) m6).2
    have l3 := (Many.own (A := [Th.var w _, Th.lst encP 2 gl la ll _, Th.own encV 1 gi si _, Th.own encV 1 gj sj _]) m6).2
    have l4 := (Many.own (A := [Th.var w _, Th.lst encP 2 gl la ll _, Th.own encV 1 gi si _, Th.own encV 1 gj sj _, Th.own encV 1 gw sw _]) m6).2
    simp only [List.length_map] at l1 l2 l3 l4
    exact ⟨l1.symm, l2.symm, l3.symm, l4.symm⟩
  obtain ⟨z1, z2, z3, z4⟩ := lens
  intro h6 e6
  obtain ⟨si', gi', h7, e7, m7, hl7, wf7⟩ := Many.push (A := [Th.var w _, Th.lst encP 2 gl la ll _]) (x := s2) wf5 m6 app41 e6 rfl rfl (room (by omega) (by omega))
  obtain ⟨h8, e8, m8, wf8⟩ := Many.set (A := []) (o := 2) (v := si'.v) wf7 m7 (by simp) rfl
  have b8 := Many.var (A := []) m8
  refine ⟨si'.a, si'.l, si'.c, h7, e7, rfl, rfl, rfl, h8, e8, rfl, rfl, sj.a, sj.l, sj.c, ⟨rfl, b8.one rfl⟩, ?_⟩
  intro h9 e9
  obtain ⟨sj', gj', h10, e10, m10, hl10, wf10⟩ := Many.push (A := [Th.var w _, Th.lst encP 2 gl la ll _, Th.own encV 1 gi' si' _]) (x := s5) wf8 m8 app41 e9 rfl rfl (room (by omega) (by omega))
  obtain ⟨h11, e11, m11, wf11⟩ := Many.set (A := []) (o := 3) (v := sj'.v) wf10 m10 (by simp) rfl
  have b11 := Many.var (A := []) m11
  refine ⟨sj'.a, sj'.l, sj'.c, h10, e10, rfl, rfl, rfl, h11, e11, rfl, rfl, sw.a, sw.l, sw.c, ⟨rfl, b11.one rfl⟩, ?_⟩
  intro h12 e12
  obtain ⟨sw', gw2, h13, e13, m13, hl13, wf13⟩ := Many.push (A := [Th.var w _, Th.lst encP 2 gl la ll _, Th.own encV 1 gi' si' _, Th.own encV 1 gj' sj' _]) (x := s3) wf11 m11 app124 e12 rfl rfl (room (by omega) (by omega))
  obtain ⟨h14, e14, m14, wf14⟩ := Many.set (A := []) (o := 4) (v := sw'.v) wf13 m13 (by simp) rfl
  have b14 := Many.var (A := []) m14
  refine ⟨sw'.a, sw'.l, sw'.c, h13, e13, rfl, rfl, rfl, h14, e14, rfl, rfl, su.a, su.l, su.c, ⟨rfl, b14.one rfl⟩, ?_⟩
  intro h15 e15
  obtain ⟨su', gu', h16, e16, m16, hl16, wf16⟩ := Many.push (A := [Th.var w _, Th.lst encP 2 gl la ll _, Th.own encV 1 gi' si' _, Th.own encV 1 gj' sj' _, Th.own encV 1 gw2 sw' _]) (x := s4) wf14 m14 app124 e15 rfl rfl (room (by omega) (by omega))
  obtain ⟨h17, e17, m17, wf17⟩ := Many.set (A := []) (o := 5) (v := su'.v) wf16 m16 (by simp) rfl
  refine ⟨su'.a, su'.l, su'.c, h16, e16, rfl, rfl, rfl, h17, e17, ?_⟩
  have m18 : Many h17 (wths w page ((A ++ p' :: B).map Pt.at_) ((ts ++ [t]).map Tl.ia) ((ts ++ [t]).map Tl.ib) ((ts ++ [t]).map Tl.wa) ((ts ++ [t]).map Tl.wb) gl la ll gi' gj' gw2 gu' si' sj' sw' su' ++ (t.ths ++ ((A ++ p' :: B).flatMap Pt.ths ++ (ts.flatMap Tl.ths ++ Rest)))) := by
    have i1 : (ts ++ [t]).map Tl.ia = ts.map Tl.ia ++ [s2] := by rw [List.map_append]; subst ht; rfl
    have i2 : (ts ++ [t]).map Tl.ib = ts.map Tl.ib ++ [s5] := by rw [List.map_append]; subst ht; rfl
    have i3 : (ts ++ [t]).map Tl.wa = ts.map Tl.wa ++ [s3] := by rw [List.map_append]; subst ht; rfl
    have i4 : (ts ++ [t]).map Tl.wb = ts.map Tl.wb ++ [s4] := by rw [List.map_append]; subst ht; rfl
    rw [i1, i2, i3, i4]
    exact m17
  have ha1 := m18.at_ (Th.own encS 1 g2 s2 p.D.dur) (by subst ht; simp [Tl.ths])
  have ha2 := m18.at_ (Th.own encS 1 g5 s5 p.D.dur) (by subst ht; simp [Tl.ths])
  have ha3 := m18.at_ (Th.own encW 3 g3 s3 (p.D.waits.map Wt.told)) (by subst ht; simp [Tl.ths])
  have ha4 := m18.at_ (Th.own encW 3 g4 s4 (p.D.waits.map Wt.told)) (by subst ht; simp [Tl.ths])
  have oa1 : OwT encS 1 h17 g2 s2 p.D.dur := ha1.1
  have oa2 : OwT encS 1 h17 g5 s5 p.D.dur := ha2.1
  have oa3 : OwT encW 3 h17 g3 s3 (p.D.waits.map Wt.told) := ha3.1
  have oa4 : OwT encW 3 h17 g4 s4 (p.D.waits.map Wt.told) := ha4.1
  have hs2 : s2.l ≤ 8589934592 := by rw [← oa1.2]; omega
  have hs3 : s3.l ≤ 8589934592 := by rw [← oa3.2]; simp; omega
  refine (c43 oa1.slT oa2.slT hs2).mono fun v h18 ⟨e18, e18'⟩ => ⟨_, e18, ?_⟩
  subst e18'
  simp only [decide_true]
  refine ⟨fun v hh => v = .bool true ∧ h18 = hh, fun _ => (c90 oa3.slT oa4.slT hs3).mono fun v hh ⟨e, e'⟩ => ⟨_, e, rfl, e'.symm⟩, fun hf => by simp at hf, ?_⟩
  rintro b19 h19 ⟨e, rfl⟩
  simp only [Value.bool.injEq] at e
  subst e
  refine ⟨rfl, wf17, p', t, hp'ok, ?_, gl, la, ll, gi', gj', gw2, gu', si', sj', sw', su', ?_⟩
  · subst ht
    exact ⟨by simp only; omega, by simp only [List.length_map]; omega⟩
  · refine m18.perm ?_
    rw [List.flatMap_append (xs := ts)]
    classical
    refine List.perm_iff_count.mpr fun a => ?_
    simp only [List.count_append, List.flatMap_cons, List.flatMap_nil, List.append_nil]
    omega
end Go.Proofs.Ytfkhjbfddeahaaa.kc

/- A step of the law, on both disks. -/
set_option linter.unusedVariables false
set_option linter.unusedSimpArgs false
namespace Go.Proofs.Ytfkhjbfddeahaaa.kc
open Go Go.Cn Go.Proofs Go.Proofs.Ytfkhjbfddeahaaa.vc

theorem armTo_fit {k M N : Nat} {D D' : Dk} {Ls : List Ar} (o : D.fit k M N) (hfl : ∀ z ∈ Ls, z.fates.length ≤ 8589934592) (t : ArmTo D Ls D') : D'.fit k M N := by
  rcases t with ⟨_, rfl⟩ | ⟨h0, A, hA, rfl⟩
  · exact o
  · have hl : A.length = Ls.length := by have := congrArg List.length hA; simpa using this
    have h64 : ¬ D.arms.length + Ls.length > 64 := fun h => by
      unfold armE at h0
      split at h0
      · exact absurd h0 (by decide)
      · split at h0
        · exact absurd h0 (by decide)
        · exact absurd h0 (by decide)
    refine ⟨⟨o.ok.by_, o.ok.k0, o.ok.k1, o.ok.m1, o.ok.most, o.ok.seenS, o.ok.durS, o.ok.seenL, o.ok.durL, o.ok.waits⟩, by simp; omega, fun z hz => ?_, o.waits⟩
    rcases List.mem_append.mp hz with hz | hz
    · exact o.fates z hz
    · have : z.key ∈ Ls.map Ar.key' := by rw [← hA]; exact List.mem_map_of_mem hz
      obtain ⟨y, hy, e⟩ := List.mem_map.mp this
      simp only [Ar.key, Ar.key', Prod.mk.injEq] at e
      rw [← e.2.2.2.1]; exact hfl y hy
theorem takeD_fit {k M N : Nat} {D : Dk} (o : D.fit k M N) : (takeD D).1.fit k M N := by
  unfold takeD
  split
  · exact o
  · exact ⟨⟨o.ok.by_, o.ok.k0, o.ok.k1, o.ok.m1, o.ok.most, o.ok.seenS, o.ok.durS, o.ok.seenL, o.ok.durL, o.ok.waits⟩, o.arms, o.fates, o.waits⟩
/-- Arms that lie elsewhere are the same arms. -/
theorem armTo_lent {D D' : Dk} {Ls : List Ar} {fs : List Lf} (hF : fs.map Lf.F = Ls.map Ar.fates) (t : ArmTo D (lentL Ls fs) D') : ArmTo D Ls D' ∧ armE D (lentL Ls fs) = armE D Ls := by
  have hk : ∀ {Ls : List Ar} {fs : List Lf}, fs.map Lf.F = Ls.map Ar.fates → (lentL Ls fs).map Ar.key' = Ls.map Ar.key' ∧ (lentL Ls fs).any Ar.bad = Ls.any Ar.bad ∧ (lentL Ls fs).length = Ls.length := by
    intro Ls
    induction Ls with
    | nil => intro fs _; cases fs <;> exact ⟨rfl, rfl, rfl⟩
    | cons z Ls ih =>
      intro fs h
      cases fs with
      | nil => simp at h
      | cons f fs =>
        simp only [List.map_cons, List.cons.injEq] at h
        obtain ⟨i1, i2, i3⟩ := ih h.2
        unfold lentL at i1 i2 i3 ⊢
        simp only [List.zipWith_cons_cons, List.map_cons, List.any_cons, List.length_cons, i1, i2, i3]
        exact ⟨rfl, rfl, trivial⟩
  obtain ⟨k1, k2, k3⟩ := hk hF
  have eE : armE D (lentL Ls fs) = armE D Ls := by unfold armE; rw [k2, k3]
  refine ⟨?_, eE⟩
  rcases t with ⟨h1, h2⟩ | ⟨h1, A, hA, h2⟩
  · exact .inl ⟨by rw [← eE]; exact h1, h2⟩
  · exact .inr ⟨by rw [← eE]; exact h1, A, hA.trans k1, h2⟩
theorem strEq_self (s : ByteArray) : strEq s s = true := by simp [strEq]

/-- What a step leaves. -/
def Stepd (w : Nat) (page : Int) (k M N n : Nat) (Rest : List Th) (h : Hp) : Prop :=
  Wf h ∧ ∃ ps ts, WD w page ps ts Rest h ∧ (∀ p ∈ ps, p.ok k M N) ∧ 1 ≤ ps.length ∧ ps.length ≤ 4 ∧ ts.length ≤ n ∧ ∀ t ∈ ts, t.small

set_option maxRecDepth 100000 in
theorem c49 {h : Hp} {w : Nat} {page : Int} {ps : List Pt} {ts : List Tl} {Rest : List Th} {k M N n : Nat} (x : WD w page ps ts Rest h) (oks : ∀ p ∈ ps, p.ok k M N) (hp1 : 1 ≤ ps.length) (hp4 : ps.length ≤ 4) (hts : ts.length ≤ n) (hsm : ∀ t ∈ ts, t.small)
    (hN : N ≤ 8589934000) (hn : n ≤ 8589934000) (hpg : 0 ≤ page ∧ page ≤ 1048576) {s : Stp} (so : s.ok) {Ls : List Ar} (hA : Th.args s.aa s.al s.ac Ls ∈ Rest) (hg : ∀ x ∈ Ls, x.given) (hl : Ls.length ≤ 1048576) (hfl : ∀ z ∈ Ls, z.fates.length ≤ 1048576)
    {F : List Int} (hT : Th.arg encF 1 s.fa s.fl s.fc F ∈ Rest) (hF : ∀ f ∈ F, 0 ≤ f ∧ f ≤ 255) (hFl : F.length ≤ 1048576) :
    C 49 [.pointer (some ⟨w, 0, none⟩), .agg s.enc.toArray] h fun v h' => v = .bool true ∧ Stepd w page k M (N + 1) (n + 1) Rest h' := by
  refine SCalls_of_vw fol (pf := pf) (shp := shp49) (f := 49) (fn := Try.f49) (by kernel_rfl) (c := Try.f49.body.getD .skip) (by kernel_rfl) (by kernel_rfl) fun wf => ?_
  show vBody Try.prog C pf shp49 Try.f49 (Try.f49.body.getD .skip) [.pointer (some ⟨w, 0, none⟩), .agg #[.int .i64 s.dO, .int .i64 s.wh, .int .u32 s.no, .int .i64 s.n, .int .i64 s.len, .int .u8 s.b, .int .u8 s.st, .slice s.aa s.al s.ac, .slice s.fa s.fl s.fc]] h _
  rw [vc49]
  obtain ⟨gl, la, ll, gi, gj, gw, gu, si, sj, sw, su, m0⟩ := x
  intro h1 e1
  obtain ⟨m1, wf1, n1⟩ := m0.newVar wf e1
  generalize h.next = q at m1 n1
  clear e1 m0 wf n1
  have b1 := Many.var (A := []) m1
  have bw := Many.var (A := [Th.var q _]) m1
  have sl := Many.lst (A := [Th.var q _, Th.var w _]) m1
  have hll : ps.length = ll := by have := sl.len; simpa using this
  refine ⟨rfl, s.wh, ⟨rfl, b1.one rfl⟩, rfl, rfl, la, ll, ll, ⟨rfl, bw.one rfl⟩, by simp only [nonzero, natI]; omega, fun vals hh => ∃ i : Nat, [.int .i64 i] = vals ∧ i < ll ∧ h1 = hh, ?_, ?_⟩
  · have hr1 : remW s.wh (natI ll) < (ll : Int) := by unfold remW natI; exact Int.tmod_lt_of_pos _ (by omega)
    have hr2 : -(ll : Int) < remW s.wh (natI ll) := by
      unfold remW natI
      have := Int.lt_tmod_of_pos s.wh (b := (ll : Int)) (by omega)
      omega
    generalize remW s.wh (natI ll) = rr at hr1 hr2
    by_cases hneg : ltI rr 0 = true
    · rw [if_pos hneg]
      rw [ltI_iff] at hneg
      refine ⟨rfl, rfl, la, ll, ll, ⟨rfl, bw.one rfl⟩, (rr + ll).toNat, ?_, by omega, rfl⟩
      rw [addW_small (by simp only [natI]; omega) (by simp only [natI]; omega)]
      simp only [natI]
      congr 2
      omega
    · rw [if_neg hneg]
      rw [ltI_iff] at hneg
      exact ⟨rr.toNat, by congr 2; omega, by omega, rfl⟩
  rintro ni hh ⟨i, e, hi, rfl⟩
  simp only [List.cons.injEq, Value.int.injEq, true_and, and_true] at e
  subst e
  -- the pair
  have hpi : ps[i]? = some (ps[i]'(by omega)) := List.getElem?_eq_getElem _
  have hsplit : ps = ps.take i ++ ps[i]'(by omega) :: ps.drop (i + 1) := by rw [← List.drop_eq_getElem_cons (by omega), List.take_append_drop]
  generalize ps[i]'(by omega) = p at hpi hsplit
  have ok := oks p (List.mem_of_getElem? hpi)
  obtain ⟨A, hAA⟩ : ∃ A, A = ps.take i := ⟨_, rfl⟩
  obtain ⟨B, hBB⟩ : ∃ B, B = ps.drop (i + 1) := ⟨_, rfl⟩
  rw [← hAA, ← hBB] at hsplit
  have hpm : (ps.map Pt.at_)[i]? = some p.at_ := by rw [List.getElem?_map, hpi]; rfl
  obtain ⟨i1, i2⟩ := sl.get encP_w hpm (j := 0) (m := 1) (by omega)
  obtain ⟨_, i3⟩ := sl.get encP_w hpm (j := 1) (m := 1) (by omega)
  obtain ⟨_, i4⟩ := sl.get encP_w hpm (j := 0) (m := 2) (by omega)
  have hin : inR (i : Int) ll := by simp only [inR]; omega
  refine ⟨rfl, rfl, la, ll, ll, ⟨rfl, bw.one rfl⟩, ⟨i1, hin⟩, rfl, some ⟨p.d, 0, none⟩, ⟨rfl, i2.trans rfl⟩, rfl, rfl, la, ll, ll, ⟨rfl, bw.one rfl⟩, ⟨i1, hin⟩, rfl, some ⟨p.r, 0, none⟩, ⟨rfl, i3.trans rfl⟩, rfl, s.dO, ⟨rfl, b1.one rfl⟩, ?_⟩
  have mem' : ∀ {p' : Pt} {N' : Nat}, p'.ok k M N' → N ≤ N' → ∀ y ∈ A ++ p' :: B, y.ok k M N' := fun {p' N'} hp' hN' y hy => by
    rcases List.mem_append.mp hy with hy | hy
    · exact (oks y (by rw [hsplit]; exact List.mem_append_left _ hy)).mono hN'
    · rcases List.mem_cons.mp hy with rfl | hy
      · exact hp'
      · exact (oks y (by rw [hsplit]; exact List.mem_append_right _ (List.mem_cons_of_mem _ hy))).mono hN'
  have hlen : ∀ p' : Pt, (A ++ p' :: B).length = ps.length := fun p' => by rw [hsplit]; simp
  obtain ⟨X, hX⟩ : ∃ X, X = wths w page (ps.map Pt.at_) (ts.map Tl.ia) (ts.map Tl.ib) (ts.map Tl.wa) (ts.map Tl.wb) gl la ll gi gj gw gu si sj sw su := ⟨_, rfl⟩
  obtain ⟨Z, hZ⟩ : ∃ Z, Z = A.flatMap Pt.ths ++ (B.flatMap Pt.ths ++ (ts.flatMap Tl.ths ++ Rest)) := ⟨_, rfl⟩
  obtain ⟨V, hV⟩ : ∃ V, V = Th.var q [.int .i64 s.dO, .int .i64 s.wh, .int .u32 s.no, .int .i64 s.n, .int .i64 s.len, .int .u8 s.b, .int .u8 s.st, .slice s.aa s.al s.ac, .slice s.fa s.fl s.fc] := ⟨_, rfl⟩
  have mf : Many h1 (p.ths ++ (V :: (X ++ Z))) := by
    have m1' : Many h1 ((V :: X) ++ ((A.flatMap Pt.ths ++ (p.ths ++ B.flatMap Pt.ths)) ++ (ts.flatMap Tl.ths ++ Rest))) := by
      have : ps.flatMap Pt.ths = A.flatMap Pt.ths ++ (p.ths ++ B.flatMap Pt.ths) := by rw [hsplit, List.flatMap_append, List.flatMap_cons]
      rw [← this, hV, hX]; exact m1
    have := m1'.perm (focus_perm _ _ _ _ _)
    rw [hZ]; exact this
  have inZ : ∀ {t : Th}, t ∈ Rest → t ∈ Z := fun ht => by rw [hZ]; exact List.mem_append_right _ (List.mem_append_right _ (List.mem_append_right _ ht))
  -- the end of a step
  have fin : ∀ {h' : Hp} {p' : Pt}, p'.at_ = p.at_ → p'.ok k M (N + 1) → Many h' (p'.ths ++ (V :: (X ++ Z))) → Wf h' → Stepd w page k M (N + 1) (n + 1) Rest h' := by
    intro h' p' hat hok m wf'
    refine ⟨wf', A ++ p' :: B, ts, ⟨gl, la, ll, gi, gj, gw, gu, si, sj, sw, su, ?_⟩, mem' hok (by omega), by rw [hlen]; exact hp1, by rw [hlen]; exact hp4, by omega, hsm⟩
    have hmap : (A ++ p' :: B).map Pt.at_ = ps.map Pt.at_ := by rw [hsplit, List.map_append, List.map_append, List.map_cons, List.map_cons, hat]
    rw [hmap, List.flatMap_append, List.flatMap_cons, ← hX]
    have m2 : Many h' (p'.ths ++ (X ++ Z)) := m.sub (List.Sublist.append (List.Sublist.refl _) (List.sublist_cons_self _ _))
    rw [hZ] at m2
    exact m2.perm (focus_perm _ _ _ _ _).symm
  have cell : ∀ {h' : Hp} {p' : Pt} {o : Nat} {v : Value}, Many h' (p'.ths ++ (V :: (X ++ Z))) → [Value.int .i64 s.dO, .int .i64 s.wh, .int .u32 s.no, .int .i64 s.n, .int .i64 s.len, .int .u8 s.b, .int .u8 s.st, .slice s.aa s.al s.ac, .slice s.fa s.fl s.fc][o]? = some v → h'.cellsAt q o 1 = some [v] := fun {h' p' o v} m hv => by
    rw [hV] at m
    exact (Many.var (A := p'.ths) m).one hv
  have eqs : ∀ n : Int, eqI n n = true := fun n => eqI_iff.mpr rfl
  have tt : sel true true false = true := rfl
  have hno : 0 ≤ s.no ∧ s.no < 4294967296 := ⟨so.no0, so.no1⟩
  -- Read
  by_cases d0 : eqI s.dO 0 = true
  · rw [if_pos d0]
    refine ⟨rfl, s.no, ⟨rfl, cell mf rfl⟩, ((Pt.atP mf).read ok.pf hno).mono fun v h2 ⟨e2, e2'⟩ => ⟨_, _, e2, ?_⟩⟩
    subst e2'
    refine ⟨rfl, s.no, ⟨rfl, cell mf rfl⟩, (c75 (Pt.toR mf ok.hQ) ok.df (by omega) ok.cb.coh hno).wf fun v h3 wf3 _ ⟨e3, k3⟩ => ⟨_, _, e3, ?_⟩⟩
    have er : readD p.P s.no = readD p.D s.no := by
      have a : bareD p.P = bareD p.D := ok.al
      rw [← readD_bare p.P, a, readD_bare]
    rw [er, strEq_self, eqs]
    exact ⟨rfl, fin rfl (ok.mono (by omega)) (mf.kept k3) wf3⟩
  rw [if_neg d0]
  -- Write
  by_cases d1 : eqI s.dO 1 = true
  · rw [if_pos d1]
    have bX : Blk h1 w (some w) [.slice la ll ll, .int .i64 page, si.v, sj.v, sw.v, su.v] := bw
    refine ⟨rfl, s.len, s.b, s.st, ⟨rfl, (b1.cells (o := 4) (n := 3) (Nat.le_of_ble_eq_true rfl)).trans rfl⟩, rfl, rfl, page, ⟨rfl, bX.one rfl⟩, (c29 h1 hpg).wf fun v h2 wf2 _ ⟨e2, k2⟩ => ⟨_, e2, ?_⟩⟩
    have m2 := mf.kept k2
    generalize textB s.b s.st (textN s.len page) = data
    refine ⟨rfl, s.no, ⟨rfl, cell m2 rfl⟩, rfl, s.no, ⟨rfl, cell m2 rfl⟩, (Pt.runP m2 fun X => X.write ok.pf (by omega) hno).wf fun v h3 wf3 _ ⟨e3, W3, F3, m3⟩ => ⟨_, e3, ⟨rfl, cell m3 rfl⟩, ?_⟩⟩
    refine (c76 (Pt.toR m3 ok.hQ) ok.df (by omega) ok.cb.coh hno).wf fun v h4 wf4 _ ⟨e4, x4⟩ => ⟨_, e4, ?_⟩
    obtain ⟨p', h5, h6, h7, hQ', m4⟩ := Pt.ofR (p := { p with W := W3, F := F3, P := (writeD p.P s.no data).1 }) x4
    obtain ⟨a1, a2⟩ := ok.al.of (f := fun D => writeD D s.no data) fun D => writeD_bare D s.no data
    have a2 : (writeD p.P s.no data).2 = (writeD p.D s.no data).2 := a2
    rw [a2, eqs]
    exact ⟨rfl, fin h5 ⟨by rw [h6]; exact writeD_fit ok.pf hno.1 data, by rw [h7]; exact writeD_fit ok.df hno.1 data, by rw [h6, h7]; exact a1, by rw [h7]; exact writeD_cob ok.cb hno.1 data, hQ'⟩ m4 wf4⟩
  rw [if_neg d1]
  -- Grow
  by_cases d2 : eqI s.dO 2 = true
  · rw [if_pos d2]
    have hn1 := so.n1
    refine ⟨rfl, s.n, ⟨rfl, cell mf rfl⟩, rfl, s.n, ⟨rfl, cell mf rfl⟩, (Pt.runP mf fun X => X.grow ok.pf (by omega) hn1).wf fun v h3 wf3 _ ⟨e3, W3, F3, m3⟩ => ⟨_, e3, ⟨rfl, cell m3 rfl⟩, ?_⟩⟩
    refine (c77 (Pt.toR m3 ok.hQ) ok.df (by omega) ok.cb.coh hn1).wf fun v h4 wf4 _ ⟨e4, x4⟩ => ⟨_, e4, ?_⟩
    obtain ⟨p', h5, h6, h7, hQ', m4⟩ := Pt.ofR (p := { p with W := W3, F := F3, P := (growD p.P s.n).1 }) x4
    obtain ⟨a1, a2⟩ := ok.al.of (f := fun D => growD D s.n) fun D => growD_bare D s.n
    have a2 : (growD p.P s.n).2 = (growD p.D s.n).2 := a2
    rw [a2, eqs]
    exact ⟨rfl, fin h5 ⟨by rw [h6]; exact growD_fit ok.pf s.n, by rw [h7]; exact growD_fit ok.df s.n, by rw [h6, h7]; exact a1, by rw [h7]; exact growD_cob ok.cb s.n, hQ'⟩ m4 wf4⟩
  rw [if_neg d2]
  -- Sync
  by_cases d3 : eqI s.dO 3 = true
  · rw [if_pos d3]
    refine (Pt.runP mf fun X => X.sync ok.pf (by omega)).wf fun v h3 wf3 _ ⟨e3, W3, F3, m3⟩ => ⟨_, e3, ?_⟩
    refine (c78 (Pt.toR m3 ok.hQ) ok.df (by omega) ok.cb.coh).wf fun v h4 wf4 _ ⟨e4, x4⟩ => ⟨_, e4, ?_⟩
    obtain ⟨p', h5, h6, h7, hQ', m4⟩ := Pt.ofR (p := { p with W := W3, F := F3, P := (syncD p.P).1 }) x4
    obtain ⟨a1, a2⟩ := ok.al.of (f := syncD) syncD_bare
    rw [a2, eqs]
    exact ⟨rfl, fin h5 ⟨by rw [h6]; exact (syncD_fit ok.pf).mono (by omega), by rw [h7]; exact (syncD_fit ok.df).mono (by omega), by rw [h6, h7]; exact a1, by rw [h7]; exact syncD_cob ok.cb, hQ'⟩ m4 wf4⟩
  rw [if_neg d3]
  -- Arm
  by_cases d4 : eqI s.dO 4 = true
  · rw [if_pos d4]
    refine ⟨rfl, s.aa, s.al, s.ac, ⟨rfl, cell mf rfl⟩, ?_⟩
    have inA : Th.args s.aa s.al s.ac Ls ∈ p.ths ++ (V :: (X ++ Z)) := List.mem_append_right _ (List.mem_cons_of_mem _ (List.mem_append_right _ (inZ hA)))
    refine (c79 mf inA hl hfl).wf fun v h2 wf2 _ ⟨ga, sa, fs, e2, hfF, m2, _⟩ => ⟨sa.a, s.al, sa.c, e2, ?_⟩
    obtain ⟨E, hE⟩ : ∃ E, E = Th.own Ar.enc4 4 ga sa (lentL Ls fs ++ [markA]) :: fs.map Lf.th := ⟨_, rfl⟩
    have m2' : Many h2 (p.ths ++ (E ++ (V :: (X ++ Z)))) := by
      have : Many h2 (E ++ (p.ths ++ (V :: (X ++ Z)))) := by rw [hE]; exact m2
      refine this.perm ?_
      rw [← List.append_assoc, ← List.append_assoc]
      exact List.Perm.append_right _ List.perm_append_comm
    have xd := Pt.atP m2'
    have ox : OwT Ar.enc4 4 h2 ga sa (lentL Ls fs ++ [markA]) := (m2'.at_ (Th.own Ar.enc4 4 ga sa (lentL Ls fs ++ [markA])) (by rw [hE]; simp)).1
    have hfsl : fs.length = Ls.length := by have := congrArg List.length hfF; simpa using this
    have hLl : (lentL Ls fs).length = Ls.length := by unfold lentL; rw [List.length_zipWith]; omega
    have hal : Ls.length = s.al := ((m2'.at_ _ (List.mem_append_right _ (List.mem_append_right _ (List.mem_cons_of_mem _ (List.mem_append_right _ (inZ hA)))))).1 : SlT Ar.enc4 4 h2 none s.aa s.al s.ac Ls ∧ _).1.len
    have hsal : sa.l = s.al + 1 := by rw [← ox.2, List.length_append, hLl, hal]; rfl
    have st := ox.slT.take Ar.w4 (m := s.al) (by omega)
    have htake : (lentL Ls fs ++ [markA]).take s.al = lentL Ls fs := by rw [List.take_append_of_le_length (by omega), List.take_of_length_le (by omega)]
    rw [htake] at st
    have sepd : ∀ t ∈ E, ∀ y, t.F y → ¬ p.W y := fun t ht y hy hw => by
      have hs := m2'.sep
      have h1 : (Th.disk p.d p.W p.F p.P :: (p.rths ++ (E ++ (V :: (X ++ Z))))).Pairwise fun x y => Out x.W y.F ∧ Out y.W x.F := hs
      rw [List.pairwise_cons] at h1
      exact (h1.1 t (List.mem_append_right _ (List.mem_append_left _ ht))).1 y hw hy
    refine (xd.arm ok.pf st (fun y hy => sepd _ (by rw [hE]; exact List.mem_cons_self ..) y hy) (fun z hz => ?_) (by omega) (fun z hz => ?_)).wf fun v h3 wf3 _ ⟨e3, P', hP', op⟩ => ⟨_, e3, ?_⟩
    · unfold lentL at hz
      obtain ⟨j, hj⟩ := List.getElem?_of_mem hz
      rw [List.getElem?_zipWith] at hj
      cases hz1 : Ls[j]? with
      | none => rw [hz1] at hj; simp at hj
      | some z0 =>
        cases hf1 : fs[j]? with
        | none => rw [hz1, hf1] at hj; simp at hj
        | some f =>
          rw [hz1, hf1] at hj
          simp only [Option.some.injEq] at hj
          have hfm := List.mem_of_getElem? hf1
          have hfE : f.th ∈ E := by rw [hE]; exact List.mem_cons_of_mem _ (List.mem_map_of_mem hfm)
          have of : OwT encF 1 h2 f.g f.s (f.F ++ [165]) := (m2'.at_ f.th (List.mem_append_right _ (List.mem_append_left _ hfE))).1
          have hfz : f.F = z0.fates := by
            have := congrArg (fun l => l[j]?) hfF
            simp only [List.getElem?_map, hz1, hf1, Option.map_some, Option.some.injEq] at this
            exact this
          have t1 := of.slT.take encF_w (m := f.F.length) (by rw [← of.2]; simp)
          rw [List.take_append_of_le_length (Nat.le_refl _), List.take_length] at t1
          subst hj
          refine ⟨f.g, fun y hy => sepd _ hfE y hy, ?_⟩
          show SlT encF 1 h2 f.g f.s.a f.F.length f.s.c z0.fates
          rw [← hfz]; exact t1
    · unfold lentL at hz
      obtain ⟨j, hj⟩ := List.getElem?_of_mem hz
      rw [List.getElem?_zipWith] at hj
      cases hz1 : Ls[j]? with
      | none => rw [hz1] at hj; simp at hj
      | some z0 =>
        cases hf1 : fs[j]? with
        | none => rw [hz1, hf1] at hj; simp at hj
        | some f =>
          rw [hz1, hf1] at hj
          simp only [Option.some.injEq] at hj
          subst hj
          have := hfl z0 (List.mem_of_getElem? hz1)
          show z0.fates.length ≤ _
          omega
    obtain ⟨hP'', eE⟩ := armTo_lent hfF hP'
    obtain ⟨W3, F3, m3⟩ := Many.opD (A := []) wf3 m2' op
    have m3 : Many h3 (Pt.ths { p with W := W3, F := F3, P := P' } ++ (E ++ (V :: (X ++ Z)))) := m3
    have m3v : Many h3 (Pt.ths { p with W := W3, F := F3, P := P' } ++ (V :: (X ++ Z))) := m3.sub (List.Sublist.append (List.Sublist.refl _) (List.sublist_append_right _ _))
    refine ⟨rfl, s.aa, s.al, s.ac, ⟨rfl, cell m3v rfl⟩, ?_⟩
    refine (c80 (Pt.toR m3 ok.hQ) ok.df (aa := s.aa) (al := s.al) (ac := s.ac) (Ls := Ls) (List.mem_cons_of_mem _ (List.mem_append_right _ (List.mem_cons_of_mem _ (List.mem_append_right _ (inZ hA))))) hl (fun z hz => by have := hfl z hz; omega)).wf fun v h4 wf4 _ ⟨e4, D', hD', x4⟩ => ⟨_, e4, ?_⟩
    obtain ⟨p', h5, h6, h7, hQ', m4⟩ := Pt.ofR (p := { p with W := W3, F := F3, P := P' }) x4
    have m4v : Many h4 (p'.ths ++ (V :: (X ++ Z))) := m4.sub (List.Sublist.append (List.Sublist.refl _) (List.sublist_append_right _ _))
    refine ⟨rfl, s.aa, s.al, s.ac, ⟨rfl, cell m4v rfl⟩, ?_⟩
    have m5 : Many h4 (Th.own Ar.enc4 4 ga sa (lentL Ls fs ++ [markA]) :: (fs.map Lf.th ++ (p'.ths ++ (V :: (X ++ Z))))) := by
      have : Many h4 (E ++ (p'.ths ++ (V :: (X ++ Z)))) := by
        refine m4.perm ?_
        rw [← List.append_assoc, ← List.append_assoc]
        exact List.Perm.append_right _ List.perm_append_comm
      rw [hE] at this; exact this
    refine (c81 hfF m5 (List.mem_append_right _ (List.mem_cons_of_mem _ (List.mem_append_right _ (inZ hA)))) hl hfl).mono fun v h6' ⟨e6, m6, wf6⟩ => ⟨_, e6, ?_⟩
    obtain ⟨a1, a2⟩ := armTo_alike ok.al hP'' hD'
    rw [eE, a2, eqs]
    refine ⟨rfl, fin h5 ⟨by rw [h6]; exact (armTo_fit ok.pf (fun z hz => by have := hfl z hz; omega) hP'').mono (by omega), by rw [h7]; exact (armTo_fit ok.df (fun z hz => by have := hfl z hz; omega) hD').mono (by omega), by rw [h6, h7]; exact a1, by rw [h7]; exact armTo_cob ok.cb hg hD', hQ'⟩ m6 wf6⟩
  rw [if_neg d4]
  -- Crash
  by_cases d5 : eqI s.dO 5 = true
  · rw [if_pos d5]
    have sF : SlT encF 1 h1 none s.fa s.fl s.fc F := (mf.at_ _ (List.mem_append_right _ (List.mem_cons_of_mem _ (List.mem_append_right _ (inZ hT))))).1
    have hfl2 := sF.len
    refine ⟨rfl, s.fa, s.fl, s.fc, ⟨rfl, cell mf rfl⟩, ?_⟩
    obtain ⟨s2, g2, h2, e2, m2, hs2, _, _, wf2⟩ := mf.clone wf1 app36 (by omega) encF_c sF (by omega)
    refine ⟨s2.a, s2.l, s2.c, h2, e2, ?_⟩
    intro h3 e3
    obtain ⟨s4, g4, h4, e4, m4, hs4, wf4⟩ := Many.push (A := []) (x := (165 : Int)) wf2 m2 app36 e3 rfl rfl (room (by omega) (by omega))
    have m4' : Many h4 (p.ths ++ ([Th.own encF 1 g4 s4 (F ++ [165])] ++ (V :: (X ++ Z)))) := m4.perm List.perm_middle.symm
    have m4v : Many h4 (p.ths ++ (V :: (X ++ Z))) := m4'.sub (List.Sublist.append (List.Sublist.refl _) (List.sublist_append_right _ _))
    have o4 : OwT encF 1 h4 g4 s4 (F ++ [165]) := Many.own (A := []) m4
    obtain ⟨sp4, lc4⟩ := o4.spot
    refine ⟨s4.a, s4.l, s4.c, h4, e4, rfl, s.fa, s.fl, s.fc, ⟨rfl, cell m4v rfl⟩, ⟨by simp only [cutOk, natI]; omega, sp4⟩, ?_⟩
    rw [cutA_zero, diffN_zero, diffN_zero]
    have cut : ∀ {hh : Hp}, OwT encF 1 hh g4 s4 (F ++ [165]) → SlT encF 1 hh g4 s4.a s.fl s4.c F := fun o => by
      have t1 := o.slT.take encF_w (m := s.fl) (by omega)
      rw [List.take_append_of_le_length (by omega), List.take_of_length_le (by omega)] at t1
      exact t1
    have sepd : ∀ y, g4 = some y → ¬ p.W y := fun y hy hw => by
      have h1 : (Th.disk p.d p.W p.F p.P :: (p.rths ++ ([Th.own encF 1 g4 s4 (F ++ [165])] ++ (V :: (X ++ Z))))).Pairwise fun x y => Out x.W y.F ∧ Out y.W x.F := m4'.sep
      rw [List.pairwise_cons] at h1
      exact (h1.1 (Th.own encF 1 g4 s4 (F ++ [165])) (List.mem_append_right _ (List.mem_append_left _ (by simp)))).1 y hw hy
    refine (Pt.runP m4' fun x => x.crash ok.pf (by omega) (cut o4) (fun y hy => ⟨sepd y hy, o4.1.glt wf4 y hy⟩) (by omega)).wf fun v h5 wf5 _ ⟨e5, W5, F5, m5⟩ => ⟨_, e5, ?_⟩
    have m5v : Many h5 (Pt.ths { p with W := W5, F := F5, P := (crashD p.P F).1 } ++ (V :: (X ++ Z))) := m5.sub (List.Sublist.append (List.Sublist.refl _) (List.sublist_append_right _ _))
    refine ⟨rfl, s.fa, s.fl, s.fc, ⟨rfl, cell m5v rfl⟩, ?_⟩
    refine (c82 (Pt.toR m5 ok.hQ) ok.df (by omega) (T := Th.arg encF 1 s.fa s.fl s.fc F) (List.mem_cons_of_mem _ (List.mem_append_right _ (List.mem_cons_of_mem _ (List.mem_append_right _ (inZ hT))))) (fun hh hP => ⟨none, hP⟩) hF (by omega)).wf fun v h6 wf6 _ ⟨e6, x6⟩ => ⟨_, e6, ?_⟩
    obtain ⟨p', h7, h8, h9, hQ', m6⟩ := Pt.ofR (p := { p with W := W5, F := F5, P := (crashD p.P F).1 }) x6
    have m6v : Many h6 (p'.ths ++ (V :: (X ++ Z))) := m6.sub (List.Sublist.append (List.Sublist.refl _) (List.sublist_append_right _ _))
    obtain ⟨a1, a2⟩ := ok.al.of (f := fun D => crashD D F) fun D => crashD_bare D F
    have a2 : (crashD p.P F).2 = (crashD p.D F).2 := a2
    rw [a2]
    have o6 : OwT encF 1 h6 g4 s4 (F ++ [165]) := (m6.at_ (Th.own encF 1 g4 s4 (F ++ [165])) (List.mem_append_right _ (List.mem_append_left _ (by simp)))).1
    have sF6 : SlT encF 1 h6 none s.fa s.fl s.fc F := (m6.at_ _ (List.mem_append_right _ (List.mem_append_right _ (List.mem_cons_of_mem _ (List.mem_append_right _ (inZ hT)))))).1
    have hm : (F ++ [165])[s.fl]? = some 165 := by rw [List.getElem?_append_right (by omega), hfl2, Nat.sub_self]; rfl
    obtain ⟨q1, q2⟩ := o6.slT.get encF_w hm (j := 0) (m := 1) (by omega)
    simp only [eqs]
    refine ⟨fun _ => rfl, s.fa, s.fl, s.fc, fun _ => ⟨rfl, cell m6v rfl⟩, fun _ => ⟨by simp only [cutOk, natI]; omega, sp4⟩, fun _ => rfl, s.fa, s.fl, s.fc, fun _ => ⟨rfl, cell m6v rfl⟩, fun v hh => v = .bool true ∧ h6 = hh, fun _ => ?_, fun hf => by simp at hf, ?_⟩
    · rw [diffN_zero]
      exact (c83 (cut o6) sF6 (by omega)).mono fun v hh ⟨e, e'⟩ => ⟨_, e, rfl, e'.symm⟩
    rintro b7 h7' ⟨e, rfl⟩
    simp only [Value.bool.injEq] at e
    subst e
    simp only [tt]
    refine ⟨fun _ => rfl, s.fa, s.fl, s.fc, fun _ => ⟨rfl, cell m6v rfl⟩, fun _ => ⟨q1, by simp only [inR, natI]; omega⟩, 165, fun _ => ⟨rfl, q2.trans rfl⟩, ?_⟩
    refine ⟨rfl, fin h7 ⟨by rw [h8]; exact (crashD_fit ok.pf F).mono (by omega), by rw [h9]; exact (crashD_fit ok.df F).mono (by omega), by rw [h8, h9]; exact a1, by rw [h9]; exact crashD_cob ok.cb F, hQ'⟩ m6v wf6⟩
  rw [if_neg d5]
  -- Wake
  by_cases d6 : eqI s.dO 6 = true
  · rw [if_pos d6]
    refine (Pt.runP mf fun X => X.wake ok.pf).wf fun v h3 wf3 _ ⟨e3, W3, F3, m3⟩ => ⟨_, e3, ?_⟩
    refine (c84 (Pt.toR m3 ok.hQ)).wf fun v h4 wf4 _ ⟨e4, x4⟩ => ⟨_, e4, ?_⟩
    obtain ⟨p', h5, h6, h7, hQ', m4⟩ := Pt.ofR (p := { p with W := W3, F := F3, P := (wakeD p.P).1 }) x4
    obtain ⟨a1, a2⟩ := ok.al.of (f := wakeD) wakeD_bare
    rw [a2, eqs]
    exact ⟨rfl, fin h5 ⟨by rw [h6]; exact (wakeD_fit ok.pf).mono (by omega), by rw [h7]; exact (wakeD_fit ok.df).mono (by omega), by rw [h6, h7]; exact a1, by rw [h7]; exact wakeD_cob ok.cb, hQ'⟩ m4 wf4⟩
  rw [if_neg d6]
  -- Take
  by_cases d7 : eqI s.dO 7 = true
  · rw [if_pos d7]
    refine (Pt.runP mf fun X => X.take ok.pf).wf fun v h3 wf3 _ ⟨e3, W3, F3, m3⟩ => ⟨_, _, e3, ?_⟩
    refine (c86 (Pt.toR m3 ok.hQ)).wf fun v h4 wf4 _ ⟨e4, x4⟩ => ⟨_, _, e4, ?_⟩
    obtain ⟨p', h5, h6, h7, hQ', m4⟩ := Pt.ofR (p := { p with W := W3, F := F3, P := (takeD p.P).1 }) x4
    obtain ⟨a1, a2⟩ := ok.al.of (f := takeD) takeD_bare
    rw [a2, eqs, eqs]
    exact ⟨rfl, fin h5 ⟨by rw [h6]; exact (takeD_fit ok.pf).mono (by omega), by rw [h7]; exact (takeD_fit ok.df).mono (by omega), by rw [h6, h7]; exact a1, by rw [h7]; exact takeD_cob ok.cb, hQ'⟩ m4 wf4⟩
  rw [if_neg d7]
  refine ⟨fun vals hh => ∃ b, [.bool b] = vals ∧ h1 = hh, ?_, ?_⟩
  · by_cases d8 : eqI s.dO 8 = true
    · rw [if_pos d8]; exact ⟨_, rfl, rfl⟩
    · rw [if_neg d8]; exact ⟨_, rfl, rfl⟩
  rintro b h2 ⟨b', e, rfl⟩
  simp only [List.cons.injEq, Value.bool.injEq, and_true] at e
  subst e
  by_cases hb : b' = true
  · rw [if_pos hb]
    refine ⟨rfl, rfl, la, ll, ll, ⟨rfl, bw.one rfl⟩, ⟨i1, hin⟩, some ⟨p.d, 0, none⟩, some ⟨p.r, 0, none⟩, ⟨rfl, i4.trans rfl⟩, ?_⟩
    have x2 : WD w page (A ++ p :: B) ts Rest h1 := by
      rw [← hsplit]
      exact ⟨gl, la, ll, gi, gj, gw, gu, si, sj, sw, su, m1.sub (List.sublist_cons_self _ _)⟩
    refine (c87 x2 ok (by omega) (by omega)).mono fun v h3 ⟨e3, wf3, p', t, hp', ht, x3⟩ => ⟨_, e3, rfl, wf3, A ++ p' :: B, ts ++ [t], x3, mem' (hp'.mono (by omega)) (by omega), by rw [hlen]; exact hp1, by rw [hlen]; exact hp4, by simp; omega, fun y hy => ?_⟩
    rcases List.mem_append.mp hy with hy | hy
    · exact hsm y hy
    · simp at hy; subst hy; exact ht
  rw [if_neg hb]
  obtain ⟨eb, es, ed, em, eo, ew, ear, el, et, ewr, egr, esy⟩ := ok.al.eqs
  -- Tells
  by_cases d10 : eqI s.dO 10 = true
  · rw [if_pos d10]
    obtain ⟨gd, gw', ga, R, Q, dd, w', a', hQ, mr⟩ := Pt.toR mf ok.hQ
    have br := Many.var (A := []) mr
    have oa : p.D.arms.length = a'.l := (Many.own (A := [Th.var p.r _, Th.own encS 1 gd dd p.D.dur, Th.own Wt.encR 3 gw' w' p.D.waits]) mr).2
    have hbb : Blk h1 p.r (some p.r) [.int .i64 p.P.bytes, .int .i64 p.P.most, dd.v, w'.v, a'.v, .bool (!p.P.off), .int .i64 p.P.life, .int .i64 p.P.taken, .int .i64 p.P.wr, .int .i64 p.P.gr, .int .i64 p.P.sy] := by
      rw [eb, em, eo, el, et, ewr, egr, esy]; exact br
    refine (c42 (Pt.atP mf) ok.pf hbb (by omega) (fun hh kk => ?_)).wf fun v h3 wf3 _ ⟨e3, k3⟩ => ⟨_, e3, rfl, fin rfl (ok.mono (by omega)) (mf.kept k3) wf3⟩
    have hW := ok.df.waits
    refine (c71r ((Pt.toR mf ok.hQ).kept kk) (by omega)).mono fun v h' ⟨e, e'⟩ => ⟨?_, e'⟩
    rw [e, ok.cb.coh.size, es]
    rfl
  rw [if_neg d10]
  -- Fork
  by_cases d11 : eqI s.dO 11 = true
  · rw [if_pos d11]
    refine (Many.fork (A := []) mf ok.pf (by omega)).wf fun v h3 wf3 _ ⟨q2, W2, e3, m3⟩ => ⟨_, e3, ?_⟩
    rw [if_neg (by simp [isN])]
    have m3a : Many h3 ((Th.disk q2 W2 p.F p.P :: p.ths) ++ (V :: (X ++ Z))) := m3
    have mX : ∀ {hh : Hp} {Y : List Th}, Many hh (Y ++ (V :: (X ++ Z))) → Blk hh w (some w) [.slice la ll ll, .int .i64 page, si.v, sj.v, sw.v, su.v] := fun {hh Y} m => by
      have m' : Many hh ((Y ++ [V]) ++ Th.var w [.slice la ll ll, .int .i64 page, si.v, sj.v, sw.v, su.v] :: ([Th.lst encP 2 gl la ll (ps.map Pt.at_), Th.own encV 1 gi si (ts.map Tl.ia), Th.own encV 1 gj sj (ts.map Tl.ib), Th.own encV 1 gw sw (ts.map Tl.wa), Th.own encV 1 gu su (ts.map Tl.wb)] ++ Z)) := by
        rw [hX] at m
        rw [List.append_assoc]
        exact m
      exact m'.var
    refine ⟨rfl, rfl, la, ll, ll, ⟨rfl, (mX m3a).one rfl⟩, ?_⟩
    have xr : RD p.r p.D (Th.disk p.d p.W p.F p.P :: Th.disk q2 W2 p.F p.P :: (V :: (X ++ Z))) h3 := by
      refine Pt.toR (p := p) (O := Th.disk q2 W2 p.F p.P :: (V :: (X ++ Z))) ?_ ok.hQ
      exact m3a.perm (by
        show (Th.disk q2 W2 p.F p.P :: (p.ths ++ (V :: (X ++ Z)))).Perm (p.ths ++ (Th.disk q2 W2 p.F p.P :: (V :: (X ++ Z))))
        exact List.perm_middle.symm)
    refine (c88 xr ok.df (by omega)).wf fun v h4 wf4 _ ⟨r2, gd, gw', ga, R, Q, dd, w', a', gd', gw2, ga', dd', w2, a2, e4, hQ, m4, _⟩ => ⟨_, e4, ?_⟩
    obtain ⟨p', hp'⟩ : ∃ p' : Pt, p' = ⟨p.d, p.r, p.W, p.F, p.P, gd, gw', ga, R, Q, dd, w', a', p.D⟩ := ⟨_, rfl⟩
    obtain ⟨p2, hp2⟩ : ∃ p2 : Pt, p2 = ⟨q2, r2, W2, p.F, p.P, gd', gw2, ga', R, Q, dd', w2, a2, p.D⟩ := ⟨_, rfl⟩
    have hat : p'.at_ = p.at_ := by subst hp'; rfl
    have ok' : p'.ok k M N := by subst hp'; exact ⟨ok.pf, ok.df, ok.al, ok.cb, hQ⟩
    have ok2 : p2.ok k M N := by subst hp2; exact ⟨ok.pf, ok.df, ok.al, ok.cb, hQ⟩
    have hat2 : p2.at_ = (q2, r2) := by subst hp2; rfl
    have m5 : Many h4 ((p2.ths ++ p'.ths) ++ (V :: (X ++ Z))) := by
      have q0 : Many h4 (p2.rths ++ (p'.rths ++ (Th.disk p.d p.W p.F p.P :: Th.disk q2 W2 p.F p.P :: (V :: (X ++ Z))))) := by
        subst hp' hp2; exact m4
      have t1 : p2.ths = Th.disk q2 W2 p.F p.P :: p2.rths := by subst hp2; rfl
      have t2 : p'.ths = Th.disk p.d p.W p.F p.P :: p'.rths := by subst hp'; rfl
      rw [t1, t2]
      refine q0.perm ?_
      generalize p2.rths = Y2
      generalize p'.rths = Y1
      generalize Th.disk p.d p.W p.F p.P = x1
      generalize Th.disk q2 W2 p.F p.P = x2
      generalize V :: (X ++ Z) = ZZ
      classical
      refine List.perm_iff_count.mpr fun a => ?_
      simp only [List.count_append, List.count_cons, List.cons_append]
      omega
    clear m4 xr m3a m3
    have bX := mX m5
    refine ⟨⟨rfl, bX.one rfl⟩, ?_⟩
    intro h6 e6
    have e6' : h6 = h4.alloc (encP (q2, r2)) 122 := e6
    refine ⟨⟨rfl, ((new_blk wf4 e6').2.1.blk bX).one rfl⟩, ?_⟩
    -- the world ahead
    obtain ⟨X5, hX5⟩ : ∃ X5, X5 = [Th.own encV 1 gi si (ts.map Tl.ia), Th.own encV 1 gj sj (ts.map Tl.ib), Th.own encV 1 gw sw (ts.map Tl.wa), Th.own encV 1 gu su (ts.map Tl.wb)] := ⟨_, rfl⟩
    have m6 : Many h4 ([Th.var w [.slice la ll ll, .int .i64 page, si.v, sj.v, sw.v, su.v]] ++ Th.lst encP 2 gl la ll (ps.map Pt.at_) :: (X5 ++ ((p2.ths ++ p'.ths) ++ Z))) := by
      have q0 : Many h4 ((p2.ths ++ p'.ths) ++ (X ++ Z)) := m5.sub (List.Sublist.append (List.Sublist.refl _) (List.sublist_cons_self _ _))
      have q1 := q0.perm (show ((p2.ths ++ p'.ths) ++ (X ++ Z)).Perm (X ++ ((p2.ths ++ p'.ths) ++ Z)) by
        rw [← List.append_assoc, ← List.append_assoc X]
        exact List.Perm.append_right _ List.perm_append_comm)
      rw [hX] at q1
      rw [hX5]
      exact q1
    obtain ⟨a7, g7, h7, e7, m7, wf7⟩ := m6.pushLst wf4 (v := (q2, r2)) app123 e6' rfl rfl (room (by omega) (by omega))
    refine ⟨a7, ll + 1, ll + 1, h7, e7, rfl, rfl, rfl, ?_⟩
    obtain ⟨h8, e8, m8, wf8⟩ := Many.set (A := []) (o := 0) (v := .slice a7 (ll + 1) (ll + 1)) wf7 m7 (by simp) rfl
    have b8 : Blk h8 w (some w) [.slice a7 (ll + 1) (ll + 1), .int .i64 page, si.v, sj.v, sw.v, su.v] := Many.var (A := []) m8
    refine ⟨h8, e8, rfl, rfl, a7, ll + 1, ll + 1, ⟨rfl, b8.one rfl⟩, ?_⟩
    obtain ⟨qs, hqs⟩ : ∃ qs, qs = A ++ p' :: B ++ [p2] := ⟨_, rfl⟩
    have hqm : qs.map Pt.at_ = ps.map Pt.at_ ++ [(q2, r2)] := by
      rw [hqs, hsplit, List.map_append, List.map_append, List.map_append, List.map_cons, List.map_cons, hat, List.map_cons, List.map_nil, hat2]
    have hql : qs.length = ll + 1 := by rw [hqs, List.length_append, hlen, hll]; rfl
    have qok : ∀ y ∈ qs, y.ok k M (N + 1) := fun y hy => by
      rw [hqs] at hy
      rcases List.mem_append.mp hy with hy | hy
      · exact mem' (ok'.mono (by omega)) (by omega) y hy
      · simp at hy; subst hy; exact ok2.mono (by omega)
    have m9 : Many h8 ([Th.var w [.slice a7 (ll + 1) (ll + 1), .int .i64 page, si.v, sj.v, sw.v, su.v]] ++ Th.lst encP 2 g7 a7 (ll + 1) (qs.map Pt.at_) :: (X5 ++ (qs.flatMap Pt.ths ++ (ts.flatMap Tl.ths ++ Rest)))) := by
      rw [hqm]
      have q0 : Many h8 ([Th.var w [.slice a7 (ll + 1) (ll + 1), .int .i64 page, si.v, sj.v, sw.v, su.v]] ++ Th.lst encP 2 g7 a7 (ll + 1) (ps.map Pt.at_ ++ [(q2, r2)]) :: (X5 ++ ((p2.ths ++ p'.ths) ++ Z))) := m8
      refine q0.perm (List.Perm.append_left _ (List.Perm.cons _ (List.Perm.append_left _ ?_)))
      rw [hZ, hqs, List.flatMap_append, List.flatMap_append, List.flatMap_cons, List.flatMap_cons, List.flatMap_nil]
      generalize p2.ths = Y2
      generalize p'.ths = Y1
      generalize A.flatMap Pt.ths = A'
      generalize B.flatMap Pt.ths = B'
      generalize ts.flatMap Tl.ths ++ Rest = Z'
      classical
      refine List.perm_iff_count.mpr fun a => ?_
      simp only [List.count_append, List.append_nil]
      omega
    by_cases h4' : gtI (natI (ll + 1)) 4 = true
    · rw [if_pos h4']
      rw [gtI_iff] at h4'
      simp only [natI] at h4'
      have sp9 : spotOk 2 a7 := by
        have := (Many.lst m9).sl.mem
        cases ha : a7 with
        | none => trivial
        | some a => rw [ha] at this; exact this.1
      refine ⟨rfl, rfl, a7, ll + 1, ll + 1, ⟨rfl, b8.one rfl⟩, ⟨by simp only [cutOk, natI]; omega, sp9⟩, rfl, rfl, rfl, ?_⟩
      have ed1 : diffN (natI (ll + 1)) 1 = ll := by simp [diffN, natI]
      rw [ed1]
      cases hq0 : qs with
      | nil => rw [hq0] at hql; simp at hql
      | cons y qs' =>
        rw [hq0] at m9 hql qok
        have m10 : Many h8 ([Th.var w [.slice a7 (ll + 1) (ll + 1), .int .i64 page, si.v, sj.v, sw.v, su.v]] ++ Th.lst encP 2 g7 a7 (ll + 1) (y.at_ :: qs'.map Pt.at_) :: (X5 ++ ((y :: qs').flatMap Pt.ths ++ (ts.flatMap Tl.ths ++ Rest)))) := m9
        have m11 := m10.tailLst encP_w (by omega)
        rw [Nat.add_sub_cancel] at m11
        obtain ⟨h12, e12, m12, wf12⟩ := Many.set (A := []) (o := 0) (v := .slice (cutA 1 2 a7) ll ll) wf8 m11 (by simp) rfl
        have m13 : Many h12 ([Th.var w [.slice (cutA 1 2 a7) ll ll, .int .i64 page, si.v, sj.v, sw.v, su.v], Th.lst encP 2 g7 (cutA 1 2 a7) ll (qs'.map Pt.at_)] ++ (X5 ++ (qs'.flatMap Pt.ths ++ (ts.flatMap Tl.ths ++ Rest)))) := by
          have sb : (qs'.flatMap Pt.ths ++ (ts.flatMap Tl.ths ++ Rest)).Sublist ((y :: qs').flatMap Pt.ths ++ (ts.flatMap Tl.ths ++ Rest)) := by
            rw [List.flatMap_cons, List.append_assoc]; exact List.sublist_append_right _ _
          have m12' : Many h12 ([Th.var w [.slice (cutA 1 2 a7) ll ll, .int .i64 page, si.v, sj.v, sw.v, su.v], Th.lst encP 2 g7 (cutA 1 2 a7) ll (qs'.map Pt.at_)] ++ (X5 ++ ((y :: qs').flatMap Pt.ths ++ (ts.flatMap Tl.ths ++ Rest)))) := m12
          exact m12'.sub (List.Sublist.append (List.Sublist.refl _) (List.Sublist.append (List.Sublist.refl X5) sb))
        have hl' : qs'.length = ll := by simp at hql; omega
        refine ⟨h12, e12, rfl, wf12, qs', ts, ⟨g7, cutA 1 2 a7, ll, gi, gj, gw, gu, si, sj, sw, su, ?_⟩, fun z hz => qok z (List.mem_cons_of_mem _ hz), by omega, by omega, by omega, hsm⟩
        rw [hX5] at m13
        exact m13
    · rw [if_neg h4']
      rw [gtI_iff] at h4'
      simp only [natI] at h4'
      refine ⟨rfl, wf8, qs, ts, ⟨g7, a7, ll + 1, gi, gj, gw, gu, si, sj, sw, su, ?_⟩, qok, by omega, by omega, by omega, hsm⟩
      rw [hX5] at m9
      exact m9
  rw [if_neg d11]
  by_cases d12 : eqI s.dO 12 = true
  · rw [if_pos d12]
    refine ⟨s.dO, s.wh, s.no, s.n, s.len, s.b, s.st, s.aa, s.al, s.ac, s.fa, s.fl, s.fc, ⟨rfl, (b1.cells (o := 0) (n := 9) (Nat.le_of_ble_eq_true rfl)).trans rfl⟩, ?_⟩
    exact (c89 h1 s.dO s.wh s.no s.n s.len s.b s.st s.aa s.al s.ac s.fa s.fl s.fc).wf fun v h3 wf3 _ ⟨e3, k3⟩ => ⟨_, e3, rfl, fin rfl (ok.mono (by omega)) (mf.kept k3) wf3⟩
  · rw [if_neg d12]
    exact ⟨rfl, fin rfl (ok.mono (by omega)) mf wf1⟩
end Go.Proofs.Ytfkhjbfddeahaaa.kc

/- A scene's two disks are made. -/
set_option linter.unusedVariables false
set_option linter.unusedSimpArgs false
namespace Go.Proofs.Ytfkhjbfddeahaaa.kc
open Go Go.Cn Go.Proofs Go.Proofs.Ytfkhjbfddeahaaa.vc

/-- Data. -/
def encD (x : Int × Int × Int) : List Value := [.int .i64 x.1, .int .u8 x.2.1, .int .u8 x.2.2]
theorem encD_w (x : Int × Int × Int) : (encD x).length = 3 := rfl
def pageT (page : Int) (x : Int × Int × Int) : ByteArray := textB x.2.1 x.2.2 (textN x.1 (pageN page))

/-- New things, apart from each other. -/
theorem Many.adds {h h' : Hp} {L N : List Th} (m : Many h L) (k : Kept h h') (mn : Many h' N) (hn : ∀ t ∈ N, ∀ y, t.F y → h.next ≤ y) : Many h' (N ++ L) := by
  have m' := m.kept k
  refine ⟨fun x hx => ?_, List.pairwise_append.mpr ⟨mn.sep, m'.sep, fun t ht x hx => ⟨fun y hy hf => ?_, fun y hy hf => ?_⟩⟩⟩
  · rcases List.mem_append.mp hx with hx | hx
    · exact mn.at_ x hx
    · exact m'.at_ x hx
  · have := hn t ht y ((mn.at_ t ht).2.2.1 y hy)
    have := (m.at_ x hx).2.2.2 y hf
    omega
  · have := hn t ht y hf
    have := (m.at_ x hx).2.2.2 y ((m.at_ x hx).2.2.1 y hy)
    omega

/-- The document's new disk. -/
theorem new_rd {h h' : Hp} {L : List Th} (m : Many h L) (k : Kept h h') (wf' : Wf h') {page most : Int} {image : List ByteArray} {r : Nat} {s : Sv} {g : Option Nat} (hb : Blk h' r (some r) (rnew page most s)) (hr : h.next ≤ r) (o : OwT encS 1 h' g s image) (hg : ∀ y, g = some y → r < y) :
    Many h' (rthings r (newD page most image) g none none (fun _ => False) [] s ⟨none, 0, 0⟩ ⟨none, 0, 0⟩ ++ L) := by
  have m1 : Many h' [Th.fates (fun _ => False) []] := (Many.nil h').addRo (t := Th.fates (fun _ => False) []) (fun x hx => by cases hx) (Th.fates_stable _ _) (fun _ hf => hf) (fun _ hf => hf)
  have m2 : Many h' [Th.own Wt.encR 3 none ⟨none, 0, 0⟩ [], Th.own Ar.encR 5 none ⟨none, 0, 0⟩ [], Th.fates (fun _ => False) []] := (m1.nilOwn Ar.encR 5).nilOwn Wt.encR 3
  have none_F : ∀ t ∈ [Th.own Wt.encR 3 none ⟨none, 0, 0⟩ [], Th.own Ar.encR 5 none ⟨none, 0, 0⟩ [], Th.fates (fun _ => False) []], ∀ y, ¬ t.F y := by
    intro t ht y hy
    simp only [List.mem_cons, List.not_mem_nil, or_false] at ht
    rcases ht with rfl | rfl | rfl
    · have hy : none = some y := hy
      simp at hy
    · have hy : none = some y := hy
      simp at hy
    · exact hy
  have m3 : Many h' (rthings r (newD page most image) g none none (fun _ => False) [] s ⟨none, 0, 0⟩ ⟨none, 0, 0⟩) := by
    refine ⟨fun t ht => ?_, List.pairwise_cons.mpr ⟨fun t ht => ⟨fun y hy hf => ?_, fun y hy hf => ?_⟩, List.pairwise_cons.mpr ⟨fun t ht => ⟨fun y hy hf => ?_, fun y hy hf => ?_⟩, m2.sep⟩⟩⟩
    · rcases List.mem_cons.mp ht with rfl | ht
      · exact ⟨hb, Th.var_stable _ _, fun _ hy => hy, fun y hy => by have : y = r := hy; subst this; exact hb.glt wf'⟩
      · rcases List.mem_cons.mp ht with rfl | ht
        · exact ⟨o, Th.own_stable _ _ _ _ _, fun _ hy => hy, o.1.glt wf'⟩
        · exact m2.at_ t ht
    · have hy : y = r := hy
      rcases List.mem_cons.mp ht with rfl | ht
      · have := hg y hf; omega
      · exact none_F t ht y hf
    · have hf : y = r := hf
      rcases List.mem_cons.mp ht with rfl | ht
      · have := hg y hy; omega
      · exact none_F t ht y ((m2.at_ t ht).2.2.1 y hy)
    · exact none_F t ht y hf
    · exact none_F t ht y ((m2.at_ t ht).2.2.1 y hy)
  refine m.adds k m3 fun t ht y hy => ?_
  rcases List.mem_cons.mp ht with rfl | ht
  · have : y = r := hy
    omega
  · rcases List.mem_cons.mp ht with rfl | ht
    · have := hg y hy; omega
    · exact (none_F t ht y hy).elim

theorem newD_cob (page most : Int) (image : List ByteArray) : Cob (newD page most image) := by
  refine ⟨⟨by simp [newD], rfl, fun no hno => ?_, by simp [newD], by simp [newD]⟩, Nat.le_refl _⟩
  have h1 : no < image.length := hno
  have : seenR (newD page most image) no = image[no] := by
    unfold seenR
    have : seenBack (newD page most image).waits (no : Int) (newD page most image).waits.length = none := rfl
    rw [this, Option.getD_none]
    show (image[no]?).getD _ = _
    rw [List.getElem?_eq_getElem h1, Option.getD_some]
  rw [this]
  exact List.getElem?_eq_getElem (l := image) h1

/-- What made leaves. -/
def Made (page most : Int) (Rest : List Th) (v : Value) (h : Hp) : Prop :=
  Wf h ∧ ((v = .tuple #[.pointer none, .bool true] ∧ Many h Rest) ∨
    ∃ w p k M, v = .tuple #[.pointer (some ⟨w, 0, none⟩), .bool true] ∧ p.ok k M 0 ∧ WD w (pageN page) [p] [] Rest h)

def markS : ByteArray := ⟨#[109, 97, 114, 107]⟩
def goneS : ByteArray := ⟨#[103, 111, 110, 101]⟩

set_option maxRecDepth 100000 in
theorem c48 {h : Hp} {Rest : List Th} (m0 : Many h Rest) (x : Scn) {imgs : List (Int × Int × Int)} (hT : Th.arg encD 3 x.ia x.il x.ic imgs ∈ Rest) (hil : imgs.length ≤ 1048576) :
    C 48 [.agg x.enc.toArray] h fun v h' => Made x.page x.most Rest v h' := by
  refine SCalls_of_vw fol (pf := pf) (shp := shp48) (f := 48) (fn := Try.f48) (by kernel_rfl) (c := Try.f48.body.getD .skip) (by kernel_rfl) (by kernel_rfl) fun wf => ?_
  show vBody Try.prog C pf shp48 Try.f48 (Try.f48.body.getD .skip) [.agg #[.int .i64 x.page, .int .i64 x.most, .slice x.ia x.il x.ic, .bool x.wh, .slice x.sa x.sl x.sc]] h _
  rw [vc48]
  intro h1 e1
  obtain ⟨m1, wf1, n1⟩ := m0.newVar wf e1
  generalize h.next = q at m1 n1
  obtain ⟨V, hV⟩ : ∃ V, V = Th.var q [.int .i64 x.page, .int .i64 x.most, .slice x.ia x.il x.ic, .bool x.wh, .slice x.sa x.sl x.sc] := ⟨_, rfl⟩
  rw [← hV] at m1
  have box : ∀ {hh : Hp} {Y : List Th}, Many hh (Y ++ V :: Rest) → Blk hh q (some q) [.int .i64 x.page, .int .i64 x.most, .slice x.ia x.il x.ic, .bool x.wh, .slice x.sa x.sl x.sc] := fun {hh Y} m => by rw [hV] at m; exact m.var
  have img : ∀ {hh : Hp} {Y : List Th}, Many hh (Y ++ V :: Rest) → SlT encD 3 hh none x.ia x.il x.ic imgs := fun {hh Y} m => (m.at_ _ (List.mem_append_right _ (List.mem_cons_of_mem _ hT))).1
  have hL : imgs.length = x.il := (img (Y := []) m1).len
  have hpN := pageN_le x.page
  obtain ⟨n, hn⟩ : ∃ n, n = if x.wh = true then x.il else 0 := ⟨_, rfl⟩
  have hnl : n ≤ x.il := by rw [hn]; split <;> omega
  clear m0 wf e1 n1
  refine ⟨fun vals m hh => ∃ (i : Nat) (g : Option Nat) (s : Sv), [s.v, .int .i64 i] = vals ∧ i ≤ n ∧ m = n - i ∧ Wf hh ∧ Many hh (Th.own encS 1 g s ((imgs.take i).map (pageT x.page)) :: V :: Rest),
    ⟨n, 0, none, ⟨none, 0, 0⟩, rfl, Nat.zero_le _, rfl, wf1, m1.nilOwn encS 1⟩, ?_⟩
  rintro a1 l1 c1 ni m h2 ⟨i, g, s, e, hi, rfl, wf2, m2⟩
  simp at e
  obtain ⟨⟨rfl, rfl, rfl⟩, rfl⟩ := e
  have b2 := box (Y := [Th.own encS 1 g s _]) m2
  have hsl : s.l = i := by
    have : ((imgs.take i).map (pageT x.page)).length = s.l := (Many.own (A := []) m2).2
    rw [← this, List.length_map, List.length_take]; omega
  refine ⟨rfl, x.ia, x.il, x.ic, ⟨rfl, b2.one rfl⟩, fun _ => rfl, x.wh, fun _ => ⟨rfl, b2.one rfl⟩, ?_⟩
  by_cases hlt : sel (ltI (i : Int) (natI x.il)) x.wh false = true
  · rw [if_pos hlt]
    rw [and_iff, ltI_iff] at hlt
    have hlt' : i < n := by have := hlt.1; simp only [natI] at this; rw [hn, if_pos hlt.2]; omega
    have hz : imgs[i]? = some (imgs[i]'(by omega)) := List.getElem?_eq_getElem _
    generalize imgs[i]'(by omega) = z at hz
    have si := img (Y := [Th.own encS 1 g s _]) m2
    obtain ⟨i1, i2⟩ := si.get encD_w hz (j := 0) (m := 3) (by omega)
    refine ⟨rfl, x.ia, x.il, x.ic, ⟨rfl, b2.one rfl⟩, ⟨i1, by simp only [inR]; omega⟩, z.1, z.2.1, z.2.2, ⟨rfl, i2.trans rfl⟩, x.page, x.most, x.ia, x.il, x.ic, x.wh, x.sa, x.sl, x.sc, ⟨rfl, (b2.cells (o := 0) (n := 5) (Nat.le_of_ble_eq_true rfl)).trans rfl⟩, ?_⟩
    refine (c74 h2 x).wf fun v h3 wf3 _ ⟨e3, k3⟩ => ⟨_, e3, ?_⟩
    have m3 := m2.kept k3
    have b3 := box (Y := [Th.own encS 1 g s _]) m3
    obtain ⟨_, j2⟩ := (img (Y := [Th.own encS 1 g s _]) m3).get encD_w hz (j := 0) (m := 3) (by omega)
    refine ⟨⟨rfl, j2.trans rfl⟩, ⟨rfl, b3.one rfl⟩, (c29 h3 (p := pageN x.page) (by omega)).wf fun v h4 wf4 _ ⟨e4, k4⟩ => ⟨_, e4, ?_⟩⟩
    have m4 := m3.kept k4
    intro h5 e5
    obtain ⟨s6, g6, h6, e6, m6, hs6, wf6⟩ := Many.push (A := []) (x := pageT x.page z) wf4 m4 app40 e5 rfl rfl (room (by omega) (by omega))
    refine ⟨s6.a, s6.l, s6.c, h6, e6, n - (i + 1), by simp only [lessN]; omega, i + 1, g6, s6, by rw [addW_small (by omega) (by omega)]; rfl, by omega, rfl, wf6, ?_⟩
    have : (imgs.take (i + 1)).map (pageT x.page) = (imgs.take i).map (pageT x.page) ++ [pageT x.page z] := by rw [List.take_add_one, hz]; simp
    rw [this]; exact m6
  rw [if_neg hlt]
  rw [and_iff, ltI_iff] at hlt
  have hin : i = n := by
    rw [hn] at hi ⊢
    by_cases hw : x.wh = true
    · rw [if_pos hw] at hi ⊢
      have : ¬ ((i : Int) < natI x.il) := fun h => hlt ⟨h, hw⟩
      simp only [natI] at this; omega
    · rw [if_neg hw] at hi ⊢; omega
  generalize hI : (imgs.take i).map (pageT x.page) = I at m2
  have hIl : I.length = s.l := (Many.own (A := []) m2).2
  have o2 : OwT encS 1 h2 g s I := Many.own (A := []) m2
  refine ⟨rfl, x.page, ⟨rfl, b2.one rfl⟩, rfl, x.most, ⟨rfl, b2.one rfl⟩, ?_⟩
  refine (c40 o2.slT (by omega) x.page x.most).wf fun v h3 wf3 _ ⟨k3, hq3⟩ => ?_
  have m3 := m2.kept k3
  -- what the document's From leaves
  have doc : ∃ (pr : Option Addr) (N : List Th), v = .tuple #[.pointer pr, .int .i64 (fromE x.page x.most I)] ∧ Many h3 (N ++ (Th.own encS 1 g s I :: V :: Rest)) ∧
      ((fromE x.page x.most I ≠ 0 ∧ pr = none ∧ N = []) ∨ (fromE x.page x.most I = 0 ∧ ∃ r g' s', pr = some ⟨r, 0, none⟩ ∧ N = rthings r (newD x.page x.most I) g' none none (fun _ => False) [] s' ⟨none, 0, 0⟩ ⟨none, 0, 0⟩)) := by
    rcases hq3 with ⟨hne, rfl⟩ | ⟨hz, r, s', g', rfl, hb, hr, ho, hg'⟩
    · exact ⟨none, [], rfl, m3, .inl ⟨hne, rfl, rfl⟩⟩
    · exact ⟨some ⟨r, 0, none⟩, _, by rw [hz], new_rd m2 k3 wf3 hb hr ho hg', .inr ⟨hz, r, g', s', rfl, rfl⟩⟩
  obtain ⟨pr, N, e3, mN, hN⟩ := doc
  refine ⟨pr, fromE x.page x.most I, e3, ?_⟩
  clear hq3 m3
  refine ⟨fun vals hh => ∃ (pp : Option Addr) (N' : List Th), [.pointer pr, .int .i64 (fromE x.page x.most I), .pointer pp, .int .i64 (fromE x.page x.most I)] = vals ∧ Wf hh ∧ Many hh (N' ++ (N ++ V :: Rest)) ∧
      ((fromE x.page x.most I ≠ 0 ∧ pp = none ∧ N' = []) ∨ (fromE x.page x.most I = 0 ∧ ∃ d W, pp = some ⟨d, 0, none⟩ ∧ N' = [Th.disk d W (fun _ => False) (newD x.page x.most I)])), ?_, ?_⟩
  · have bN : ∀ {hh : Hp} {Y : List Th}, Many hh (Y ++ (N ++ V :: Rest)) → Blk hh q (some q) [.int .i64 x.page, .int .i64 x.most, .slice x.ia x.il x.ic, .bool x.wh, .slice x.sa x.sl x.sc] := fun {hh Y} m => by
      rw [← List.append_assoc] at m; exact box m
    have mN1 : Many h3 ([Th.own encS 1 g s I] ++ (N ++ V :: Rest)) := mN.perm List.perm_middle
    have b3 := bN mN1
    refine ⟨rfl, x.wh, ⟨rfl, b3.one rfl⟩, ?_⟩
    by_cases hw : x.wh = true
    · rw [if_pos hw]
      have o3 : OwT encS 1 h3 g s I := Many.own (A := []) mN1
      obtain ⟨s4, g4, h4, e4, m4, hs4, _, _, wf4⟩ := mN1.clone wf3 app40 (by omega) encS_c o3.slT (by omega)
      refine ⟨s4.a, s4.l, s4.c, h4, e4, ?_⟩
      intro h5 e5
      obtain ⟨s6, g6, h6, e6, m6, hs6, wf6⟩ := Many.push (A := []) (x := markS) wf4 m4 app40 e5 rfl rfl (room (by omega) (by omega))
      have m6 : Many h6 ([Th.own encS 1 g6 s6 (I ++ [markS]), Th.own encS 1 g s I] ++ (N ++ V :: Rest)) := m6
      have b6 := bN m6
      have o6 : OwT encS 1 h6 g6 s6 (I ++ [markS]) := Many.own (A := []) m6
      obtain ⟨sp6, lc6⟩ := o6.spot
      refine ⟨s6.a, s6.l, s6.c, h6, e6, rfl, x.page, ⟨rfl, b6.one rfl⟩, rfl, x.most, ⟨rfl, b6.one rfl⟩, ⟨by simp only [cutOk, natI]; omega, sp6⟩, ?_⟩
      rw [cutA_zero, diffN_zero, diffN_zero]
      have cut : ∀ {hh : Hp}, OwT encS 1 hh g6 s6 (I ++ [markS]) → SlT encS 1 hh g6 s6.a s.l s6.c I := fun o => by
        have t1 := o.slT.take encS_w (m := s.l) (by omega)
        rw [List.take_append_of_le_length (by omega), List.take_of_length_le (by omega)] at t1
        exact t1
      refine (c41 (cut o6) (by omega) x.page x.most).wf fun v h7 wf7 _ ⟨k7, hq7⟩ => ?_
      have m7 := m6.kept k7
      have prog : ∃ (pp : Option Addr) (N' : List Th), v = .tuple #[.pointer pp, .int .i64 (fromE x.page x.most I)] ∧ Many h7 (N' ++ ([Th.own encS 1 g6 s6 (I ++ [markS]), Th.own encS 1 g s I] ++ (N ++ V :: Rest))) ∧
          ((fromE x.page x.most I ≠ 0 ∧ pp = none ∧ N' = []) ∨ (fromE x.page x.most I = 0 ∧ ∃ d W, pp = some ⟨d, 0, none⟩ ∧ N' = [Th.disk d W (fun _ => False) (newD x.page x.most I)])) := by
        rcases hq7 with ⟨hne, rfl⟩ | ⟨hz, d, p0, ps, pd, pw, pa, s', dd', w', a', rfl, xx, hn'⟩
        · exact ⟨none, [], rfl, m7, .inl ⟨hne, rfl, rfl⟩⟩
        · exact ⟨some ⟨d, 0, none⟩, _, by rw [hz], m6.addD wf7 k7 (DAt.of xx) hn' (fun _ hf => hf.elim), .inr ⟨hz, d, _, rfl, rfl⟩⟩
      obtain ⟨pp, N', e7, mP, hP⟩ := prog
      refine ⟨pp, fromE x.page x.most I, e7, ⟨by simp only [cutOk, natI]; omega, sp6⟩, ?_⟩
      have o7 : OwT encS 1 h7 g6 s6 (I ++ [markS]) := (mP.at_ (Th.own encS 1 g6 s6 (I ++ [markS])) (List.mem_append_right _ (by simp))).1
      have o7s : OwT encS 1 h7 g s I := (mP.at_ (Th.own encS 1 g s I) (List.mem_append_right _ (by simp))).1
      refine (c43 (cut o7) o7s.slT (by omega)).mono fun v h8 ⟨e8, e8'⟩ => ⟨_, e8, ?_⟩
      subst e8'
      simp only [decide_true]
      have hm : (I ++ [markS])[s.l]? = some markS := by rw [List.getElem?_append_right (by omega), hIl, Nat.sub_self]; rfl
      obtain ⟨q1, q2⟩ := o7.slT.get encS_w hm (j := 0) (m := 1) (by omega)
      refine ⟨fun _ => ⟨q1, by simp only [inR, natI]; omega⟩, markS, fun _ => ⟨rfl, q2.trans rfl⟩, ?_⟩
      have hms : strEq markS (ByteArray.mk (Array.mk [109, 97, 114, 107])) = true := strEq_self markS
      rw [if_neg (by rw [hms]; decide)]
      have mP2 : Many h8 (Th.own encS 1 g6 s6 (I ++ [markS]) :: (N' ++ (Th.own encS 1 g s I :: (N ++ V :: Rest)))) := mP.perm List.perm_middle
      refine ⟨fun vals m hh => ∃ (j : Nat) (J : List ByteArray), [.int .i64 j] = vals ∧ j ≤ s.l ∧ m = s.l - j ∧ Wf hh ∧ J.length = s.l + 1 ∧ Many hh (Th.own encS 1 g6 s6 J :: (N' ++ (Th.own encS 1 g s I :: (N ++ V :: Rest)))), ⟨s.l, 0, I ++ [markS], rfl, Nat.zero_le _, rfl, wf7, by simp; omega, mP2⟩, ?_⟩
      rintro nj m h9 ⟨j, J, e, hj, rfl, wf9, hJ, m9⟩
      simp at e
      subst e
      by_cases hlj : ltI (j : Int) (natI s.l) = true
      · rw [if_pos hlj]
        have hlj : j < s.l := by rw [ltI_iff] at hlj; simp only [natI] at hlj; omega
        obtain ⟨p1, h10, e10, m10, wf10⟩ := Many.setOwn (A := []) (x := goneS) wf9 encS_w m9 (i := j) (by omega) rfl
        exact ⟨⟨p1, by simp only [inR]; omega⟩, rfl, h10, e10, s.l - (j + 1), by simp only [lessN]; omega, j + 1, J.set j goneS, by rw [addW_small (by omega) (by omega)]; rfl, by omega, rfl, wf10, by rw [List.length_set]; exact hJ, m10⟩
      · rw [if_neg hlj]
        refine ⟨pp, N', rfl, wf9, ?_, hP⟩
        have m10 : Many h9 (N' ++ (Th.own encS 1 g s I :: (N ++ V :: Rest))) := m9.sub (List.sublist_cons_self _ _)
        exact m10.sub (List.Sublist.append (List.Sublist.refl _) (List.sublist_cons_self _ _))
    · rw [if_neg hw]
      have hI0 : I = [] := by
        rw [← hI, hin, hn, if_neg hw]; rfl
      have mN2 : Many h3 (N ++ V :: Rest) := mN1.sub (List.sublist_cons_self _ _)
      have b3 := box mN2
      refine ⟨rfl, x.page, ⟨rfl, b3.one rfl⟩, rfl, x.most, ⟨rfl, b3.one rfl⟩, ?_⟩
      refine (c26 h3 x.page x.most).wf fun v h4 wf4 _ ⟨k4, hq4⟩ => ?_
      rw [hI0]
      rcases hq4 with ⟨hne, rfl⟩ | ⟨hz, d, p0, ps, pd, pw, pa, s', dd', w', a', rfl, xx, hn'⟩
      · exact ⟨none, _, rfl, none, [], rfl, wf4, mN2.kept k4, .inl ⟨hne, rfl, rfl⟩⟩
      · exact ⟨some ⟨d, 0, none⟩, _, rfl, some ⟨d, 0, none⟩, [Th.disk d _ (fun _ => False) (newD x.page x.most [])], by rw [hz], wf4, mN2.addD wf4 k4 (DAt.of xx) hn' (fun _ hf => hf.elim), .inr ⟨hz, d, _, rfl, rfl⟩⟩
  clear mN wf3 k3 o2 m2 wf2 b2 m1 wf1
  rintro a3 n3 a4 n4 h4 ⟨pp, N', e, wf4, m4, hP⟩
  simp only [List.cons.injEq, Value.pointer.injEq, Value.int.injEq, true_and, and_true] at e
  obtain ⟨rfl, rfl, rfl, rfl⟩ := e
  rcases hN with ⟨hne, rfl, rfl⟩ | ⟨hz, r, g', s', rfl, rfl⟩
  · rcases hP with ⟨_, rfl, rfl⟩ | ⟨hz, _⟩
    · rw [if_neg (by simp [neI, sel, isN, eqB, notB]), if_pos (show isN none = true from rfl)]
      exact ⟨wf4, .inl ⟨rfl, m4.sub (List.sublist_cons_self _ _)⟩⟩
    · exact absurd hz hne
  rcases hP with ⟨hne, _⟩ | ⟨_, d, W, rfl, rfl⟩
  · exact absurd hz hne
  rw [if_neg (by simp [neI, sel, isN, eqB, notB]), if_neg (by simp [isN])]
  obtain ⟨k, M, f0, _, _⟩ := newD_fit hz
  intro h5 e5
  have e5' : h5 = h4.alloc (encP (d, r)) 122 := e5
  obtain ⟨b5, k5, n5, wf5⟩ := new_blk wf4 e5'
  obtain ⟨p, hp⟩ : ∃ p : Pt, p = ⟨d, r, W, fun _ => False, newD x.page x.most I, g', none, none, fun _ => False, [], s', ⟨none, 0, 0⟩, ⟨none, 0, 0⟩, newD x.page x.most I⟩ := ⟨_, rfl⟩
  have m4p : Many h4 (p.ths ++ V :: Rest) := by subst hp; exact m4
  have hat : p.at_ = (d, r) := by subst hp; rfl
  have m5 : Many h5 (Th.lst encP 2 (some h4.next) (some ⟨h4.next, 0, none⟩) 1 [p.at_] :: (p.ths ++ V :: Rest)) := by
    rw [hat]
    refine m4p.add k5 ⟨⟨h4.next, 0, none, h4.next, _, rfl, rfl, .inl rfl, by omega, b5, rfl, rfl⟩, rfl⟩ (Th.lst_stable _ _ _ _ _ _) (fun _ hy => hy) (fun y hy => ?_) (fun y hy => .inl ?_) (fun y hy => ?_)
    · have hy : some h4.next = some y := hy
      simp at hy; omega
    · have hy : some h4.next = some y := hy
      simp at hy; omega
    · have hy : some h4.next = some y := hy
      simp at hy; omega
  have b5v := box (Y := Th.lst encP 2 (some h4.next) (some ⟨h4.next, 0, none⟩) 1 [p.at_] :: p.ths) m5
  refine ⟨x.page, x.most, x.ia, x.il, x.ic, x.wh, x.sa, x.sl, x.sc, ⟨rfl, (b5v.cells (o := 0) (n := 5) (Nat.le_of_ble_eq_true rfl)).trans rfl⟩, ?_⟩
  refine (c74 h5 x).wf fun v h6 wf6 _ ⟨e6, k6⟩ => ⟨_, e6, ?_⟩
  have m6 := m5.kept k6
  intro h7 e7
  obtain ⟨m7, wf7, n7⟩ := m6.newVar wf6 e7
  refine ⟨wf7, .inr ⟨h6.next, p, k, M, rfl, ?_, ?_⟩⟩
  · subst hp; exact ⟨f0, f0, rfl, newD_cob _ _ _, by simp [newD]⟩
  · refine ⟨some h4.next, some ⟨h4.next, 0, none⟩, 1, none, none, none, none, ⟨none, 0, 0⟩, ⟨none, 0, 0⟩, ⟨none, 0, 0⟩, ⟨none, 0, 0⟩, ?_⟩
    have m8 : Many h7 (Th.var h6.next [.slice (some ⟨h4.next, 0, none⟩) 1 1, .int .i64 (pageN x.page), .slice none 0 0, .slice none 0 0, .slice none 0 0, .slice none 0 0] :: Th.lst encP 2 (some h4.next) (some ⟨h4.next, 0, none⟩) 1 [p.at_] :: (p.ths ++ Rest)) :=
      m7.sub (List.Sublist.cons_cons _ (List.Sublist.cons_cons _ (List.Sublist.append (List.Sublist.refl _) (List.sublist_cons_self _ _))))
    have m9 := (((m8.nilOwn encV 1).nilOwn encV 1).nilOwn encV 1).nilOwn encV 1
    refine m9.perm ?_
    show ([Th.own encV 1 none ⟨none, 0, 0⟩ [], Th.own encV 1 none ⟨none, 0, 0⟩ [], Th.own encV 1 none ⟨none, 0, 0⟩ [], Th.own encV 1 none ⟨none, 0, 0⟩ []] ++ ([Th.var h6.next _, Th.lst encP 2 (some h4.next) (some ⟨h4.next, 0, none⟩) 1 [p.at_]] ++ (p.ths ++ Rest))).Perm
      ([Th.var h6.next _, Th.lst encP 2 (some h4.next) (some ⟨h4.next, 0, none⟩) 1 [p.at_]] ++ ([Th.own encV 1 none ⟨none, 0, 0⟩ [], Th.own encV 1 none ⟨none, 0, 0⟩ [], Th.own encV 1 none ⟨none, 0, 0⟩ [], Th.own encV 1 none ⟨none, 0, 0⟩ []] ++ ([p].flatMap Pt.ths ++ ([].flatMap Tl.ths ++ Rest))))
    rw [List.flatMap_cons, List.flatMap_nil, List.flatMap_nil, List.append_nil, List.nil_append]
    exact List.perm_append_comm_assoc _ _ _
end Go.Proofs.Ytfkhjbfddeahaaa.kc

/- What was told stands as it was; written over and grown, each list has its own; at last all is told alike. -/
set_option linter.unusedVariables false
set_option linter.unusedSimpArgs false
namespace Go.Proofs.Ytfkhjbfddeahaaa.kc
open Go Go.Cn Go.Proofs Go.Proofs.Ytfkhjbfddeahaaa.vc

/-! ### marks -/
def tagB (i : Int) : List UInt8 := [UInt8.ofNat (toW .u8 i).toNat, UInt8.ofNat (toW .u8 (shrW .i64 i 8)).toNat]
def tagS (i : Int) : ByteArray := ofBytes (tagB i)
def moreS : ByteArray := ⟨#[109, 111, 114, 101]⟩
def markT (i : Int) : ByteArray := strCat (ByteArray.mk (Array.mk [109, 97, 114, 107])) (tagS i)
def moreT (i : Int) : ByteArray := strCat (ByteArray.mk (Array.mk [109, 111, 114, 101])) (tagS i)
def markW (i : Int) : Int × Int × Int := (0, 0, subW .i64 (-1) i)
def moreW (i : Int) : Int × Int × Int := (0, 0, addW .i64 1 i)

theorem toW_u8_range (n : Int) : 0 ≤ toW .u8 n ∧ toW .u8 n < 256 := by
  unfold toW IntKind.wrap
  simp [IntKind.bits, IntKind.signed]
  omega
theorem u8_back {n : Int} (h : 0 ≤ n ∧ n < 256) : (((UInt8.ofNat n.toNat).toNat : Nat) : Int) = n := by
  simp
  omega
theorem tag_cells (i : Int) : [Value.int .u8 (toW .u8 i), Value.int .u8 (toW .u8 (shrW .i64 i 8))] = bcells (tagB i) := by
  have h1 := u8_back (toW_u8_range i)
  have h2 := u8_back (toW_u8_range (shrW .i64 i 8))
  simp only [bcells, tagB, List.map_cons, List.map_nil]
  rw [h1, h2]
theorem readTag {h : Hp} {b : Nat} {g : Option Nat} {i : Int} (hb : Blk h b g [Value.int .u8 (toW .u8 i), Value.int .u8 (toW .u8 (shrW .i64 i 8))]) : readStr (some ⟨b, 0, none⟩) 2 h (tagS i) := by
  refine .inr ⟨rfl, _, hb.cells (o := 0) (n := 2) (Nat.le_of_ble_eq_true rfl), ?_⟩
  rw [List.drop_zero, List.take_of_length_le (Nat.le_of_ble_eq_true rfl), tag_cells, bytesOf_bcells]
  simp [tagS, ofBytes]
theorem tag_size (i : Int) : (tagS i).size = 2 := by simp [tagS, ofBytes, tagB, ByteArray.size]
theorem catOk_tag {s : ByteArray} (hs : s.size = 4) (i : Int) : catOk s (tagS i) := by
  unfold catOk
  rw [hs, tag_size]
  exact Int.le_of_lt (by decide)

theorem rep_set {α : Type} {L : List α} {k : Nat} (hk : k < L.length) (x : α) : (List.replicate k x ++ L.drop k).set k x = List.replicate (k + 1) x ++ L.drop (k + 1) := by
  rw [List.set_append_right _ _ (by simp), List.length_replicate, Nat.sub_self, List.drop_eq_getElem_cons hk, List.set_cons_zero, List.replicate_succ', List.append_assoc]
  rfl
theorem rep_get {α : Type} {m k : Nat} {x y : α} {n : Nat} (hk : k < m + n) : (List.replicate m x ++ List.replicate n y)[k]? = some (if k < m then x else y) := by
  by_cases h : k < m
  · rw [if_pos h, List.getElem?_append_left (by simpa using h), List.getElem?_replicate, if_pos h]
  · rw [if_neg h, List.getElem?_append_right (by simp; omega), List.getElem?_replicate, if_pos (by simp; omega)]

/-- What was told, for itself. -/
structure Te where
  ia : Sv
  ig : Option Nat
  wa : Sv
  wg : Option Nat
  L : List ByteArray
  V : List (Int × Int × Int)
def Te.ths (e : Te) : List Th := [Th.own encS 1 e.ig e.ia e.L, Th.own encW 3 e.wg e.wa e.V]
def Tl.te (t : Tl) : Te := ⟨t.ia, t.ig, t.wa, t.wg, t.L, t.V⟩
theorem te_sub (ts : List Tl) : ((ts.map Tl.te).flatMap Te.ths).Sublist (ts.flatMap Tl.ths) := by
  induction ts with
  | nil => exact List.Sublist.refl _
  | cons t ts ih =>
    rw [List.map_cons, List.flatMap_cons, List.flatMap_cons]
    refine List.Sublist.append ?_ ih
    exact List.Sublist.cons_cons _ (List.Sublist.cons _ (List.Sublist.cons_cons _ (List.Sublist.cons _ (List.Sublist.refl _))))

/-- What was told, and grown. -/
structure Tg where
  ia : Sv
  wa : Sv
  x : Sv
  y : Sv
  g0 : Option Nat
  g1 : Option Nat
  k0 : Option Nat
  k1 : Option Nat
  i : Int
def Tg.ths (e : Tg) : List Th :=
  [Th.gw encS 1 e.g0 e.g1 e.ia (List.replicate e.ia.l (markT e.i)) e.x (List.replicate e.ia.l (markT e.i) ++ List.replicate 40 (moreT e.i)),
   Th.gw encW 3 e.k0 e.k1 e.wa (List.replicate e.wa.l (markW e.i)) e.y (List.replicate e.wa.l (markW e.i) ++ List.replicate 40 (moreW e.i))]

theorem hdr {h : Hp} {g : Option Nat} {s : Sv} {xs : List Sv} (o : OwT encV 1 h g s xs) {i : Nat} {v : Sv} (hv : xs[i]? = some v) : s.a.isSome = true ∧ h.cellsAt (blk s.a) (plusI (off s.a) (i : Int) 1) 1 = some [v.v] := by
  obtain ⟨i1, i2⟩ := o.slT.get encV_w hv (j := 0) (m := 1) (by omega)
  exact ⟨i1, i2.trans rfl⟩

/-- What is read of the world in passing. -/
structure Wrd (h : Hp) (w : Nat) (page : Int) (la : Option Addr) (ll : Nat) (si sj sw su : Sv) (ia wa : List Sv) (gi gw : Option Nat) : Prop where
  b : Blk h w (some w) [.slice la ll ll, .int .i64 page, si.v, sj.v, sw.v, su.v]
  i : OwT encV 1 h gi si ia
  w : OwT encV 1 h gw sw wa
end Go.Proofs.Ytfkhjbfddeahaaa.kc

/- whole. -/
set_option linter.unusedVariables false
set_option linter.unusedSimpArgs false
namespace Go.Proofs.Ytfkhjbfddeahaaa.kc
open Go Go.Cn Go.Proofs Go.Proofs.Ytfkhjbfddeahaaa.vc

set_option maxRecDepth 100000 in
theorem c50 {h : Hp} {w : Nat} {page : Int} {ps : List Pt} {ts : List Tl} {Rest : List Th} {k M N : Nat} (x : WD w page ps ts Rest h) (oks : ∀ p ∈ ps, p.ok k M N) (hp4 : ps.length ≤ 4) (hts : ts.length ≤ 8589934000) (hsm : ∀ t ∈ ts, t.small) (hN : N ≤ 8589934000) :
    C 50 [.pointer (some ⟨w, 0, none⟩)] h fun v h' => v = .bool true := by
  refine SCalls_of_vw fol (pf := pf) (shp := shp50) (f := 50) (fn := Try.f50) (by kernel_rfl) (c := Try.f50.body.getD .skip) (by kernel_rfl) (by kernel_rfl) fun wf => ?_
  rw [vc50]
  obtain ⟨gl, la, ll, gi, gj, gw, gu, si, sj, sw, su, m0⟩ := x
  obtain ⟨X, hX⟩ : ∃ X, X = wths w page (ps.map Pt.at_) (ts.map Tl.ia) (ts.map Tl.ib) (ts.map Tl.wa) (ts.map Tl.wb) gl la ll gi gj gw gu si sj sw su := ⟨_, rfl⟩
  rw [← hX] at m0
  obtain ⟨PP, hPP⟩ : ∃ PP, PP = ps.flatMap Pt.ths := ⟨_, rfl⟩
  rw [← hPP] at m0
  have wrd : ∀ {hh : Hp} {L : List Th}, Many hh L → (∀ t ∈ X, t ∈ L) → Wrd hh w page la ll si sj sw su (ts.map Tl.ia) (ts.map Tl.wa) gi gw := fun {hh L} m hs =>
    ⟨(m.at_ (Th.var w [.slice la ll ll, .int .i64 page, si.v, sj.v, sw.v, su.v]) (hs _ (by rw [hX]; simp [wths]))).1, (m.at_ (Th.own encV 1 gi si (ts.map Tl.ia)) (hs _ (by rw [hX]; simp [wths]))).1, (m.at_ (Th.own encV 1 gw sw (ts.map Tl.wa)) (hs _ (by rw [hX]; simp [wths]))).1⟩
  have r0 := wrd m0 (fun t ht => List.mem_append_left _ ht)
  have oj : OwT encV 1 h gj sj (ts.map Tl.ib) := (m0.at_ (Th.own encV 1 gj sj (ts.map Tl.ib)) (List.mem_append_left _ (by rw [hX]; simp [wths]))).1
  have ou : OwT encV 1 h gu su (ts.map Tl.wb) := (m0.at_ (Th.own encV 1 gu su (ts.map Tl.wb)) (List.mem_append_left _ (by rw [hX]; simp [wths]))).1
  have li : si.l = ts.length := by rw [← r0.i.2, List.length_map]
  have lj : sj.l = ts.length := by rw [← oj.2, List.length_map]
  have lw : sw.l = ts.length := by rw [← r0.w.2, List.length_map]
  have lu : su.l = ts.length := by rw [← ou.2, List.length_map]
  have eqs : ∀ n : Int, eqI n n = true := fun n => eqI_iff.mpr rfl
  have tt : sel true true false = true := rfl
  -- 1: what was told stands as it was
  refine ⟨fun vals m hh => ∃ i : Nat, [.int .i64 i] = vals ∧ i ≤ ts.length ∧ m = ts.length - i ∧ h = hh, ⟨ts.length, 0, rfl, Nat.zero_le _, rfl, rfl⟩, ?_⟩
  rintro n1 m hh ⟨i, e, hi, rfl, rfl⟩
  simp only [List.cons.injEq, Value.int.injEq, true_and, and_true] at e
  subst e
  refine ⟨rfl, rfl, si.a, si.l, si.c, ⟨rfl, r0.b.one rfl⟩, ?_⟩
  by_cases hlt : ltI (i : Int) (natI si.l) = true
  · rw [if_pos hlt]
    have hlt : i < ts.length := by rw [ltI_iff] at hlt; simp only [natI] at hlt; omega
    have hz : ts[i]? = some (ts[i]'hlt) := List.getElem?_eq_getElem _
    generalize ts[i]'hlt = t at hz
    have htm := List.mem_of_getElem? hz
    obtain ⟨i1, i2⟩ := hdr r0.i (v := t.ia) (by rw [List.getElem?_map, hz]; rfl)
    obtain ⟨j1, j2⟩ := hdr oj (v := t.ib) (by rw [List.getElem?_map, hz]; rfl)
    obtain ⟨k1, k2⟩ := hdr r0.w (v := t.wa) (by rw [List.getElem?_map, hz]; rfl)
    obtain ⟨l1, l2⟩ := hdr ou (v := t.wb) (by rw [List.getElem?_map, hz]; rfl)
    have inT : ∀ {y : Th}, y ∈ t.ths → y ∈ X ++ (PP ++ (ts.flatMap Tl.ths ++ Rest)) := fun hy => List.mem_append_right _ (List.mem_append_right _ (List.mem_append_left _ (List.mem_flatMap.mpr ⟨t, htm, hy⟩)))
    have o1 : OwT encS 1 h t.ig t.ia t.L := (m0.at_ (Th.own encS 1 t.ig t.ia t.L) (inT (by simp [Tl.ths]))).1
    have o2 : OwT encS 1 h t.jg t.ib t.L := (m0.at_ (Th.own encS 1 t.jg t.ib t.L) (inT (by simp [Tl.ths]))).1
    have o3 : OwT encW 3 h t.wg t.wa t.V := (m0.at_ (Th.own encW 3 t.wg t.wa t.V) (inT (by simp [Tl.ths]))).1
    have o4 : OwT encW 3 h t.hg t.wb t.V := (m0.at_ (Th.own encW 3 t.hg t.wb t.V) (inT (by simp [Tl.ths]))).1
    obtain ⟨z1, z2⟩ := hsm t htm
    have y1 := o1.2
    have y3 := o3.2
    refine ⟨rfl, rfl, si.a, si.l, si.c, ⟨rfl, r0.b.one rfl⟩, ⟨i1, by simp only [inR]; omega⟩, t.ia.a, t.ia.l, t.ia.c, ⟨rfl, i2⟩, rfl, rfl, sj.a, sj.l, sj.c, ⟨rfl, r0.b.one rfl⟩, ⟨j1, by simp only [inR]; omega⟩, t.ib.a, t.ib.l, t.ib.c, ⟨rfl, j2⟩, ?_⟩
    refine (c43 o1.slT o2.slT (by omega)).mono fun v h' ⟨e, e'⟩ => ⟨_, e, ?_⟩
    have es := e'.symm
    subst es
    simp only [decide_true]
    refine ⟨fun _ => rfl, fun _ => rfl, sw.a, sw.l, sw.c, fun _ => ⟨rfl, r0.b.one rfl⟩, fun _ => ⟨k1, by simp only [inR]; omega⟩, t.wa.a, t.wa.l, t.wa.c, fun _ => ⟨rfl, k2⟩, fun _ => rfl, fun _ => rfl, su.a, su.l, su.c, fun _ => ⟨rfl, r0.b.one rfl⟩, fun _ => ⟨l1, by simp only [inR]; omega⟩, t.wb.a, t.wb.l, t.wb.c, fun _ => ⟨rfl, l2⟩,
      fun v hh => v = .bool true ∧ h = hh, fun _ => (c90 o3.slT o4.slT (by omega)).mono fun v hh ⟨e, e'⟩ => ⟨_, e, rfl, e'.symm⟩, fun hf => absurd hf (by decide), ?_⟩
    rintro b1 hx ⟨e, rfl⟩
    simp only [Value.bool.injEq] at e
    subst e
    rw [if_neg (by decide)]
    exact ⟨ts.length - (i + 1), by simp only [lessN]; omega, i + 1, by rw [addW_small (by omega) (by omega)]; rfl, by omega, rfl, rfl⟩
  rw [if_neg hlt]
  clear hlt hi oj ou
  -- 2: it is written over
  have m1 : Many h ((ts.map Tl.te).flatMap Te.ths ++ (X ++ PP)) := by
    have q := m0.sub (List.Sublist.append (List.Sublist.refl X) (List.Sublist.append (List.Sublist.refl PP) (List.Sublist.append (te_sub ts) (List.nil_sublist Rest))))
    rw [List.append_nil, ← List.append_assoc] at q
    exact q.perm List.perm_append_comm
  have sm1 : ∀ e ∈ ts.map Tl.te, e.ia.l ≤ 65536 ∧ e.wa.l ≤ 8589934500 := by
    intro e he
    obtain ⟨t, ht, rfl⟩ := List.mem_map.mp he
    have o1 : OwT encS 1 h t.ig t.ia t.L := (m1.at_ (Th.own encS 1 t.ig t.ia t.L) (List.mem_append_left _ (List.mem_flatMap.mpr ⟨_, he, by simp [Te.ths, Tl.te]⟩))).1
    have o3 : OwT encW 3 h t.wg t.wa t.V := (m1.at_ (Th.own encW 3 t.wg t.wa t.V) (List.mem_append_left _ (List.mem_flatMap.mpr ⟨_, he, by simp [Te.ths, Tl.te]⟩))).1
    obtain ⟨z1, z2⟩ := hsm t ht
    exact ⟨by show t.ia.l ≤ _; rw [← o1.2]; exact z1, by show t.wa.l ≤ _; rw [← o3.2]; exact z2⟩
  have smA : ∀ v ∈ ts.map Tl.ia, v.l ≤ 65536 := fun v hv => by
    obtain ⟨t, ht, rfl⟩ := List.mem_map.mp hv
    exact (sm1 t.te (List.mem_map_of_mem ht)).1
  have smW : ∀ v ∈ ts.map Tl.wa, v.l ≤ 8589934500 := fun v hv => by
    obtain ⟨t, ht, rfl⟩ := List.mem_map.mp hv
    exact (sm1 t.te (List.mem_map_of_mem ht)).2
  refine ⟨fun vals m hh => ∃ (i : Nat) (es : List Te), [.int .i64 i] = vals ∧ i ≤ ts.length ∧ m = ts.length - i ∧ Wf hh ∧ es.map Te.ia = ts.map Tl.ia ∧ es.map Te.wa = ts.map Tl.wa ∧
      (∀ (j : Nat) e, j < i → es[j]? = some e → e.L = List.replicate e.ia.l (markT j) ∧ e.V = List.replicate e.wa.l (markW j)) ∧ Many hh (es.flatMap Te.ths ++ (X ++ PP)),
    ⟨ts.length, 0, ts.map Tl.te, rfl, Nat.zero_le _, rfl, wf, by rw [List.map_map]; rfl, by rw [List.map_map]; rfl, fun j e hj => absurd hj (by omega), m1⟩, ?_⟩
  clear m1 m0 r0 wf sm1
  rintro n1 m h2 ⟨i, es, e, hi, rfl, wf2, hia, hwa, hdone, m2⟩
  simp only [List.cons.injEq, Value.int.injEq, true_and, and_true] at e
  subst e
  have hel : es.length = ts.length := by have := congrArg List.length hia; simpa using this
  have r2 := wrd m2 (fun t ht => List.mem_append_right _ (List.mem_append_left _ ht))
  refine ⟨rfl, rfl, si.a, si.l, si.c, ⟨rfl, r2.b.one rfl⟩, ?_⟩
  by_cases hlt : ltI (i : Int) (natI si.l) = true
  · rw [if_pos hlt]
    have hlt : i < es.length := by rw [ltI_iff] at hlt; simp only [natI] at hlt; omega
    have hz : es[i]? = some (es[i]'hlt) := List.getElem?_eq_getElem _
    have hsp : es = es.take i ++ es[i]'hlt :: es.drop (i + 1) := by rw [← List.drop_eq_getElem_cons hlt, List.take_append_drop]
    generalize es[i]'hlt = e at hz hsp
    obtain ⟨A, hA⟩ : ∃ A, A = es.take i := ⟨_, rfl⟩
    obtain ⟨B, hB⟩ : ∃ B, B = es.drop (i + 1) := ⟨_, rfl⟩
    rw [← hA, ← hB] at hsp
    have hAl : A.length = i := by rw [hA, List.length_take]; omega
    have ea : (ts.map Tl.ia)[i]? = some e.ia := by rw [← hia, List.getElem?_map, hz]; rfl
    have ew : (ts.map Tl.wa)[i]? = some e.wa := by rw [← hwa, List.getElem?_map, hz]; rfl
    have eal := smA _ (List.mem_of_getElem? ea)
    have ewl := smW _ (List.mem_of_getElem? ew)
    obtain ⟨O, hO⟩ : ∃ O, O = A.flatMap Te.ths ++ (B.flatMap Te.ths ++ (X ++ PP)) := ⟨_, rfl⟩
    have inO : ∀ t ∈ X, t ∈ O := fun t ht => by rw [hO]; exact List.mem_append_right _ (List.mem_append_right _ (List.mem_append_left _ ht))
    have mf : Many h2 (Th.own encS 1 e.ig e.ia e.L :: (Th.own encW 3 e.wg e.wa e.V :: O)) := by
      have q : Many h2 ([] ++ ((A.flatMap Te.ths ++ (e.ths ++ B.flatMap Te.ths)) ++ (X ++ PP))) := by
        have : es.flatMap Te.ths = A.flatMap Te.ths ++ (e.ths ++ B.flatMap Te.ths) := by rw [hsp, List.flatMap_append, List.flatMap_cons]
        rw [← this]; exact m2
      rw [hO]
      exact q.perm (focus_perm _ _ _ _ _)
    have oL : e.L.length = e.ia.l := (Many.own (A := []) mf).2
    have oV : e.V.length = e.wa.l := (Many.own (A := [Th.own encS 1 e.ig e.ia e.L]) mf).2
    have hin : inR (i : Int) si.l := by simp only [inR]; omega
    have hinw : inR (i : Int) sw.l := by simp only [inR]; omega
    refine ⟨fun vals m hh => ∃ k : Nat, [.int .i64 k] = vals ∧ k ≤ e.ia.l ∧ m = e.ia.l - k ∧ Wf hh ∧ Many hh (Th.own encS 1 e.ig e.ia (List.replicate k (markT i) ++ e.L.drop k) :: (Th.own encW 3 e.wg e.wa e.V :: O)), ⟨e.ia.l, 0, rfl, Nat.zero_le _, rfl, wf2, mf⟩, ?_⟩
    rintro n1 m1 h3 ⟨j, ej, hj, rfl, wf3, m3⟩
    simp only [List.cons.injEq, Value.int.injEq, true_and, and_true] at ej
    subst ej
    have r3 := wrd m3 (fun t ht => List.mem_cons_of_mem _ (List.mem_cons_of_mem _ (inO t ht)))
    obtain ⟨i1, i2⟩ := hdr r3.i ea
    refine ⟨rfl, rfl, si.a, si.l, si.c, ⟨rfl, r3.b.one rfl⟩, ⟨i1, hin⟩, e.ia.a, e.ia.l, e.ia.c, ⟨rfl, i2⟩, ?_⟩
    by_cases hlj : ltI (j : Int) (natI e.ia.l) = true
    · rw [if_pos hlj]
      have hlj : j < e.ia.l := by rw [ltI_iff] at hlj; simp only [natI] at hlj; omega
      refine ⟨rfl, rfl, si.a, si.l, si.c, ⟨rfl, r3.b.one rfl⟩, ⟨i1, hin⟩, e.ia.a, e.ia.l, e.ia.c, ⟨rfl, i2⟩, by simp only [nonneg]; omega, ?_⟩
      intro h4 e4
      obtain ⟨b4, k4, n4, wf4⟩ := new_blk wf3 e4
      have m4 := m3.kept k4
      have r4 := wrd m4 (fun t ht => List.mem_cons_of_mem _ (List.mem_cons_of_mem _ (inO t ht)))
      obtain ⟨_, j2⟩ := hdr r4.i ea
      obtain ⟨p1, h5, e5, m5, wf5⟩ := Many.setOwn (A := []) (x := markT i) wf4 encS_w m4 (i := j) (by simp; omega) rfl
      refine ⟨⟨rfl, j2⟩, ⟨rfl, r4.b.one rfl⟩, tagS i, readTag b4, catOk_tag rfl _, ⟨p1, by simp only [inR]; omega⟩, rfl, h5, e5, e.ia.l - (j + 1), by simp only [lessN]; omega, j + 1, by rw [addW_small (by omega) (by omega)]; rfl, by omega, rfl, wf5, ?_⟩
      rw [rep_set (by omega)] at m5
      exact m5
    rw [if_neg hlj]
    have hje : j = e.ia.l := by rw [ltI_iff] at hlj; simp only [natI] at hlj; omega
    subst hje
    rw [List.drop_eq_nil_of_le (by omega), List.append_nil] at m3
    refine ⟨fun vals m hh => ∃ k : Nat, [.int .i64 k] = vals ∧ k ≤ e.wa.l ∧ m = e.wa.l - k ∧ Wf hh ∧ Many hh (Th.own encS 1 e.ig e.ia (List.replicate e.ia.l (markT i)) :: (Th.own encW 3 e.wg e.wa (List.replicate k (markW i) ++ e.V.drop k) :: O)), ⟨e.wa.l, 0, rfl, Nat.zero_le _, rfl, wf3, m3⟩, ?_⟩
    clear m3 r3 i1 i2 wf3 hlj hj
    rintro n2 m2' h3 ⟨j, ej, hj, rfl, wf3, m3⟩
    simp only [List.cons.injEq, Value.int.injEq, true_and, and_true] at ej
    subst ej
    have r3 := wrd m3 (fun t ht => List.mem_cons_of_mem _ (List.mem_cons_of_mem _ (inO t ht)))
    obtain ⟨i1, i2⟩ := hdr r3.w ew
    refine ⟨rfl, rfl, sw.a, sw.l, sw.c, ⟨rfl, r3.b.one rfl⟩, ⟨i1, hinw⟩, e.wa.a, e.wa.l, e.wa.c, ⟨rfl, i2⟩, ?_⟩
    by_cases hlj : ltI (j : Int) (natI e.wa.l) = true
    · rw [if_pos hlj]
      have hlj : j < e.wa.l := by rw [ltI_iff] at hlj; simp only [natI] at hlj; omega
      obtain ⟨p1, h5, e5, m5, wf5⟩ := Many.setOwn (A := [Th.own encS 1 e.ig e.ia _]) (x := markW i) wf3 encW_w m3 (i := j) (by simp; omega) rfl
      refine ⟨rfl, rfl, sw.a, sw.l, sw.c, ⟨rfl, r3.b.one rfl⟩, ⟨i1, hinw⟩, e.wa.a, e.wa.l, e.wa.c, ⟨rfl, i2⟩, ⟨p1, by simp only [inR]; omega⟩, rfl, h5, e5, e.wa.l - (j + 1), by simp only [lessN]; omega, j + 1, by rw [addW_small (by omega) (by omega)]; rfl, by omega, rfl, wf5, ?_⟩
      rw [rep_set (by omega)] at m5
      exact m5
    rw [if_neg hlj]
    have hje : j = e.wa.l := by rw [ltI_iff] at hlj; simp only [natI] at hlj; omega
    subst hje
    rw [List.drop_eq_nil_of_le (by omega), List.append_nil] at m3
    obtain ⟨e', he'⟩ : ∃ e' : Te, e' = ⟨e.ia, e.ig, e.wa, e.wg, List.replicate e.ia.l (markT i), List.replicate e.wa.l (markW i)⟩ := ⟨_, rfl⟩
    refine ⟨ts.length - (i + 1), by simp only [lessN]; omega, i + 1, A ++ e' :: B, by rw [addW_small (by omega) (by omega)]; rfl, by omega, rfl, wf3, ?_, ?_, ?_, ?_⟩
    · rw [← hia, hsp, List.map_append, List.map_append, List.map_cons, List.map_cons]; subst he'; rfl
    · rw [← hwa, hsp, List.map_append, List.map_append, List.map_cons, List.map_cons]; subst he'; rfl
    · intro j f hj hf
      by_cases hji : j = i
      · subst hji
        rw [List.getElem?_append_right (by omega), hAl, Nat.sub_self, List.getElem?_cons_zero] at hf
        simp only [Option.some.injEq] at hf
        subst hf; subst he'
        exact ⟨rfl, rfl⟩
      · rw [List.getElem?_append_left (by omega)] at hf
        refine hdone j f (by omega) ?_
        rw [hsp, List.getElem?_append_left (by omega)]; exact hf
    · have q : Many h3 (e'.ths ++ ([] ++ (A.flatMap Te.ths ++ (B.flatMap Te.ths ++ (X ++ PP))))) := by
        rw [← List.append_assoc, List.append_nil, ← hO]
        subst he'; exact m3
      have q2 := q.perm (focus_perm _ _ _ _ _).symm
      rw [List.flatMap_append, List.flatMap_cons]
      exact q2
  rw [if_neg hlt]
  have hil : i = ts.length := by rw [ltI_iff] at hlt; simp only [natI] at hlt; omega
  subst hil
  clear hlt hi r2
  -- 3: it grows
  have m2' : Many h2 (Th.own encV 1 none ⟨none, 0, 0⟩ [] :: Th.own encV 1 none ⟨none, 0, 0⟩ [] :: (es.flatMap Te.ths ++ (X ++ PP))) := (m2.nilOwn encV 1).nilOwn encV 1
  refine ⟨fun vals m hh => ∃ (i : Nat) (gs : List Tg) (gx gy : Option Nat) (sx sy : Sv), [sx.v, sy.v, .int .i64 i] = vals ∧ i ≤ ts.length ∧ m = ts.length - i ∧ Wf hh ∧ gs.map Tg.ia = (ts.map Tl.ia).take i ∧ gs.map Tg.wa = (ts.map Tl.wa).take i ∧ (∀ (j : Nat) e, gs[j]? = some e → e.i = j) ∧
      Many hh (Th.own encV 1 gx sx (gs.map Tg.x) :: Th.own encV 1 gy sy (gs.map Tg.y) :: (gs.flatMap Tg.ths ++ ((es.drop i).flatMap Te.ths ++ (X ++ PP)))),
    ⟨ts.length, 0, [], none, none, ⟨none, 0, 0⟩, ⟨none, 0, 0⟩, rfl, Nat.zero_le _, rfl, wf2, by simp, by simp, by simp, m2'⟩, ?_⟩
  clear m2 m2' wf2
  rintro a1 l1 c1 a2 l2 c2 n1 m h3 ⟨i, gs, gx, gy, sx, sy, e, hi, rfl, wf3, hga, hgw, hgi, m3⟩
  simp only [List.cons.injEq, Value.slice.injEq, Value.int.injEq, true_and, and_true] at e
  obtain ⟨⟨rfl, rfl, rfl⟩, ⟨rfl, rfl, rfl⟩, rfl⟩ := e
  have hgl : gs.length = i := by have := congrArg List.length hga; simp at this; omega
  have r3 := wrd m3 (fun t ht => List.mem_cons_of_mem _ (List.mem_cons_of_mem _ (List.mem_append_right _ (List.mem_append_right _ (List.mem_append_left _ ht)))))
  have hsx : sx.l = i := by have : (gs.map Tg.x).length = sx.l := (Many.own (A := []) m3).2; rw [← this, List.length_map, hgl]
  have hsy : sy.l = i := by have : (gs.map Tg.y).length = sy.l := (Many.own (A := [Th.own encV 1 gx sx _]) m3).2; rw [← this, List.length_map, hgl]
  refine ⟨rfl, rfl, si.a, si.l, si.c, ⟨rfl, r3.b.one rfl⟩, ?_⟩
  by_cases hlt : ltI (i : Int) (natI si.l) = true
  · rw [if_pos hlt]
    have hlt : i < es.length := by rw [ltI_iff] at hlt; simp only [natI] at hlt; omega
    have hz : es[i]? = some (es[i]'hlt) := List.getElem?_eq_getElem _
    have hdr0 : es.drop i = es[i]'hlt :: es.drop (i + 1) := List.drop_eq_getElem_cons hlt
    generalize es[i]'hlt = e at hz hdr0
    have ea : (ts.map Tl.ia)[i]? = some e.ia := by rw [← hia, List.getElem?_map, hz]; rfl
    have ew : (ts.map Tl.wa)[i]? = some e.wa := by rw [← hwa, List.getElem?_map, hz]; rfl
    have eal := smA _ (List.mem_of_getElem? ea)
    have ewl := smW _ (List.mem_of_getElem? ew)
    obtain ⟨eL, eV⟩ := hdone i e (by omega) hz
    obtain ⟨i1, i2⟩ := hdr r3.i ea
    obtain ⟨j1, j2⟩ := hdr r3.w ew
    obtain ⟨O, hO⟩ : ∃ O, O = Th.own encV 1 gx sx (gs.map Tg.x) :: Th.own encV 1 gy sy (gs.map Tg.y) :: (gs.flatMap Tg.ths ++ ((es.drop (i + 1)).flatMap Te.ths ++ (X ++ PP))) := ⟨_, rfl⟩
    have mf : Many h3 (Th.own encS 1 e.ig e.ia (List.replicate e.ia.l (markT i)) :: (Th.own encW 3 e.wg e.wa (List.replicate e.wa.l (markW i)) :: O)) := by
      have hths : e.ths = [Th.own encS 1 e.ig e.ia (List.replicate e.ia.l (markT i)), Th.own encW 3 e.wg e.wa (List.replicate e.wa.l (markW i))] := by unfold Te.ths; rw [eL, eV]
      rw [hdr0, List.flatMap_cons, hths] at m3
      rw [hO]
      refine m3.perm ?_
      generalize Th.own encV 1 gx sx (gs.map Tg.x) = x1
      generalize Th.own encV 1 gy sy (gs.map Tg.y) = x2
      generalize Th.own encS 1 e.ig e.ia (List.replicate e.ia.l (markT i)) = x3
      generalize Th.own encW 3 e.wg e.wa (List.replicate e.wa.l (markW i)) = x4
      generalize gs.flatMap Tg.ths = G
      generalize (es.drop (i + 1)).flatMap Te.ths = D
      generalize X ++ PP = Y
      classical
      refine List.perm_iff_count.mpr fun a => ?_
      simp only [List.count_append, List.count_cons, List.cons_append, List.nil_append, List.count_nil, List.append_nil]
      omega
    obtain ⟨g0, mg⟩ := Many.startGw (A := []) wf3 mf
    obtain ⟨k0, mg⟩ := Many.startGw (A := [Th.gw encS 1 g0 e.ig e.ia _ e.ia _]) wf3 mg
    refine ⟨rfl, rfl, si.a, si.l, si.c, ⟨rfl, r3.b.one rfl⟩, ⟨i1, by simp only [inR]; omega⟩, e.ia.a, e.ia.l, e.ia.c, ⟨rfl, i2⟩, rfl, rfl, sw.a, sw.l, sw.c, ⟨rfl, r3.b.one rfl⟩, ⟨j1, by simp only [inR]; omega⟩, e.wa.a, e.wa.l, e.wa.c, ⟨rfl, j2⟩, ?_⟩
    refine ⟨fun vals m hh => ∃ (j : Nat) (x y : Sv) (g1 k1 : Option Nat), [x.v, y.v, .int .i64 j] = vals ∧ j ≤ 40 ∧ m = 40 - j ∧ Wf hh ∧ x.l = e.ia.l + j ∧ y.l = e.wa.l + j ∧
        Many hh (Th.gw encS 1 g0 g1 e.ia (List.replicate e.ia.l (markT i)) x (List.replicate e.ia.l (markT i) ++ List.replicate j (moreT i)) :: (Th.gw encW 3 k0 k1 e.wa (List.replicate e.wa.l (markW i)) y (List.replicate e.wa.l (markW i) ++ List.replicate j (moreW i)) :: O)),
      ⟨40, 0, e.ia, e.wa, e.ig, e.wg, rfl, by omega, rfl, wf3, rfl, rfl, by simpa using mg⟩, ?_⟩
    clear mg mf m3 r3 i1 i2 j1 j2 wf3
    rintro a8 l8 c8 a9 l9 c9 nj m1 h4 ⟨j, x, y, g1, k1, ej, hj, rfl, wf4, hxl, hyl, m4⟩
    simp only [List.cons.injEq, Value.slice.injEq, Value.int.injEq, true_and, and_true] at ej
    obtain ⟨⟨rfl, rfl, rfl⟩, ⟨rfl, rfl, rfl⟩, rfl⟩ := ej
    by_cases hlj : ltI (j : Int) 40 = true
    · rw [if_pos hlj]
      have hlj : j < 40 := by rw [ltI_iff] at hlj; omega
      refine ⟨by simp only [nonneg]; omega, ?_⟩
      intro h5 e5
      obtain ⟨b5, k5, n5, wf5⟩ := new_blk wf4 e5
      refine ⟨tagS i, readTag b5, catOk_tag rfl _, ?_⟩
      intro h6 e6
      obtain ⟨x', g1', h7, e7, m7, hx7, wf7⟩ := Many.pushGw (A := []) wf5 (m4.kept k5) (v := moreT i) app40 e6 rfl rfl (room (by omega) (by omega))
      refine ⟨x'.a, x'.l, x'.c, h7, e7, ?_⟩
      intro h8 e8
      obtain ⟨y', k1', h9, e9, m9, hy9, wf9⟩ := Many.pushGw (A := [Th.gw encS 1 g0 g1' e.ia _ x' _]) wf7 m7 (v := moreW i) app51 e8 rfl rfl (room (by omega) (by omega))
      refine ⟨y'.a, y'.l, y'.c, h9, e9, 40 - (j + 1), by simp only [lessN]; omega, j + 1, x', y', g1', k1', by rw [addW_small (by omega) (by omega)]; rfl, by omega, rfl, wf9, by omega, by omega, ?_⟩
      rw [List.append_assoc, List.append_assoc, ← List.replicate_succ', ← List.replicate_succ'] at m9
      exact m9
    rw [if_neg hlj]
    have hje : j = 40 := by rw [ltI_iff] at hlj; omega
    subst hje
    intro h5 e5
    rw [hO] at m4
    obtain ⟨sx', gx', h6, e6, m6, hsx', wf6⟩ := Many.push (A := [Th.gw encS 1 g0 g1 e.ia _ x _, Th.gw encW 3 k0 k1 e.wa _ y _]) (x := x) wf4 m4 app41 e5 rfl rfl (room (by omega) (by omega))
    refine ⟨sx'.a, sx'.l, sx'.c, h6, e6, ?_⟩
    intro h7 e7
    obtain ⟨sy', gy', h8, e8, m8, hsy', wf8⟩ := Many.push (A := [Th.gw encS 1 g0 g1 e.ia _ x _, Th.gw encW 3 k0 k1 e.wa _ y _, Th.own encV 1 gx' sx' _]) (x := y) wf6 m6 app124 e7 rfl rfl (room (by omega) (by omega))
    obtain ⟨f, hf⟩ : ∃ f : Tg, f = ⟨e.ia, e.wa, x, y, g0, g1, k0, k1, i⟩ := ⟨_, rfl⟩
    refine ⟨sy'.a, sy'.l, sy'.c, h8, e8, ts.length - (i + 1), by simp only [lessN]; omega, i + 1, gs ++ [f], gx', gy', sx', sy', by rw [addW_small (by omega) (by omega)]; rfl, by omega, rfl, wf8, ?_, ?_, ?_, ?_⟩
    · rw [List.map_append, hga, List.take_add_one, ea]; subst hf; rfl
    · rw [List.map_append, hgw, List.take_add_one, ew]; subst hf; rfl
    · intro j' f' hf'
      by_cases hji : j' < i
      · rw [List.getElem?_append_left (by omega)] at hf'; exact hgi j' f' hf'
      · rw [List.getElem?_append_right (by omega)] at hf'
        have : j' - gs.length = 0 := by
          have := (List.getElem?_eq_some_iff.mp hf').1
          simp at this; omega
        rw [this, List.getElem?_cons_zero] at hf'
        simp only [Option.some.injEq] at hf'
        subst hf'; subst hf
        have : j' = i := by omega
        subst this; rfl
    · have hths : f.ths = [Th.gw encS 1 g0 g1 e.ia (List.replicate e.ia.l (markT i)) x (List.replicate e.ia.l (markT i) ++ List.replicate 40 (moreT i)), Th.gw encW 3 k0 k1 e.wa (List.replicate e.wa.l (markW i)) y (List.replicate e.wa.l (markW i) ++ List.replicate 40 (moreW i))] := by subst hf; rfl
      have hfx : f.x = x := by subst hf; rfl
      have hfy : f.y = y := by subst hf; rfl
      rw [List.map_append, List.map_append, List.map_cons, List.map_cons, List.map_nil, List.map_nil, hfx, hfy, List.flatMap_append, List.flatMap_cons, List.flatMap_nil, List.append_nil, hths]
      have m8' : Many h8 ([Th.gw encS 1 g0 g1 e.ia (List.replicate e.ia.l (markT i)) x (List.replicate e.ia.l (markT i) ++ List.replicate 40 (moreT i)), Th.gw encW 3 k0 k1 e.wa (List.replicate e.wa.l (markW i)) y (List.replicate e.wa.l (markW i) ++ List.replicate 40 (moreW i))] ++
          (Th.own encV 1 gx' sx' (gs.map Tg.x ++ [x]) :: Th.own encV 1 gy' sy' (gs.map Tg.y ++ [y]) :: (gs.flatMap Tg.ths ++ ((es.drop (i + 1)).flatMap Te.ths ++ (X ++ PP))))) := m8
      refine m8'.perm ?_
      generalize Th.own encV 1 gx' sx' (gs.map Tg.x ++ [x]) = x1
      generalize Th.own encV 1 gy' sy' (gs.map Tg.y ++ [y]) = x2
      generalize Th.gw encS 1 g0 g1 e.ia (List.replicate e.ia.l (markT i)) x (List.replicate e.ia.l (markT i) ++ List.replicate 40 (moreT i)) = x3
      generalize Th.gw encW 3 k0 k1 e.wa (List.replicate e.wa.l (markW i)) y (List.replicate e.wa.l (markW i) ++ List.replicate 40 (moreW i)) = x4
      generalize gs.flatMap Tg.ths = G
      generalize (es.drop (i + 1)).flatMap Te.ths = D
      generalize X ++ PP = Y
      classical
      refine List.perm_iff_count.mpr fun a => ?_
      simp only [List.count_append, List.count_cons, List.cons_append, List.nil_append, List.count_nil, List.append_nil]
      omega
  rw [if_neg hlt]
  have hil : i = ts.length := by rw [ltI_iff] at hlt; simp only [natI] at hlt; omega
  subst hil
  rw [List.take_of_length_le (by simp)] at hga hgw
  have m4 : Many h3 (Th.own encV 1 gx sx (gs.map Tg.x) :: Th.own encV 1 gy sy (gs.map Tg.y) :: (gs.flatMap Tg.ths ++ (X ++ PP))) := m3.sub (List.Sublist.cons_cons _ (List.Sublist.cons_cons _ (List.Sublist.append (List.Sublist.refl _) (List.sublist_append_right _ _))))
  clear hlt hi r3 m3 hdone hia hwa hel
  have inX : ∀ t ∈ X, t ∈ Th.own encV 1 gx sx (gs.map Tg.x) :: Th.own encV 1 gy sy (gs.map Tg.y) :: (gs.flatMap Tg.ths ++ (X ++ PP)) := fun t ht => List.mem_cons_of_mem _ (List.mem_cons_of_mem _ (List.mem_append_right _ (List.mem_append_left _ ht)))
  have tr : ∀ {u v : Hp}, Kept h3 u → Kept u v → Kept h3 v := fun a b => a.trans wf3 b fun _ _ hf => hf
  -- 4: each list has its own
  refine ⟨fun vals m hh => ∃ i : Nat, [.int .i64 i] = vals ∧ i ≤ ts.length ∧ m = ts.length - i ∧ Wf hh ∧ Kept h3 hh, ⟨ts.length, 0, rfl, Nat.zero_le _, rfl, wf3, Keep.refl _ _⟩, ?_⟩
  rintro n1 m h4 ⟨i, e, hi, rfl, wf4, k4⟩
  simp only [List.cons.injEq, Value.int.injEq, true_and, and_true] at e
  subst e
  have r4 := wrd (m4.kept k4) inX
  refine ⟨rfl, rfl, si.a, si.l, si.c, ⟨rfl, r4.b.one rfl⟩, ?_⟩
  by_cases hlt : ltI (i : Int) (natI si.l) = true
  · rw [if_pos hlt]
    have hlt : i < gs.length := by rw [ltI_iff] at hlt; simp only [natI] at hlt; omega
    have hz : gs[i]? = some (gs[i]'hlt) := List.getElem?_eq_getElem _
    generalize gs[i]'hlt = e at hz
    have hei := hgi i e hz
    have ea : (ts.map Tl.ia)[i]? = some e.ia := by rw [← hga, List.getElem?_map, hz]; rfl
    have ew : (ts.map Tl.wa)[i]? = some e.wa := by rw [← hgw, List.getElem?_map, hz]; rfl
    have ex : (gs.map Tg.x)[i]? = some e.x := by rw [List.getElem?_map, hz]; rfl
    have ey : (gs.map Tg.y)[i]? = some e.y := by rw [List.getElem?_map, hz]; rfl
    have eal := smA _ (List.mem_of_getElem? ea)
    have ewl := smW _ (List.mem_of_getElem? ew)
    have hmem := List.mem_of_getElem? hz
    have gwx : ∀ {u : Hp}, Kept h3 u → Gw encS 1 u e.g0 e.g1 e.ia (List.replicate e.ia.l (markT e.i)) e.x (List.replicate e.ia.l (markT e.i) ++ List.replicate 40 (moreT e.i)) := fun kk =>
      ((m4.kept kk).at_ (Th.gw encS 1 e.g0 e.g1 e.ia (List.replicate e.ia.l (markT e.i)) e.x (List.replicate e.ia.l (markT e.i) ++ List.replicate 40 (moreT e.i))) (List.mem_cons_of_mem _ (List.mem_cons_of_mem _ (List.mem_append_left _ (List.mem_flatMap.mpr ⟨e, hmem, by simp [Tg.ths]⟩))))).1
    have gwy : ∀ {u : Hp}, Kept h3 u → Gw encW 3 u e.k0 e.k1 e.wa (List.replicate e.wa.l (markW e.i)) e.y (List.replicate e.wa.l (markW e.i) ++ List.replicate 40 (moreW e.i)) := fun kk =>
      ((m4.kept kk).at_ (Th.gw encW 3 e.k0 e.k1 e.wa (List.replicate e.wa.l (markW e.i)) e.y (List.replicate e.wa.l (markW e.i) ++ List.replicate 40 (moreW e.i))) (List.mem_cons_of_mem _ (List.mem_cons_of_mem _ (List.mem_append_left _ (List.mem_flatMap.mpr ⟨e, hmem, by simp [Tg.ths]⟩))))).1
    have ox : ∀ {u : Hp}, Kept h3 u → OwT encV 1 u gx sx (gs.map Tg.x) := fun kk => Many.own (A := []) (m4.kept kk)
    have oy : ∀ {u : Hp}, Kept h3 u → OwT encV 1 u gy sy (gs.map Tg.y) := fun kk => Many.own (A := [Th.own encV 1 gx sx (gs.map Tg.x)]) (m4.kept kk)
    have rr : ∀ {u : Hp}, Kept h3 u → Wrd u w page la ll si sj sw su (ts.map Tl.ia) (ts.map Tl.wa) gi gw := fun kk => wrd (m4.kept kk) inX
    have hxl : e.x.l = e.ia.l + 40 := by have := (gwx (Keep.refl _ _)).cur.len; simp at this; omega
    have hyl : e.y.l = e.wa.l + 40 := by have := (gwy (Keep.refl _ _)).cur.len; simp at this; omega
    rw [hei] at gwx gwy
    have hinX : inR (i : Int) sx.l := by simp only [inR]; omega
    have hinY : inR (i : Int) sy.l := by simp only [inR]; omega
    have hinI : inR (i : Int) si.l := by simp only [inR]; omega
    have hinW : inR (i : Int) sw.l := by simp only [inR]; omega
    refine ⟨fun vals m hh => ∃ j : Nat, [.int .i64 j] = vals ∧ j ≤ e.x.l ∧ m = e.x.l - j ∧ Wf hh ∧ Kept h3 hh, ⟨e.x.l, 0, rfl, Nat.zero_le _, rfl, wf4, k4⟩, ?_⟩
    rintro nj m1 h5 ⟨j, ej, hj, rfl, wf5, k5⟩
    simp only [List.cons.injEq, Value.int.injEq, true_and, and_true] at ej
    subst ej
    obtain ⟨x1, x2⟩ := hdr (ox k5) ex
    refine ⟨⟨x1, hinX⟩, e.x.a, e.x.l, e.x.c, ⟨rfl, x2⟩, ?_⟩
    by_cases hlj : ltI (j : Int) (natI e.x.l) = true
    · rw [if_pos hlj]
      have hlj : j < e.x.l := by rw [ltI_iff] at hlj; simp only [natI] at hlj; omega
      obtain ⟨i1, i2⟩ := hdr (rr k5).i ea
      have base : ∀ {u : Hp}, Kept h3 u → ltI (j : Int) (natI e.ia.l) = true → e.ia.a.isSome = true ∧ u.cellsAt (blk e.ia.a) (plusI (off e.ia.a) (j : Int) 1) 1 = some [.string (markT i)] := fun kk hg => by
        have hg : j < e.ia.l := by rw [ltI_iff] at hg; simp only [natI] at hg; omega
        obtain ⟨p1, p2⟩ := (gwx kk).base.get encS_w (x := markT i) (i := j) (by rw [List.getElem?_replicate, if_pos hg]) (j := 0) (m := 1) (by omega)
        exact ⟨p1, p2.trans rfl⟩
      have cur : ∀ {u : Hp}, Kept h3 u → ¬ j < e.ia.l → e.x.a.isSome = true ∧ u.cellsAt (blk e.x.a) (plusI (off e.x.a) (j : Int) 1) 1 = some [.string (moreT i)] := fun kk hg => by
        obtain ⟨p1, p2⟩ := (gwx kk).cur.get encS_w (x := moreT i) (i := j) (by rw [rep_get (by omega), if_neg hg]) (j := 0) (m := 1) (by omega)
        exact ⟨p1, p2.trans rfl⟩
      have ge_of : ∀ {b : Bool}, andB (geI (j : Int) (natI e.ia.l)) b = true → ¬ j < e.ia.l := fun {b} hg => by
        have : geI (j : Int) (natI e.ia.l) = true := by cases h : geI (j : Int) (natI e.ia.l) with | true => rfl | false => rw [h] at hg; simp [andB] at hg
        rw [geI_iff] at this; simp only [natI] at this; omega
      refine ⟨rfl, rfl, si.a, si.l, si.c, ⟨rfl, (rr k5).b.one rfl⟩, ⟨i1, hinI⟩, e.ia.a, e.ia.l, e.ia.c, ⟨rfl, i2⟩, fun _ => rfl, fun _ => rfl, si.a, si.l, si.c, fun _ => ⟨rfl, (rr k5).b.one rfl⟩, fun _ => ⟨i1, hinI⟩, e.ia.a, e.ia.l, e.ia.c, fun _ => ⟨rfl, i2⟩, fun hg => ⟨(base k5 hg).1, by rw [ltI_iff] at hg; simp only [natI] at hg; simp only [inR]; omega⟩,
        markT i, fun hg => ⟨rfl, (base k5 hg).2⟩, fun _ => by simp only [nonneg]; omega, fun v hh => Wf hh ∧ Kept h3 hh ∧ (ltI (j : Int) (natI e.ia.l) = true → ∃ b g, v = .slice (some ⟨b, 0, none⟩) 2 2 ∧ Blk hh b g [Value.int .u8 (toW .u8 i), Value.int .u8 (toW .u8 (shrW .i64 i 8))]), fun _ h' e' => ?_, fun hf => ⟨none, 0, 0, wf5, k5, fun ht => by rw [hf] at ht; simp at ht⟩, ?_⟩
      · obtain ⟨b', k', _, wf'⟩ := new_blk wf5 e'
        exact ⟨_, _, _, rfl, wf', tr k5 k', fun _ => ⟨_, _, rfl, b'⟩⟩
      rintro a12 l12 c12 h6 ⟨wf6, k6, ht6⟩
      obtain ⟨q1, q2⟩ := hdr (rr k6).i ea
      obtain ⟨y1, y2⟩ := hdr (ox k6) ex
      refine ⟨fun hg => ⟨rfl, (base k6 hg).2⟩, fun _ => ⟨rfl, q2⟩, fun _ => ⟨rfl, (rr k6).b.one rfl⟩, tagS i, fun hg => ?_, fun _ => catOk_tag rfl _, fun _ => rfl, fun _ => rfl, si.a, si.l, si.c, fun _ => ⟨rfl, (rr k6).b.one rfl⟩, fun _ => ⟨q1, hinI⟩, e.ia.a, e.ia.l, e.ia.c, fun _ => ⟨rfl, q2⟩, fun _ => ⟨y1, hinX⟩, e.x.a, e.x.l, e.x.c, fun _ => ⟨rfl, y2⟩, fun hg => ⟨(cur k6 (ge_of hg)).1, by simp only [inR]; omega⟩,
        moreT i, fun hg => ⟨rfl, (cur k6 (ge_of hg)).2⟩, fun _ => by simp only [nonneg]; omega,
        fun v hh => Wf hh ∧ Kept h3 hh ∧ (andB (geI (j : Int) (natI e.ia.l)) (notB (sel (ltI (j : Int) (natI e.ia.l)) (notB (strEq (markT i) (strCat (ByteArray.mk (Array.mk [109, 97, 114, 107])) (tagS i)))) false)) = true → ∃ b g, v = .slice (some ⟨b, 0, none⟩) 2 2 ∧ Blk hh b g [Value.int .u8 (toW .u8 i), Value.int .u8 (toW .u8 (shrW .i64 i 8))]), fun _ h' e' => ?_, fun hf => ⟨none, 0, 0, wf6, k6, fun ht => by rw [hf] at ht; simp at ht⟩, ?_⟩
      · obtain ⟨b, g, eb, hb⟩ := ht6 hg
        simp only [Value.slice.injEq] at eb
        obtain ⟨rfl, rfl, rfl⟩ := eb
        exact readTag hb
      · obtain ⟨b', k', _, wf'⟩ := new_blk wf6 e'
        exact ⟨_, _, _, rfl, wf', tr k6 k', fun _ => ⟨_, _, rfl, b'⟩⟩
      rintro a17 l17 c17 h7 ⟨wf7, k7, ht7⟩
      obtain ⟨_, z2⟩ := hdr (ox k7) ex
      refine ⟨fun hg => ⟨rfl, (cur k7 (ge_of hg)).2⟩, fun _ => ⟨rfl, z2⟩, tagS i, fun hg => ?_, fun _ => catOk_tag rfl _, ?_⟩
      · obtain ⟨b, g, eb, hb⟩ := ht7 hg
        simp only [Value.slice.injEq] at eb
        obtain ⟨rfl, rfl, rfl⟩ := eb
        exact readTag hb
      have q3 : strEq (markT i) (strCat (ByteArray.mk (Array.mk [109, 97, 114, 107])) (tagS i)) = true := strEq_self _
      have q4 : strEq (moreT i) (strCat (ByteArray.mk (Array.mk [109, 111, 114, 101])) (tagS i)) = true := strEq_self _
      rw [q3, q4]
      rw [if_neg (by cases ltI (j : Int) (natI e.ia.l) <;> cases geI (j : Int) (natI e.ia.l) <;> decide)]
      exact ⟨e.x.l - (j + 1), by simp only [lessN]; omega, j + 1, by rw [addW_small (by omega) (by omega)]; rfl, by omega, rfl, wf7, k7⟩
    rw [if_neg hlj]
    clear hlj x1 x2 hj
    refine ⟨fun vals m hh => ∃ j : Nat, [.int .i64 j] = vals ∧ j ≤ e.y.l ∧ m = e.y.l - j ∧ Wf hh ∧ Kept h3 hh, ⟨e.y.l, 0, rfl, Nat.zero_le _, rfl, wf5, k5⟩, ?_⟩
    clear wf5 k5
    rintro nj m2 h5 ⟨j, ej, hj, rfl, wf5, k5⟩
    simp only [List.cons.injEq, Value.int.injEq, true_and, and_true] at ej
    subst ej
    obtain ⟨x1, x2⟩ := hdr (oy k5) ey
    refine ⟨⟨x1, hinY⟩, e.y.a, e.y.l, e.y.c, ⟨rfl, x2⟩, ?_⟩
    by_cases hlj : ltI (j : Int) (natI e.y.l) = true
    · rw [if_pos hlj]
      have hlj : j < e.y.l := by rw [ltI_iff] at hlj; simp only [natI] at hlj; omega
      obtain ⟨i1, i2⟩ := hdr (rr k5).w ew
      have base : ltI (j : Int) (natI e.wa.l) = true → e.wa.a.isSome = true ∧ h5.cellsAt (blk e.wa.a) (plusN (plusI (off e.wa.a) (j : Int) 3) 2) 1 = some [.int .i64 (subW .i64 (-1) i)] := fun hg => by
        have hg : j < e.wa.l := by rw [ltI_iff] at hg; simp only [natI] at hg; omega
        obtain ⟨p1, p2⟩ := (gwy k5).base.get encW_w (x := markW i) (i := j) (by rw [List.getElem?_replicate, if_pos hg]) (j := 2) (m := 1) (by omega)
        exact ⟨p1, p2.trans rfl⟩
      have cur : ¬ j < e.wa.l → e.y.a.isSome = true ∧ h5.cellsAt (blk e.y.a) (plusN (plusI (off e.y.a) (j : Int) 3) 2) 1 = some [.int .i64 (addW .i64 1 i)] := fun hg => by
        obtain ⟨p1, p2⟩ := (gwy k5).cur.get encW_w (x := moreW i) (i := j) (by rw [rep_get (by omega), if_neg hg]) (j := 2) (m := 1) (by omega)
        exact ⟨p1, p2.trans rfl⟩
      have ge_of : ∀ {b : Bool}, andB (geI (j : Int) (natI e.wa.l)) b = true → ¬ j < e.wa.l := fun {b} hg => by
        have : geI (j : Int) (natI e.wa.l) = true := by cases h : geI (j : Int) (natI e.wa.l) with | true => rfl | false => rw [h] at hg; simp [andB] at hg
        rw [geI_iff] at this; simp only [natI] at this; omega
      refine ⟨rfl, rfl, sw.a, sw.l, sw.c, ⟨rfl, (rr k5).b.one rfl⟩, ⟨i1, hinW⟩, e.wa.a, e.wa.l, e.wa.c, ⟨rfl, i2⟩, fun _ => rfl, fun _ => rfl, sw.a, sw.l, sw.c, fun _ => ⟨rfl, (rr k5).b.one rfl⟩, fun _ => ⟨i1, hinW⟩, e.wa.a, e.wa.l, e.wa.c, fun _ => ⟨rfl, i2⟩, fun hg => ⟨(base hg).1, by rw [ltI_iff] at hg; simp only [natI] at hg; simp only [inR]; omega⟩, fun _ => rfl,
        subW .i64 (-1) i, fun hg => ⟨rfl, (base hg).2⟩, fun _ => rfl, fun _ => rfl, sw.a, sw.l, sw.c, fun _ => ⟨rfl, (rr k5).b.one rfl⟩, fun _ => ⟨i1, hinW⟩, e.wa.a, e.wa.l, e.wa.c, fun _ => ⟨rfl, i2⟩, fun _ => ⟨x1, hinY⟩, e.y.a, e.y.l, e.y.c, fun _ => ⟨rfl, x2⟩, fun hg => ⟨(cur (ge_of hg)).1, by simp only [inR]; omega⟩, fun _ => rfl, addW .i64 1 i, fun hg => ⟨rfl, (cur (ge_of hg)).2⟩, ?_⟩
      have nes : ∀ n : Int, neI n n = false := fun n => by rw [Bool.eq_false_iff, Ne, neI_iff]; simp
      rw [nes, nes]
      rw [if_neg (by cases ltI (j : Int) (natI e.wa.l) <;> cases geI (j : Int) (natI e.wa.l) <;> decide)]
      exact ⟨e.y.l - (j + 1), by simp only [lessN]; omega, j + 1, by rw [addW_small (by omega) (by omega)]; rfl, by omega, rfl, wf5, k5⟩
    rw [if_neg hlj]
    exact ⟨ts.length - (i + 1), by simp only [lessN]; omega, i + 1, by rw [addW_small (by omega) (by omega)]; rfl, by omega, rfl, wf5, k5⟩
  rw [if_neg hlt]
  clear hlt hi r4
  -- 5: all is told alike
  have sl : ∀ {u : Hp}, Kept h3 u → SlT encP 2 u gl la ll ll (ps.map Pt.at_) := fun kk => by
    have := ((m4.kept kk).at_ (Th.lst encP 2 gl la ll (ps.map Pt.at_)) (inX _ (by rw [hX]; simp [wths]))).1
    exact ⟨this.1.sl, this.2⟩
  have hll : ps.length = ll := by have := (sl (Keep.refl _ _)).len; simpa using this
  have bb : ∀ {u : Hp}, Kept h3 u → Blk u w (some w) [.slice la ll ll, .int .i64 page, si.v, sj.v, sw.v, su.v] := fun kk => (wrd (m4.kept kk) inX).b
  refine ⟨fun vals m hh => ∃ i : Nat, [.int .i64 i] = vals ∧ i ≤ ll ∧ m = ll - i ∧ Wf hh ∧ Kept h3 hh, ⟨ll, 0, rfl, Nat.zero_le _, rfl, wf4, k4⟩, ?_⟩
  clear wf4 k4
  rintro n1 m h4 ⟨i, e, hi, rfl, wf4, k4⟩
  simp only [List.cons.injEq, Value.int.injEq, true_and, and_true] at e
  subst e
  refine ⟨rfl, rfl, la, ll, ll, ⟨rfl, (bb k4).one rfl⟩, ?_⟩
  by_cases hlt : ltI (i : Int) (natI ll) = true
  rotate_left
  · rw [if_neg hlt]
  rw [if_pos hlt]
  have hlt : i < ps.length := by rw [ltI_iff] at hlt; simp only [natI] at hlt; omega
  have hpi : ps[i]? = some (ps[i]'hlt) := List.getElem?_eq_getElem _
  have hsplit : ps = ps.take i ++ ps[i]'hlt :: ps.drop (i + 1) := by rw [← List.drop_eq_getElem_cons hlt, List.take_append_drop]
  generalize ps[i]'hlt = p at hpi hsplit
  have ok := oks p (List.mem_of_getElem? hpi)
  have hpm : (ps.map Pt.at_)[i]? = some p.at_ := by rw [List.getElem?_map, hpi]; rfl
  have hin : inR (i : Int) ll := by simp only [inR]; omega
  have g1 : ∀ {u : Hp}, Kept h3 u → la.isSome = true ∧ u.cellsAt (blk la) (plusI (off la) (i : Int) 2) 1 = some [.pointer (some ⟨p.d, 0, none⟩)] := fun kk => by
    obtain ⟨i1, i2⟩ := (sl kk).get encP_w hpm (j := 0) (m := 1) (by omega)
    exact ⟨i1, i2.trans rfl⟩
  have g2 : ∀ {u : Hp}, Kept h3 u → u.cellsAt (blk la) (plusN (plusI (off la) (i : Int) 2) 1) 1 = some [.pointer (some ⟨p.r, 0, none⟩)] := fun kk => by
    obtain ⟨i1, i2⟩ := (sl kk).get encP_w hpm (j := 1) (m := 1) (by omega)
    exact i2.trans rfl
  have hla : la.isSome = true := (g1 k4).1
  -- the pair, at any later time
  obtain ⟨O, mp⟩ : ∃ O, Many h3 (p.ths ++ O) := by
    have q : Many h3 (PP ++ (Th.own encV 1 gx sx (gs.map Tg.x) :: Th.own encV 1 gy sy (gs.map Tg.y) :: (gs.flatMap Tg.ths ++ X))) := by
      refine m4.perm ?_
      generalize Th.own encV 1 gx sx (gs.map Tg.x) = x1
      generalize Th.own encV 1 gy sy (gs.map Tg.y) = x2
      generalize gs.flatMap Tg.ths = G
      classical
      refine List.perm_iff_count.mpr fun a => ?_
      simp only [List.count_append, List.count_cons, List.cons_append, List.nil_append, List.count_nil, List.append_nil]
      omega
    rw [hPP, hsplit, List.flatMap_append, List.flatMap_cons] at q
    have q2 : Many h3 ([] ++ (((ps.take i).flatMap Pt.ths ++ (p.ths ++ (ps.drop (i + 1)).flatMap Pt.ths)) ++ (Th.own encV 1 gx sx (gs.map Tg.x) :: Th.own encV 1 gy sy (gs.map Tg.y) :: (gs.flatMap Tg.ths ++ X)))) := q
    exact ⟨_, q2.perm (focus_perm _ _ _ _ _)⟩
  obtain ⟨eb, es', ed, em, eo, ewt, ear, el, et, ewr, egr, esy⟩ := ok.al.eqs
  obtain ⟨gd, gw', ga, R, Q, dd, w', a', hQ, mr⟩ := Pt.toR mp ok.hQ
  have hW := ok.df.waits
  have hM := ok.df.ok.m1
  have hdM := ok.df.ok.durL
  have hsM := ok.df.ok.seenL
  have xd : ∀ {u : Hp}, Kept h3 u → DAt u p.d p.W p.F p.P := fun kk => Pt.atP (mp.kept kk)
  have xr : ∀ {u : Hp}, Kept h3 u → RD p.r p.D (Th.disk p.d p.W p.F p.P :: O) u := fun kk => (Pt.toR mp ok.hQ).kept kk
  have br : ∀ {u : Hp}, Kept h3 u → Blk u p.r (some p.r) (rcells p.D dd w' a') := fun kk => Many.var (A := []) (mr.kept kk)
  have od : ∀ {u : Hp}, Kept h3 u → OwT encS 1 u gd dd p.D.dur := fun kk => Many.own (A := [Th.var p.r _]) (mr.kept kk)
  have oa : p.D.arms.length = a'.l := (Many.own (A := [Th.var p.r _, Th.own encS 1 gd dd p.D.dur, Th.own Wt.encR 3 gw' w' p.D.waits]) mr).2
  have hsz : ∀ {u : Hp}, Kept h3 u → C 71 [.pointer (some ⟨p.r, 0, none⟩)] u fun v h' => v = .int .i64 (natI p.P.seen.length) ∧ h' = u := fun kk =>
    (c71r (xr kk) (by omega)).mono fun v h' ⟨e, e'⟩ => ⟨by rw [e, ok.cb.coh.size, es']; rfl, e'⟩
  have hbb : Blk h4 p.r (some p.r) [.int .i64 p.P.bytes, .int .i64 p.P.most, dd.v, w'.v, a'.v, .bool (!p.P.off), .int .i64 p.P.life, .int .i64 p.P.taken, .int .i64 p.P.wr, .int .i64 p.P.gr, .int .i64 p.P.sy] := by
    rw [eb, em, eo, el, et, ewr, egr, esy]; exact br k4
  refine ⟨rfl, rfl, la, ll, ll, ⟨rfl, (bb k4).one rfl⟩, ⟨hla, hin⟩, rfl, some ⟨p.d, 0, none⟩, ⟨rfl, (g1 k4).2⟩, rfl, rfl, la, ll, ll, ⟨rfl, (bb k4).one rfl⟩, ⟨hla, hin⟩, rfl, some ⟨p.r, 0, none⟩, ⟨rfl, g2 k4⟩, ?_⟩
  refine (c42 (xd k4) ok.pf hbb (by omega) (fun hh kk => hsz (tr k4 kk))).wf fun v h5 wf5 _ ⟨e5, k45⟩ => ⟨_, e5, ?_⟩
  have k5 := tr k4 k45
  refine ⟨fun _ => rfl, fun _ => rfl, la, ll, ll, fun _ => ⟨rfl, (bb k5).one rfl⟩, fun _ => ⟨hla, hin⟩, fun _ => rfl, some ⟨p.d, 0, none⟩, fun _ => ⟨rfl, (g1 k5).2⟩, fun _ => rfl, fun _ => rfl, la, ll, ll, fun _ => ⟨rfl, (bb k5).one rfl⟩, fun _ => ⟨hla, hin⟩, fun _ => rfl, some ⟨p.r, 0, none⟩, fun _ => ⟨rfl, g2 k5⟩, fun _ => rfl, fun _ => rfl, dd.a, dd.l, dd.c, fun _ => ⟨rfl, (br k5).one rfl⟩,
    fun v hh => (∃ s g, v = Sv.v s ∧ OwT encS 1 hh g s p.P.dur) ∧ Wf hh ∧ Kept h3 hh, fun _ => ?_, fun hf => absurd hf (by decide), ?_⟩
  · exact ((xd k5).image ok.pf).wf fun v hh wfh _ ⟨s', g', e, o, _, k'⟩ => ⟨_, _, _, e, ⟨s', g', rfl, o⟩, wfh, tr k5 k'⟩
  rintro a6 l6 c6 h6 ⟨⟨s6, g6, e6, o6⟩, wf6, k6⟩
  simp only [Value.slice.injEq] at e6
  obtain ⟨rfl, rfl, rfl⟩ := e6
  refine ⟨fun _ => ⟨rfl, (br k6).one rfl⟩, fun _ => ⟨rfl, g2 k6⟩, fun _ => ⟨rfl, (bb k6).one rfl⟩, fun v hh => v = .bool true ∧ h6 = hh, fun _ => ?_, fun hf => absurd hf (by decide), ?_⟩
  · refine (c43 o6.slT (od k6).slT (by rw [← o6.2, ed]; omega)).mono fun v hh ⟨e, e'⟩ => ⟨_, e, ?_, e'.symm⟩
    rw [ed]; simp
  rintro b7 h7 ⟨e7, rfl⟩
  simp only [Value.bool.injEq] at e7
  subst e7
  rw [if_neg (by decide)]
  refine ⟨fun vals m hh => ∃ j : Nat, [.int .i64 j] = vals ∧ j ≤ p.P.seen.length ∧ m = p.P.seen.length - j ∧ Wf hh ∧ Kept h3 hh, ⟨p.P.seen.length, 0, rfl, Nat.zero_le _, rfl, wf6, k6⟩, ?_⟩
  clear o6 wf6 k6 wf5 k45 k5 hbb
  rintro nj m1 h5 ⟨j, ej, hj, rfl, wf5, k5⟩
  simp only [List.cons.injEq, Value.int.injEq, true_and, and_true] at ej
  subst ej
  have hsM' : p.P.seen.length ≤ 65536 := by rw [es']; omega
  refine ⟨rfl, rfl, la, ll, ll, ⟨rfl, (bb k5).one rfl⟩, ⟨hla, hin⟩, rfl, some ⟨p.r, 0, none⟩, ⟨rfl, g2 k5⟩, (hsz k5).mono fun v h6 ⟨e6, e6'⟩ => ⟨_, e6, ?_⟩⟩
  have ess := e6'.symm
  subst ess
  by_cases hlj : ltI (j : Int) (natI p.P.seen.length) = true
  · rw [if_pos hlj]
    have hlj : j < p.P.seen.length := by rw [ltI_iff] at hlj; simp only [natI] at hlj; omega
    have hju : toW .u32 (j : Int) = j := toW_u32 (by omega) (by omega)
    rw [hju]
    refine ⟨rfl, rfl, la, ll, ll, ⟨rfl, (bb k5).one rfl⟩, ⟨hla, hin⟩, rfl, some ⟨p.d, 0, none⟩, ⟨rfl, (g1 k5).2⟩, ((xd k5).read ok.pf (no := (j : Int)) ⟨by omega, by omega⟩).mono fun v h7 ⟨e7, e7'⟩ => ⟨_, _, e7, ?_⟩⟩
    have ess := e7'.symm
    subst ess
    refine ⟨rfl, rfl, la, ll, ll, ⟨rfl, (bb k5).one rfl⟩, ⟨hla, hin⟩, rfl, some ⟨p.r, 0, none⟩, ⟨rfl, g2 k5⟩, (c75 (xr k5) ok.df (by omega) ok.cb.coh (no := (j : Int)) ⟨by omega, by omega⟩).wf fun v h8 wf8 _ ⟨e8, k58⟩ => ⟨_, _, e8, ?_⟩⟩
    have er : readD p.P (j : Int) = readD p.D (j : Int) := by
      have a : bareD p.P = bareD p.D := ok.al
      rw [← readD_bare p.P, a, readD_bare]
    have nes : ∀ n : Int, neI n n = false := fun n => by rw [Bool.eq_false_iff, Ne, neI_iff]; simp
    rw [er, strEq_self, nes, if_neg (by decide)]
    exact ⟨p.P.seen.length - (j + 1), by simp only [lessN]; omega, j + 1, by rw [addW_small (by omega) (by omega)]; rfl, by omega, rfl, wf8, tr k5 k58⟩
  · rw [if_neg hlj]
    exact ⟨ll - (i + 1), by simp only [lessN]; omega, i + 1, by rw [addW_small (by omega) (by omega)]; rfl, by omega, rfl, wf5, k5⟩
end Go.Proofs.Ytfkhjbfddeahaaa.kc

/- DiskPlays. -/
set_option linter.unusedVariables false
set_option linter.unusedSimpArgs false
namespace Go.Proofs.Ytfkhjbfddeahaaa.kc
open Go Go.Cn Go.Proofs Go.Proofs.Ytfkhjbfddeahaaa.vc

/-- A step, with the arms and fates that it hands in. -/
structure Sa where
  s : Stp
  Ls : List Ar
  F : List Int
structure Sa.good (a : Sa) (h : Hp) (N : Nat) : Prop where
  ok : a.s.ok
  al : SlT Ar.enc4 4 h none a.s.aa a.s.al a.s.ac a.Ls
  af : ∀ z ∈ a.Ls, SlT encF 1 h none z.fa z.fl z.fc z.fates
  ag : ∀ z ∈ a.Ls, z.given
  an : a.Ls.length ≤ N
  afn : ∀ z ∈ a.Ls, z.fates.length ≤ N
  fs : SlT encF 1 h none a.s.fa a.s.fl a.s.fc a.F
  fr : ∀ f ∈ a.F, 0 ≤ f ∧ f ≤ 255
  fn : a.F.length ≤ N
def Sa.ths (a : Sa) : List Th := [Th.args a.s.aa a.s.al a.s.ac a.Ls, Th.arg encF 1 a.s.fa a.s.fl a.s.fc a.F]

theorem Many.sas {h : Hp} {L : List Th} {N : Nat} (m : Many h L) : ∀ {zs : List Sa}, (∀ a ∈ zs, a.good h N) → Many h (zs.flatMap Sa.ths ++ L)
  | [], _ => m
  | a :: zs, hg => by
    have ih := Many.sas m (zs := zs) fun b hb => hg b (List.mem_cons_of_mem _ hb)
    have ga := hg a (List.mem_cons_self ..)
    rw [List.flatMap_cons, List.append_assoc]
    exact (ih.arg ga.fs).addRo (t := Th.args a.s.aa a.s.al a.s.ac a.Ls) ⟨ga.al, ga.af⟩ (Th.args_stable _ _ _ _) (fun _ hf => hf) (fun _ hf => hf)

set_option maxRecDepth 100000 in
theorem c13 {h : Hp} (x : Scn) {imgs : List (Int × Int × Int)} (sI : SlT encD 3 h none x.ia x.il x.ic imgs) (hi : imgs.length ≤ 1048576) {zs : List Sa} (sS : SlT Stp.enc 9 h none x.sa x.sl x.sc (zs.map Sa.s)) (hs : zs.length ≤ 1048576) (hg : ∀ a ∈ zs, a.good h 1048576) :
    C 13 [.agg x.enc.toArray] h fun v h' => v = .bool true := by
  refine SCalls_of_vw fol (pf := pf) (shp := shp13) (f := 13) (fn := Try.f13) (by kernel_rfl) (c := Try.f13.body.getD .skip) (by kernel_rfl) (by kernel_rfl) fun wf => ?_
  show vBody Try.prog C pf shp13 Try.f13 (Try.f13.body.getD .skip) [.agg #[.int .i64 x.page, .int .i64 x.most, .slice x.ia x.il x.ic, .bool x.wh, .slice x.sa x.sl x.sc]] h _
  rw [vc13]
  have mA : Many h (zs.flatMap Sa.ths ++ [Th.arg Stp.enc 9 x.sa x.sl x.sc (zs.map Sa.s), Th.arg encD 3 x.ia x.il x.ic imgs]) := (((Many.nil h).arg sI).arg sS).sas hg
  have hil : imgs.length = x.il := sI.len
  have hsl : zs.length = x.sl := by have := sS.len; simpa using this
  have goods : ∀ a ∈ zs, a.good h 1048576 := hg
  intro h1 e1
  obtain ⟨m1, wf1, n1⟩ := mA.newVar wf e1
  generalize h.next = q at m1 n1
  obtain ⟨V, hV⟩ : ∃ V, V = Th.var q [.int .i64 x.page, .int .i64 x.most, .slice x.ia x.il x.ic, .bool x.wh, .slice x.sa x.sl x.sc] := ⟨_, rfl⟩
  rw [← hV] at m1
  obtain ⟨R0, hR0⟩ : ∃ R0, R0 = V :: (zs.flatMap Sa.ths ++ [Th.arg Stp.enc 9 x.sa x.sl x.sc (zs.map Sa.s), Th.arg encD 3 x.ia x.il x.ic imgs]) := ⟨_, rfl⟩
  rw [← hR0] at m1
  clear mA e1 n1 wf
  have bx : ∀ {hh : Hp} {L : List Th}, Many hh L → (∀ t ∈ R0, t ∈ L) → Blk hh q (some q) [.int .i64 x.page, .int .i64 x.most, .slice x.ia x.il x.ic, .bool x.wh, .slice x.sa x.sl x.sc] := fun {hh L} m hs => by
    have := (m.at_ V (hs _ (by rw [hR0]; exact List.mem_cons_self ..))).1
    rw [hV] at this; exact this
  have sx : ∀ {hh : Hp} {L : List Th}, Many hh L → (∀ t ∈ R0, t ∈ L) → SlT Stp.enc 9 hh none x.sa x.sl x.sc (zs.map Sa.s) := fun {hh L} m hs =>
    (m.at_ (Th.arg Stp.enc 9 x.sa x.sl x.sc (zs.map Sa.s)) (hs _ (by rw [hR0]; simp))).1
  have b1 := bx m1 (fun _ ht => ht)
  refine ⟨x.page, x.most, x.ia, x.il, x.ic, x.wh, x.sa, x.sl, x.sc, ⟨rfl, (b1.cells (o := 0) (n := 5) (Nat.le_of_ble_eq_true rfl)).trans rfl⟩, ?_⟩
  refine (c47 h1 x (by omega)).wf fun v h2 wf2 _ ⟨hv, k2⟩ => ?_
  have m2 := m1.kept k2
  rcases hv with rfl | ⟨rfl, _, _⟩
  · refine ⟨true, rfl, ?_⟩
    rw [if_pos rfl]
    exact (c25 h2).mono fun v h' ⟨e, _⟩ => ⟨true, e, rfl⟩
  refine ⟨false, rfl, ?_⟩
  rw [if_neg (by simp)]
  have b2 := bx m2 (fun _ ht => ht)
  refine ⟨x.page, x.most, x.ia, x.il, x.ic, x.wh, x.sa, x.sl, x.sc, ⟨rfl, (b2.cells (o := 0) (n := 5) (Nat.le_of_ble_eq_true rfl)).trans rfl⟩, ?_⟩
  refine (c48 m2 x (imgs := imgs) (by rw [hR0]; simp) hi).wf fun v h3 wf3 _ ⟨_, hq3⟩ => ?_
  have nb : notB (notB true) = true := rfl
  have lives3 : ∀ {K : Value → Hp → Prop}, (∀ h', Wf h' → Kept h3 h' → K (.bool true) h') → C 25 [] h3 fun v h' => ∃ b, v = .bool b ∧ K (.bool b) h' := fun {K} hK =>
    (c25 h3).wf fun v h' wf' _ ⟨e, k⟩ => ⟨true, e, hK h' wf' k⟩
  rcases hq3 with ⟨rfl, _⟩ | ⟨w, p, k, M, rfl, ok, W3⟩
  · refine ⟨none, true, rfl, fun v hh => v = .bool true, fun _ => lives3 (K := fun v hh => v = .bool true) fun h' _ _ => rfl, fun hf => absurd hf (by decide), ?_⟩
    rintro b1' h4 e
    simp only [Value.bool.injEq] at e
    subst e
    rw [if_neg (by decide), if_pos (show isN none = true from rfl)]
  refine ⟨some ⟨w, 0, none⟩, true, rfl, fun v hh => v = .bool true ∧ Wf hh ∧ Kept h3 hh, fun _ => lives3 (K := fun v hh => v = .bool true ∧ Wf hh ∧ Kept h3 hh) fun h' wf' k' => ⟨rfl, wf', k'⟩, fun hf => absurd hf (by decide), ?_⟩
  rintro b1' h4 ⟨e, wf4, k4⟩
  simp only [Value.bool.injEq] at e
  subst e
  rw [if_neg (by decide), if_neg (by simp [isN])]
  have W4 : WD w (pageN x.page) [p] [] R0 h4 := by
    obtain ⟨gl, la, ll, gi, gj, gw, gu, si, sj, sw, su, m⟩ := W3
    exact ⟨gl, la, ll, gi, gj, gw, gu, si, sj, sw, su, m.kept k4⟩
  refine ⟨fun vals m hh => ∃ (i : Nat) (ps : List Pt) (ts : List Tl), [.int .i64 i] = vals ∧ i ≤ x.sl ∧ m = x.sl - i ∧ Wf hh ∧ WD w (pageN x.page) ps ts R0 hh ∧ (∀ p ∈ ps, p.ok k M i) ∧ 1 ≤ ps.length ∧ ps.length ≤ 4 ∧ ts.length ≤ i ∧ ∀ t ∈ ts, t.small,
    ⟨x.sl, 0, [p], [], rfl, Nat.zero_le _, rfl, wf4, W4, by simpa using ok, by simp, by simp, by simp, by simp⟩, ?_⟩
  clear W3 W4 wf4 k4 wf3 lives3 ok m1 m2 b1 b2
  rintro ni m h5 ⟨i, ps, ts, e, hi', rfl, wf5, W5, oks, hp1, hp4, hts, hsm⟩
  simp only [List.cons.injEq, Value.int.injEq, true_and, and_true] at e
  subst e
  obtain ⟨gl, la, ll, gi, gj, gw, gu, si, sj, sw, su, m5⟩ := id W5
  have inR0 : ∀ t ∈ R0, t ∈ wths w (pageN x.page) (ps.map Pt.at_) (ts.map Tl.ia) (ts.map Tl.ib) (ts.map Tl.wa) (ts.map Tl.wb) gl la ll gi gj gw gu si sj sw su ++ (ps.flatMap Pt.ths ++ (ts.flatMap Tl.ths ++ R0)) := fun t ht => List.mem_append_right _ (List.mem_append_right _ (List.mem_append_right _ ht))
  have b5 := bx m5 inR0
  refine ⟨rfl, x.sa, x.sl, x.sc, ⟨rfl, b5.one rfl⟩, ?_⟩
  by_cases hlt : ltI (i : Int) (natI x.sl) = true
  · rw [if_pos hlt]
    have hlt : i < zs.length := by rw [ltI_iff] at hlt; simp only [natI] at hlt; omega
    have hz : zs[i]? = some (zs[i]'hlt) := List.getElem?_eq_getElem _
    generalize zs[i]'hlt = a at hz
    have ham := List.mem_of_getElem? hz
    have ga := goods a ham
    obtain ⟨i1, i2⟩ := (sx m5 inR0).get Stp.w (x := a.s) (i := i) (by rw [List.getElem?_map, hz]; rfl) (j := 0) (m := 9) (by omega)
    have inA : ∀ t ∈ a.ths, t ∈ R0 := fun t ht => by rw [hR0]; exact List.mem_cons_of_mem _ (List.mem_append_left _ (List.mem_flatMap.mpr ⟨a, ham, ht⟩))
    have hpN := pageN_le x.page
    refine ⟨rfl, x.sa, x.sl, x.sc, ⟨rfl, b5.one rfl⟩, ⟨i1, by simp only [inR]; omega⟩, a.s.dO, a.s.wh, a.s.no, a.s.n, a.s.len, a.s.b, a.s.st, a.s.aa, a.s.al, a.s.ac, a.s.fa, a.s.fl, a.s.fc, ⟨rfl, i2.trans rfl⟩, ?_⟩
    refine (c49 W5 oks hp1 hp4 hts hsm (by omega) (by omega) (by omega) ga.ok (Ls := a.Ls) (inA _ (by simp [Sa.ths])) ga.ag ga.an ga.afn (F := a.F) (inA _ (by simp [Sa.ths])) ga.fr ga.fn).mono fun v h6 ⟨e6, wf6, ps', ts', W6, oks', q1, q2, q3, q4⟩ => ⟨_, e6, ?_⟩
    rw [if_neg (by decide)]
    exact ⟨x.sl - (i + 1), by simp only [lessN]; omega, i + 1, ps', ts', by rw [addW_small (by omega) (by omega)]; rfl, by omega, rfl, wf6, W6, oks', q1, q2, q3, q4⟩
  · rw [if_neg hlt]
    exact (c50 W5 oks hp4 (by omega) hsm (by omega)).mono fun v h6 e6 => ⟨true, e6, rfl⟩

/-! ### a scene's arguments -/
theorem cells44 : Try.prog.cellsOf 44 = 3 := by kernel_rfl
theorem cells77 : Try.prog.cellsOf 77 = 4 := by kernel_rfl

theorem fine_data {h : Hp} {N n : Nat} {cs : List Value} (hg : Fine Try.prog h N n 44 cs) : ∃ x : Int × Int × Int, cs = encD x := by
  obtain ⟨m', rfl, d0, q0, rfl, f0, d1, q1, rfl, f1, d2, q2, rfl, f2, rfl⟩ := hg.struct Try.underlying44
  obtain ⟨len, rfl, _⟩ := f0.int Try.underlying3
  obtain ⟨b, rfl, _⟩ := f1.int Try.underlying5
  obtain ⟨st, rfl, _⟩ := f2.int Try.underlying5
  exact ⟨(len, b, st), rfl⟩

def ArG (h : Hp) (N : Nat) (z : Ar) : Prop := z.given ∧ SlT encF 1 h none z.fa z.fl z.fc z.fates ∧ z.fates.length ≤ N
theorem fine_arm {h : Hp} {N n : Nat} {cs : List Value} (hg : Fine Try.prog h N n 77 cs) : ∃ z : {z : Ar // ArG h N z}, cs = z.1.enc4 := by
  obtain ⟨m', rfl, d0, q0, rfl, f0, d1, q1, rfl, f1, d2, q2, rfl, f2, d3, q3, rfl, f3, rfl⟩ := hg.struct Try.underlying77
  obtain ⟨on, rfl, _⟩ := f0.int Try.underlying58
  obtain ⟨nth, rfl, hn⟩ := f1.int Try.underlying3
  obtain ⟨pw, rfl⟩ := f2.bool Try.underlying4
  obtain ⟨fa, fl, fc, F, rfl, hc, sF, hF⟩ := fine_fates f3
  simp only [Lit.wf, Bool.and_eq_true, decide_eq_true_eq] at hn
  have e4 : IntKind.i64.max = 9223372036854775807 := rfl
  rw [e4] at hn
  exact ⟨⟨⟨on, nth, pw, fa, fl, fc, 0, F⟩, ⟨by simp only; omega, hF⟩, sF, by have := sF.len; have := sF.sl.le; simp only; omega⟩, rfl⟩

set_option maxRecDepth 100000 in
theorem fine_sa {h : Hp} {N n : Nat} {cs : List Value} (hg : Fine Try.prog h N n 47 cs) : ∃ a : {a : Sa // a.good h N}, cs = a.1.s.enc := by
  obtain ⟨m, rfl, c0, r0, rfl, g0, c1, r1, rfl, g1, c2, r2, rfl, g2, c3, r3, rfl, g3, c4, r4, rfl, g4, c5, r5, rfl, g5, c6, r6, rfl, g6, rfl⟩ := hg.struct Try.underlying47
  obtain ⟨dO, rfl, _⟩ := g0.int Try.underlying3
  obtain ⟨wh, rfl, _⟩ := g1.int Try.underlying3
  obtain ⟨no, rfl, hno⟩ := g2.int Try.underlying42
  obtain ⟨n, rfl, hn⟩ := g3.int Try.underlying3
  obtain ⟨m', rfl, d0, q0, rfl, f0, d1, q1, rfl, f1, d2, q2, rfl, f2, rfl⟩ := g4.struct Try.underlying44
  obtain ⟨len, rfl, _⟩ := f0.int Try.underlying3
  obtain ⟨b, rfl, _⟩ := f1.int Try.underlying5
  obtain ⟨st, rfl, _⟩ := f2.int Try.underlying5
  obtain ⟨aa, al, ac, As, rfl, hac, sA⟩ := g5.slice (enc := fun z : {z : Ar // ArG h N z} => z.1.enc4) Try.underlying45 cells77 fun _ _ => fine_arm
  obtain ⟨fa, fl, fc, F, rfl, hfc, sF, hF⟩ := fine_fates g6
  simp only [Lit.wf, Bool.and_eq_true, decide_eq_true_eq] at hno hn
  have e1 : IntKind.u32.min = 0 := rfl
  have e2 : IntKind.u32.max = 4294967295 := rfl
  have e3 : IntKind.i64.min = -9223372036854775808 := rfl
  have e4 : IntKind.i64.max = 9223372036854775807 := rfl
  rw [e1, e2] at hno
  rw [e3, e4] at hn
  have sA' : SlT Ar.enc4 4 h none aa al ac (As.map Subtype.val) := SlT.map sA
  have hAs : ∀ z ∈ As.map Subtype.val, ArG h N z := fun z hz => by
    obtain ⟨y, _, rfl⟩ := List.mem_map.mp hz
    exact y.2
  refine ⟨⟨⟨⟨dO, wh, no, n, len, b, st, aa, al, ac, fa, fl, fc⟩, As.map Subtype.val, F⟩, ⟨⟨hno.1, by simp only; omega, hn.1, by simp only; omega⟩, sA', fun z hz => (hAs z hz).2.1, fun z hz => (hAs z hz).1, ?_, fun z hz => (hAs z hz).2.2, sF, hF, ?_⟩⟩, rfl⟩
  · have := sA'.len; have := sA'.sl.le; simp only; omega
  · have := sF.len; have := sF.sl.le; simp only; omega

theorem fine_scene {h : Hp} {N n : Nat} {cs : List Value} (hg : Fine Try.prog h N n 81 cs) : ∃ (x : Scn) (imgs : List (Int × Int × Int)) (zs : List Sa), cs = x.enc ∧ SlT encD 3 h none x.ia x.il x.ic imgs ∧ imgs.length ≤ N ∧ SlT Stp.enc 9 h none x.sa x.sl x.sc (zs.map Sa.s) ∧ zs.length ≤ N ∧ ∀ a ∈ zs, a.good h N := by
  obtain ⟨m, rfl, c0, r0, rfl, g0, c1, r1, rfl, g1, c2, r2, rfl, g2, c3, r3, rfl, g3, c4, r4, rfl, g4, rfl⟩ := hg.struct Try.underlying81
  obtain ⟨page, rfl, _⟩ := g0.int Try.underlying3
  obtain ⟨most, rfl, _⟩ := g1.int Try.underlying3
  obtain ⟨ia, il, ic, imgs, rfl, hic, sI⟩ := g2.slice (enc := encD) Try.underlying79 cells44 fun _ _ => fine_data
  obtain ⟨wh, rfl⟩ := g3.bool Try.underlying4
  obtain ⟨sa, sl, sc, As, rfl, hsc, sS⟩ := g4.slice (enc := fun a : {a : Sa // a.good h N} => a.1.s.enc) Try.underlying35 cells47 fun _ _ => fine_sa
  refine ⟨⟨page, most, ia, il, ic, wh, sa, sl, sc⟩, imgs, As.map Subtype.val, rfl, sI, ?_, ?_, ?_, fun a ha => ?_⟩
  · have := sI.len; have := sI.sl.le; omega
  · rw [List.map_map]; exact SlT.map (f := fun a : {a : Sa // a.good h N} => a.1.s) (enc := Stp.enc) sS
  · have := sS.len; have := sS.sl.le; rw [List.length_map]; omega
  · obtain ⟨y, _, rfl⟩ := List.mem_map.mp ha
    exact y.2
end Go.Proofs.Ytfkhjbfddeahaaa.kc
