/- Joined: DiskK, DiskL, DiskM, DiskN, DiskO, DiskP, DiskZ1, DiskAA, DiskAB, DiskAC, DiskAD, DiskAE, DiskAF, DiskU, DiskT, DiskX1, DiskAG, DiskAJ. -/
import Derived.Test.YtfkhjbfddeahaaaPj11
/- Contracts: Crash, Wake, Read, Take, the numbers; Waits, Image, Fork. -/
set_option linter.unusedVariables false
namespace Go.Proofs.Ytfkhjbfddeahaaa.kc
open Go Go.Cn Go.Proofs Go.Proofs.Ytfkhjbfddeahaaa.vc

section
variable {h : Hp} {d g0 : Nat} {gs gd gw ga : Option Nat} {R : Nat → Prop} {D : Dk} {s dd w a : Sv}

/-- Crash. -/
def crashD (D : Dk) (F : List Int) : Dk × Int := if D.off = true then (D, 7) else (goesD D F, 0)

theorem c32 {k M N : Nat} (x : DX h d g0 gs gd gw ga R D s dd w a) (fit : D.fit k M N) (hN : N ≤ 8589934592) {G : Option Nat} {fa : Option Addr} {fl fc : Nat} {F : List Int} (sf : SlT encF 1 h G fa fl fc F) (hG : ∀ y, G = some y → ¬ own g0 gs gd gw ga y ∧ y < h.next) (hfl : F.length ≤ 8589934592) :
    C 32 [.pointer (some ⟨d, 0, none⟩), .slice fa fl fc] h fun v h' => v = .int .i64 (crashD D F).2 ∧ Nx h d g0 gs gd gw ga R (crashD D F).1 h' := by
  refine SCalls_of_vw fol (pf := pf) (shp := shp32) (f := 32) (fn := Try.f32) (by kernel_rfl) (c := Try.f32.body.getD .skip) (by kernel_rfl) (by kernel_rfl) fun wf => ?_
  rw [vc32]
  refine (c62 x fit.ok.pos).mono fun v h' ⟨e, e'⟩ => ⟨_, e, ?_⟩
  subst e'
  by_cases ho : D.off = true
  · rw [if_pos ho, if_pos (by rfl)]
    have : crashD D F = (D, 7) := by unfold crashD; rw [if_pos ho]
    rw [this]; exact ⟨rfl, x.nx⟩
  rw [if_neg ho, if_neg (by rw [neI_iff]; simp)]
  have : crashD D F = (goesD D F, 0) := by unfold crashD; rw [if_neg ho]
  rw [this]
  exact (c63 x fit.ok sf hG (by rw [← sf.len]; exact hfl) (by have := fit.waits; omega)).mono fun v h2 ⟨e, nx⟩ => ⟨e, rfl, nx⟩

/-- Wake. -/
def wakeD (D : Dk) : Dk × Int := if D.off = true then ({ D with off := false, life := addW .i64 D.life 1 }, 0) else (D, 40)

theorem c36 (x : DX h d g0 gs gd gw ga R D s dd w a) (hb : 0 < D.bytes) : C 36 [.pointer (some ⟨d, 0, none⟩)] h fun v h' => v = .int .i64 (wakeD D).2 ∧ Nx h d g0 gs gd gw ga R (wakeD D).1 h' := by
  refine SCalls_of_vw fol (pf := pf) (shp := shp36) (f := 36) (fn := Try.f36) (by kernel_rfl) (c := Try.f36.body.getD .skip) (by kernel_rfl) (by kernel_rfl) fun wf => ?_
  rw [vc36]
  refine (c58 x hb).mono fun v h' ⟨e, e'⟩ => ⟨_, e, ?_⟩
  subst e'
  rw [if_neg (by simp [notB])]
  refine ⟨rfl, rfl, D.off, ⟨rfl, x.blk.one rfl⟩, ?_⟩
  by_cases ho : D.off = true
  rotate_left
  · rw [if_pos (by rw [notB_iff]; simpa using ho)]
    have : wakeD D = (D, 40) := by unfold wakeD; rw [if_neg ho]
    rw [this]; exact ⟨rfl, x.nx⟩
  rw [if_neg (by rw [ho]; simp [notB])]
  have : wakeD D = ({ D with off := false, life := addW .i64 D.life 1 }, 0) := by unfold wakeD; rw [if_pos ho]
  rw [this]
  obtain ⟨h1, e1, x1, k1, wf1⟩ := x.put wf (o := 5) (v := .bool false) (D' := { D with off := false }) (by omega) rfl rfl rfl rfl rfl rfl
  obtain ⟨h2, e2, x2, k2, wf2⟩ := x1.put wf1 (o := 8) (v := .int .i64 (addW .i64 D.life 1)) (D' := { D with off := false, life := addW .i64 D.life 1 }) (by omega) rfl rfl rfl rfl rfl rfl
  exact ⟨rfl, rfl, rfl, h1, e1, rfl, rfl, D.life, ⟨rfl, x1.blk.one rfl⟩, rfl, rfl, rfl, h2, e2, rfl, x.nx_own x2 (k1.trans wf k2 fun _ _ hy => hy)⟩

/-- Read. -/
def readD (D : Dk) (no : Int) : ByteArray × Int :=
  if D.off = true then (⟨#[]⟩, 7) else match D.seen[no.toNat]? with | some x => (x, 0) | none => (⟨#[]⟩, 41)

theorem c55 {k M : Nat} (x : DX h d g0 gs gd gw ga R D s dd w a) (ok : D.ok k M) {no : Int} (hno : 0 ≤ no ∧ no < 4294967296) :
    C 55 [.pointer (some ⟨d, 0, none⟩), .int .u32 no] h fun v h' => v = .tuple #[.string (readD D no).1, .int .i64 (readD D no).2] ∧ h' = h := by
  refine SCalls_of_vw fol (pf := pf) (shp := shp55) (f := 55) (fn := Try.f55) (by kernel_rfl) (c := Try.f55.body.getD .skip) (by kernel_rfl) (by kernel_rfl) fun wf => ?_
  rw [vc55]
  have hsl := x.seen.2
  have hm1 := ok.m1
  have hsM := ok.seenL
  refine (c62 x ok.pos).mono fun v h' ⟨e, e'⟩ => ⟨_, e, ?_⟩
  subst e'
  by_cases ho : D.off = true
  · rw [if_pos ho, if_pos (by rfl)]
    have : readD D no = (⟨#[]⟩, 7) := by unfold readD; rw [if_pos ho]
    rw [this]; exact ⟨rfl, rfl⟩
  rw [if_neg ho, if_neg (by rw [neI_iff]; simp)]
  refine ⟨rfl, rfl, (c92 x.blk (o := 0) rfl hno (by omega)).mono fun v h' ⟨e, e'⟩ => ⟨_, e, ?_⟩⟩
  subst e'
  by_cases hb : no < s.l
  rotate_left
  · rw [decide_eq_false hb, if_pos (by rfl)]
    have : readD D no = (⟨#[]⟩, 41) := by unfold readD; rw [if_neg ho, List.getElem?_eq_none (by omega)]
    rw [this]; exact ⟨rfl, rfl⟩
  rw [decide_eq_true hb, if_neg (by simp [notB])]
  have hz : D.seen[no.toNat]? = some (D.seen[no.toNat]'(by omega)) := List.getElem?_eq_getElem _
  generalize D.seen[no.toNat]'(by omega) = z at hz
  have : readD D no = (z, 0) := by unfold readD; rw [if_neg ho, hz]
  rw [this]
  obtain ⟨i1, i2⟩ := x.seen.slT.get encS_w hz (j := 0) (m := 1) (by omega)
  exact ⟨rfl, rfl, rfl, s.a, s.l, s.c, ⟨rfl, x.blk.one rfl⟩, ⟨i1, by simp only [inR]; omega⟩, z, ⟨rfl, i2.trans rfl⟩, rfl, rfl⟩

/-- Take. -/
def takeD (D : Dk) : Dk × Int × Int := if D.off = true then (D, 0, 7) else ({ D with taken := addW .i64 D.taken 1 }, addW .i64 D.taken 1, 0)

theorem c85 (x : DX h d g0 gs gd gw ga R D s dd w a) (hb : 0 < D.bytes) :
    C 85 [.pointer (some ⟨d, 0, none⟩)] h fun v h' => v = .tuple #[.int .i64 (takeD D).2.1, .int .i64 (takeD D).2.2] ∧ Nx h d g0 gs gd gw ga R (takeD D).1 h' := by
  refine SCalls_of_vw fol (pf := pf) (shp := shp85) (f := 85) (fn := Try.f85) (by kernel_rfl) (c := Try.f85.body.getD .skip) (by kernel_rfl) (by kernel_rfl) fun wf => ?_
  rw [vc85]
  refine (c62 x hb).mono fun v h' ⟨e, e'⟩ => ⟨_, e, ?_⟩
  subst e'
  by_cases ho : D.off = true
  · rw [if_pos ho, if_pos (by rfl)]
    have : takeD D = (D, 0, 7) := by unfold takeD; rw [if_pos ho]
    rw [this]; exact ⟨rfl, x.nx⟩
  rw [if_neg ho, if_neg (by rw [neI_iff]; simp)]
  have : takeD D = ({ D with taken := addW .i64 D.taken 1 }, addW .i64 D.taken 1, 0) := by unfold takeD; rw [if_neg ho]
  rw [this]
  obtain ⟨h1, e1, x1, k1, wf1⟩ := x.put wf (o := 9) (v := .int .i64 (addW .i64 D.taken 1)) (D' := { D with taken := addW .i64 D.taken 1 }) (by omega) rfl rfl rfl rfl rfl rfl
  exact ⟨rfl, rfl, D.taken, ⟨rfl, x.blk.one rfl⟩, rfl, rfl, rfl, h1, e1, rfl, rfl, _, ⟨rfl, x1.blk.one rfl⟩, rfl, x.nx_own x1 k1⟩

theorem c69 (x : DX h d g0 gs gd gw ga R D s dd w a) (hb : 0 < D.bytes) : C 69 [.pointer (some ⟨d, 0, none⟩)] h fun v h' => v = .int .i64 D.bytes ∧ h' = h := by
  refine SCalls_of_vw fol (pf := pf) (shp := shp69) (f := 69) (fn := Try.f69) (by kernel_rfl) (c := Try.f69.body.getD .skip) (by kernel_rfl) (by kernel_rfl) fun wf => ?_
  rw [vc69]
  refine (c58 x hb).mono fun v h' ⟨e, e'⟩ => ⟨_, e, ?_⟩
  subst e'
  rw [if_neg (by simp [notB])]
  exact ⟨rfl, rfl, rfl, _, ⟨rfl, x.blk.one rfl⟩, rfl, rfl⟩

theorem c70 (x : DX h d g0 gs gd gw ga R D s dd w a) (hb : 0 < D.bytes) : C 70 [.pointer (some ⟨d, 0, none⟩)] h fun v h' => v = .int .i64 D.most ∧ h' = h := by
  refine SCalls_of_vw fol (pf := pf) (shp := shp70) (f := 70) (fn := Try.f70) (by kernel_rfl) (c := Try.f70.body.getD .skip) (by kernel_rfl) (by kernel_rfl) fun wf => ?_
  rw [vc70]
  refine (c58 x hb).mono fun v h' ⟨e, e'⟩ => ⟨_, e, ?_⟩
  subst e'
  rw [if_neg (by simp [notB])]
  exact ⟨rfl, rfl, _, ⟨rfl, x.blk.one rfl⟩, rfl, rfl⟩

theorem c38 (x : DX h d g0 gs gd gw ga R D s dd w a) (hb : 0 < D.bytes) : C 38 [.pointer (some ⟨d, 0, none⟩)] h fun v h' => v = .bool (!D.off) ∧ h' = h := by
  refine SCalls_of_vw fol (pf := pf) (shp := shp38) (f := 38) (fn := Try.f38) (by kernel_rfl) (c := Try.f38.body.getD .skip) (by kernel_rfl) (by kernel_rfl) fun wf => ?_
  rw [vc38]
  refine (c58 x hb).mono fun v h' ⟨e, e'⟩ => ⟨_, e, ?_⟩
  subst e'
  refine ⟨fun _ => rfl, fun _ => rfl, _, fun _ => ⟨rfl, x.blk.one rfl⟩, ?_, rfl⟩
  cases D.off <;> rfl

theorem c56 (x : DX h d g0 gs gd gw ga R D s dd w a) (hb : 0 < D.bytes) : C 56 [.pointer (some ⟨d, 0, none⟩)] h fun v h' => v = .int .i64 D.life ∧ h' = h := by
  refine SCalls_of_vw fol (pf := pf) (shp := shp56) (f := 56) (fn := Try.f56) (by kernel_rfl) (c := Try.f56.body.getD .skip) (by kernel_rfl) (by kernel_rfl) fun wf => ?_
  rw [vc56]
  refine (c58 x hb).mono fun v h' ⟨e, e'⟩ => ⟨_, e, ?_⟩
  subst e'
  rw [if_neg (by simp [notB])]
  exact ⟨rfl, rfl, _, ⟨rfl, x.blk.one rfl⟩, rfl, rfl⟩

theorem c39 (x : DX h d g0 gs gd gw ga R D s dd w a) (hb : 0 < D.bytes) : C 39 [.pointer (some ⟨d, 0, none⟩)] h fun v h' => v = .int .i64 D.taken ∧ h' = h := by
  refine SCalls_of_vw fol (pf := pf) (shp := shp39) (f := 39) (fn := Try.f39) (by kernel_rfl) (c := Try.f39.body.getD .skip) (by kernel_rfl) (by kernel_rfl) fun wf => ?_
  rw [vc39]
  refine (c58 x hb).mono fun v h' ⟨e, e'⟩ => ⟨_, e, ?_⟩
  subst e'
  rw [if_neg (by simp [notB])]
  exact ⟨rfl, rfl, _, ⟨rfl, x.blk.one rfl⟩, rfl, rfl⟩

theorem c45 (x : DX h d g0 gs gd gw ga R D s dd w a) (hb : 0 < D.bytes) : C 45 [.pointer (some ⟨d, 0, none⟩)] h fun v h' => v = .int .i64 (natI D.arms.length) ∧ h' = h := by
  refine SCalls_of_vw fol (pf := pf) (shp := shp45) (f := 45) (fn := Try.f45) (by kernel_rfl) (c := Try.f45.body.getD .skip) (by kernel_rfl) (by kernel_rfl) fun wf => ?_
  rw [vc45]
  refine (c58 x hb).mono fun v h' ⟨e, e'⟩ => ⟨_, e, ?_⟩
  subst e'
  rw [if_neg (by simp [notB])]
  refine ⟨rfl, rfl, _, _, _, ⟨rfl, x.blk.one rfl⟩, ?_, rfl⟩
  rw [x.arms.2]

theorem c37 (x : DX h d g0 gs gd gw ga R D s dd w a) (hb : 0 < D.bytes) : C 37 [.pointer (some ⟨d, 0, none⟩)] h fun v h' => v = .agg #[.int .i64 D.wr, .int .i64 D.gr, .int .i64 D.sy] ∧ Kept h h' := by
  refine SCalls_of_vw fol (pf := pf) (shp := shp37) (f := 37) (fn := Try.f37) (by kernel_rfl) (c := Try.f37.body.getD .skip) (by kernel_rfl) (by kernel_rfl) fun wf => ?_
  rw [vc37]
  intro h1 e1
  obtain ⟨b1, k1, n1, wf1⟩ := new_blk wf e1
  have x1 := x.kept k1
  refine (c58 x1 hb).mono fun v h' ⟨e, e'⟩ => ⟨_, e, ?_⟩
  subst e'
  rw [if_neg (by simp [notB])]
  obtain ⟨h4, e4, b4, k4, _, n4, wf4⟩ := set_blk wf1 b1 k1 wf (Nat.le_refl _) (vs := [.int .i64 D.wr, .int .i64 D.gr, .int .i64 D.sy]) rfl rfl
  exact ⟨rfl, rfl, _, _, _, ⟨rfl, (x1.blk.cells (o := 10) (n := 3) (Nat.le_of_ble_eq_true rfl)).trans rfl⟩, rfl, h4, e4, _, _, _, ⟨rfl, (b4.cells (o := 0) (n := 3) (Nat.le_of_ble_eq_true rfl)).trans rfl⟩, rfl, k4⟩

/-- Image. -/
theorem c34 (x : DX h d g0 gs gd gw ga R D s dd w a) (hb : 0 < D.bytes) (hl : D.dur.length ≤ 8589934592) : C 34 [.pointer (some ⟨d, 0, none⟩)] h (Cloned encS 1 h D.dur) := by
  refine SCalls_of_vw fol (pf := pf) (shp := shp34) (f := 34) (fn := Try.f34) (by kernel_rfl) (c := Try.f34.body.getD .skip) (by kernel_rfl) (by kernel_rfl) fun wf => ?_
  rw [vc34]
  refine (c58 x hb).mono fun v h' ⟨e, e'⟩ => ⟨_, e, ?_⟩
  subst e'
  rw [if_neg (by simp [notB])]
  refine ⟨rfl, rfl, rfl, _, _, _, ⟨rfl, x.blk.one rfl⟩, ?_⟩
  refine (c59 x.dur.slT (by rw [← x.dur.2]; exact hl)).mono fun v h1 ⟨s', g', e, o, n, k⟩ => ⟨s'.a, s'.l, s'.c, e, s', g', rfl, o, n, k⟩

/-- What is told of what waits. -/
def Wt.told (x : Wt) : Int × Int × Int := (x.act, x.page, x.pages)
def encW (x : Int × Int × Int) : List Value := [.int .u8 x.1, .int .u32 x.2.1, .int .i64 x.2.2]
theorem encW_w (x : Int × Int × Int) : (encW x).length = 3 := rfl

theorem c30 (x : DX h d g0 gs gd gw ga R D s dd w a) (hb : 0 < D.bytes) (hl : D.waits.length ≤ 8589934592) : C 30 [.pointer (some ⟨d, 0, none⟩)] h (Cloned encW 3 h (D.waits.map Wt.told)) := by
  refine SCalls_of_vw fol (pf := pf) (shp := shp30) (f := 30) (fn := Try.f30) (by kernel_rfl) (c := Try.f30.body.getD .skip) (by kernel_rfl) (by kernel_rfl) fun wf => ?_
  rw [vc30]
  refine (c58 x hb).mono fun v h' ⟨e, e'⟩ => ⟨_, e, ?_⟩
  subst e'
  rw [if_neg (by simp [notB])]
  refine ⟨rfl, rfl, w.a, w.l, w.c, ⟨rfl, x.blk.one rfl⟩, ?_⟩
  have hwl := x.waits.2
  refine ⟨fun vals m hh => ∃ (i : Nat) (s' : Sv) (g' : Option Nat), [s'.v, .int .i64 i] = vals ∧ i ≤ w.l ∧ m = w.l - i ∧ Wf hh ∧ OwT encW 3 hh g' s' ((D.waits.take i).map Wt.told) ∧ (g' = none ∨ ∃ y, g' = some y ∧ h'.next ≤ y) ∧ Kept h' hh,
    ⟨w.l, 0, ⟨none, 0, 0⟩, none, rfl, Nat.zero_le _, rfl, wf, by simpa using OwT.nil (enc := encW) (w := 3), .inl rfl, Keep.refl _ _⟩, ?_⟩
  rintro a1 l1 c1 n m hh ⟨i, s', g', e, hi, rfl, wf1, o1, n1, k1⟩
  simp at e
  obtain ⟨⟨rfl, rfl, rfl⟩, rfl⟩ := e
  have hsl : s'.l = i := by rw [← o1.2]; simp; omega
  split
  · rename_i hlt
    have hlt : i < w.l := by rw [ltI_iff] at hlt; simp only [natI] at hlt; omega
    have hz : D.waits[i]? = some (D.waits[i]'(by omega)) := List.getElem?_eq_getElem _
    generalize D.waits[i]'(by omega) = z at hz
    obtain ⟨i1, i2⟩ := (x.waits.keep k1 fun _ _ hf => hf).slT.get Wt.w hz (j := 0) (m := 4) (by omega)
    have hin : inR (i : Int) w.l := by simp only [inR]; omega
    have next : addW .i64 (i : Int) 1 = ((i + 1 : Nat) : Int) := by rw [addW_small (by omega) (by omega)]; rfl
    refine ⟨⟨i1, hin⟩, z.act, z.page, z.pages, z.data, ⟨rfl, i2.trans rfl⟩, ?_⟩
    intro h2 e2
    obtain ⟨b2, k2, n2, wf2⟩ := new_blk wf1 e2
    obtain ⟨h3, e3, b3, k3, _, n3, wf3⟩ := set_blk wf2 b2 k2 wf1 (Nat.le_refl _) (vs := z.enc) rfl rfl
    refine ⟨rfl, h3, e3, rfl, z.act, z.page, z.pages, ⟨rfl, (b3.cells (o := 0) (n := 3) (Nat.le_of_ble_eq_true rfl)).trans rfl⟩, ?_⟩
    intro h4 e4
    obtain ⟨a5, c5, g5, h5, e5, o5, nw5, k5, wf5⟩ := Ow.append1 wf3 app51 (o1.1.keep k3 fun _ _ hf => hf) e4 rfl rfl (room (by omega) (by omega))
    refine ⟨a5, _, c5, h5, e5, w.l - (i + 1), by simp only [lessN]; omega, i + 1, ⟨a5, s'.l + 1, c5⟩, g5, by rw [next], by omega, rfl, wf5, ⟨?_, ?_⟩, ?_, ?_⟩
    · have : (D.waits.take (i + 1)).map Wt.told = (D.waits.take i).map Wt.told ++ [z.told] := by rw [List.take_add_one, hz]; simp
      rw [this, List.flatMap_append]
      exact o5
    · simp; omega
    · rcases nw5 with rfl | ⟨y, rfl, hy⟩
      · exact n1
      · exact .inr ⟨y, rfl, by have := k1.next; omega⟩
    · refine (k1.trans wf k3 fun _ _ hf => hf).trans wf k5 fun y hy he => ?_
      rcases n1 with rfl | ⟨z, rfl, hz⟩
      · simp at he
      · simp at he; omega
  · rename_i hlt
    have hil : i = w.l := by rw [ltI_iff] at hlt; simp only [natI] at hlt; omega
    have : D.waits.take i = D.waits := List.take_of_length_le (by omega)
    rw [this] at o1
    exact ⟨s', g', rfl, o1, n1, k1⟩

/-- Fork. -/
theorem c31 {k M N : Nat} (x : DX h d g0 gs gd gw ga R D s dd w a) (fit : D.fit k M N) (hN : N ≤ 8589934592) :
    C 31 [.pointer (some ⟨d, 0, none⟩)] h fun v h' => ∃ q p0 ps pd pw pa s' dd' w' a', v = .pointer (some ⟨q, 0, none⟩) ∧ DX h' q p0 ps pd pw pa R D s' dd' w' a' ∧ (∀ y, own p0 ps pd pw pa y → h.next ≤ y) ∧ Kept h h' := by
  refine SCalls_of_vw fol (pf := pf) (shp := shp31) (f := 31) (fn := Try.f31) (by kernel_rfl) (c := Try.f31.body.getD .skip) (by kernel_rfl) (by kernel_rfl) fun wf => ?_
  rw [vc31]
  have ok := fit.ok
  have hm1 := ok.m1
  have hsM := ok.seenL
  have hdM := ok.durL
  have hsl := x.seen.2
  have hdl := x.dur.2
  have hwl := x.waits.2
  have hal := x.arms.2
  have hW := fit.waits
  have hA := fit.arms
  refine (c58 x ok.pos).mono fun v h' ⟨e, e'⟩ => ⟨_, e, ?_⟩
  subst e'
  rw [if_neg (by simp [notB])]
  refine ⟨rfl, _, _, _, _, _, _, _, _, _, _, _, _, _, _, _, _, _, _, _, _, _, ⟨rfl, (x.blk.cells (o := 0) (n := 13) (Nat.le_of_ble_eq_true rfl)).trans rfl⟩, ?_⟩
  intro h1 e1
  obtain ⟨b1, k1, n1, wf1⟩ := new_blk wf e1
  obtain ⟨h2, e2, b2, k2, _, n2, wf2⟩ := set_blk wf1 b1 k1 wf (Nat.le_refl _) (vs := dcells D s dd w a) rfl rfl
  have x2 := x.kept k2
  refine ⟨rfl, h2, e2, rfl, rfl, rfl, _, _, _, ⟨rfl, x2.blk.one rfl⟩, ?_⟩
  refine (c59 x2.seen.slT (by omega)).wf fun v h3 wf3 _ ⟨s3, g3, e, o3, m3, k3⟩ => ⟨_, _, _, e, rfl, rfl, rfl, ?_⟩
  have g3lt := o3.1.glt wf3
  have hn12 : h2.next = h'.next + 1 := by omega
  have b3 : Blk h3 h'.next (some h'.next) (dcells D s dd w a) := k3.blk b2
  obtain ⟨h4, e4, b4, k4, n4, w4⟩ := b3.set (o := 1) (v := s3.v) (by simp [dcells]) rfl
  have wf4 := w4 wf3
  have k04 : Kept h' h4 := (k2.trans wf k3 fun _ _ hf => hf).trans wf k4 fun y hy he => by omega
  have x4 := x.kept k04
  refine ⟨h4, e4, rfl, rfl, rfl, _, _, _, ⟨rfl, x4.blk.one rfl⟩, ?_⟩
  refine (c59 x4.dur.slT (by omega)).wf fun v h5 wf5 _ ⟨s5, g5, e, o5, m5, k5⟩ => ⟨_, _, _, e, rfl, rfl, rfl, ?_⟩
  have g5lt := o5.1.glt wf5
  have b5 : Blk h5 h'.next (some h'.next) (dcells D s3 dd w a) := k5.blk b4
  obtain ⟨h6, e6, b6, k6, n6, w6⟩ := b5.set (o := 3) (v := s5.v) (by simp [dcells]) rfl
  have wf6 := w6 wf5
  have k06 : Kept h' h6 := (k04.trans wf k5 fun _ _ hf => hf).trans wf k6 fun y hy he => by omega
  have x6 := x.kept k06
  refine ⟨h6, e6, rfl, rfl, _, _, _, ⟨rfl, x6.blk.one rfl⟩, ?_⟩
  refine (c60 x6.waits.slT (by omega)).wf fun v h7 wf7 _ ⟨s7, g7, e, o7, m7, k7⟩ => ⟨_, _, _, e, rfl, rfl, ?_⟩
  have g7lt := o7.1.glt wf7
  have b7 : Blk h7 h'.next (some h'.next) (dcells D s3 s5 w a) := k7.blk b6
  obtain ⟨h8, e8, b8, k8, n8, w8⟩ := b7.set (o := 6) (v := s7.v) (by simp [dcells]) rfl
  have wf8 := w8 wf7
  have k08 : Kept h' h8 := (k06.trans wf k7 fun _ _ hf => hf).trans wf k8 fun y hy he => by omega
  have x8 := x.kept k08
  refine ⟨h8, e8, rfl, rfl, _, _, _, ⟨rfl, x8.blk.one rfl⟩, ?_⟩
  refine (c61 x8.arms.slT (by omega)).wf fun v h9 wf9 _ ⟨s9, g9, e, o9, m9, k9⟩ => ⟨_, _, _, e, rfl, rfl, ?_⟩
  have g9lt := o9.1.glt wf9
  have b9 : Blk h9 h'.next (some h'.next) (dcells D s3 s5 s7 a) := k9.blk b8
  obtain ⟨h10, e10, b10, k10, n10, w10⟩ := b9.set (o := 7) (v := s9.v) (by simp [dcells]) rfl
  have k010 : Kept h' h10 := (k08.trans wf k9 fun _ _ hf => hf).trans wf k10 fun y hy he => by omega
  have x10 := x.kept k010
  refine ⟨h10, e10, h'.next, h'.next, g3, g5, g7, g9, s3, s5, s7, s9, rfl, ?_, ?_, k010⟩
  · have q2 := k2.next
    have q3 := k3.next
    have q4 := k4.next
    have q5 := k5.next
    have q6 := k6.next
    have q7 := k7.next
    have q8 := k8.next
    have q9 := k9.next
    have q10 := k10.next
    have ne0 : ∀ {g : Option Nat} {n : Nat}, (g = none ∨ ∃ y, g = some y ∧ n ≤ y) → h'.next < n → ∀ y, g = some y → ¬ y = h'.next := by
      intro g n hg hn y hy he
      rcases hg with rfl | ⟨z, rfl, hz⟩
      · simp at hy
      · simp at hy; omega
    have lo : ∀ {g : Option Nat} {n : Nat}, (g = none ∨ ∃ y, g = some y ∧ n ≤ y) → ∀ y, g = some y → n ≤ y := by
      intro g n hg y hy
      rcases hg with rfl | ⟨z, rfl, hz⟩
      · simp at hy
      · simp at hy; omega
    have z3 := ne0 m3 (by omega)
    have z5 := ne0 m5 (by omega)
    have z7 := ne0 m7 (by omega)
    have z9 := ne0 m9 (by omega)
    have t5 := lo m5
    have t7 := lo m7
    have t9 := lo m9
    have t3 := lo m3
    have r3 : OwT encS 1 h10 g3 s3 D.seen := ((((((o3.keep k4 z3).keep k5 fun _ _ hf => hf).keep k6 z3).keep k7 fun _ _ hf => hf).keep k8 z3).keep k9 fun _ _ hf => hf).keep k10 z3
    have r5 : OwT encS 1 h10 g5 s5 D.dur := ((((o5.keep k6 z5).keep k7 fun _ _ hf => hf).keep k8 z5).keep k9 fun _ _ hf => hf).keep k10 z5
    have r7 : OwT Wt.enc 4 h10 g7 s7 D.waits := ((o7.keep k8 z7).keep k9 fun _ _ hf => hf).keep k10 z7
    have r9 : OwT Ar.enc 5 h10 g9 s9 D.arms := o9.keep k10 z9
    refine ⟨b10, r3, r5, r7, r9, x10.fates, ?_, ?_, ?_, ?_, ?_, ?_, ?_, ?_, ?_, ?_, ?_, x10.rlt⟩
    · intro y hy he; simp at hy; exact z3 y he hy.symm
    · intro y hy he; simp at hy; exact z5 y he hy.symm
    · intro y hy he; simp at hy; exact z7 y he hy.symm
    · intro y hy he; simp at hy; exact z9 y he hy.symm
    · intro y hy he; have := g3lt y hy; have := t5 y he; omega
    · intro y hy he; have := g3lt y hy; have := t7 y he; omega
    · intro y hy he; have := g3lt y hy; have := t9 y he; omega
    · intro y hy he; have := g5lt y hy; have := t7 y he; omega
    · intro y hy he; have := g5lt y hy; have := t9 y he; omega
    · intro y hy he; have := g7lt y hy; have := t9 y he; omega
    · intro y hy
      have := x.rlt y hy
      refine ⟨by omega, fun he => ?_, fun he => ?_, fun he => ?_, fun he => ?_⟩
      · have := t3 y he; omega
      · have := t5 y he; omega
      · have := t7 y he; omega
      · have := t9 y he; omega
  · have q2 := k2.next
    have q3 := k3.next
    have q4 := k4.next
    have q5 := k5.next
    have q6 := k6.next
    have q7 := k7.next
    have q8 := k8.next
    intro y hy
    have lo : ∀ {g : Option Nat} {n : Nat}, (g = none ∨ ∃ y, g = some y ∧ n ≤ y) → g = some y → n ≤ y := by
      intro g n hg hy
      rcases hg with rfl | ⟨z, rfl, hz⟩
      · simp at hy
      · simp at hy; omega
    rcases hy with hy | hy | hy | hy | hy
    · omega
    · have := lo m3 hy; omega
    · have := lo m5 hy; omega
    · have := lo m7 hy; omega
    · have := lo m9 hy; omega
end
end Go.Proofs.Ytfkhjbfddeahaaa.kc

/- Contracts: From, New; the laws' text, seen, alike. -/
set_option linter.unusedVariables false
namespace Go.Proofs.Ytfkhjbfddeahaaa.kc
open Go Go.Cn Go.Proofs Go.Proofs.Ytfkhjbfddeahaaa.vc

def encI (n : Int) : List Value := [.int .i64 n]
theorem encI_w (x : Int) : (encI x).length = 1 := rfl

theorem c95 {h : Hp} {G : Option Nat} {a : Option Addr} {l c : Nat} {L : List Int} (s : SlT encI 1 h G a l c L) (hl : l ≤ 8589934592) (x : Int) :
    C 95 [.slice a l c, .int .i64 x] h fun v h' => (∃ n, v = .int .i64 n ∧ geI n 0 = decide (x ∈ L)) ∧ h' = h := by
  refine SCalls_of_vw fol (pf := pf) (shp := shp95) (f := 95) (fn := Try.f95) (by kernel_rfl) (c := Try.f95.body.getD .skip) (by kernel_rfl) (by kernel_rfl) fun wf => ?_
  rw [vc95]
  have hL := s.len
  refine ⟨fun vals m hh => ∃ i : Nat, [.int .i64 i] = vals ∧ i ≤ l ∧ m = l - i ∧ hh = h ∧ ∀ (j : Nat) y, j < i → L[j]? = some y → x ≠ y, ⟨l, 0, rfl, by omega, rfl, rfl, by omega⟩, ?_⟩
  rintro n m hh ⟨i, e, hi, rfl, rfl, hno⟩
  simp at e; subst e
  split
  · rename_i hlt
    have hlt : i < l := by rw [ltI_iff] at hlt; simp only [natI] at hlt; omega
    have hz : L[i]? = some (L[i]'(by omega)) := List.getElem?_eq_getElem _
    generalize L[i]'(by omega) = z at hz
    obtain ⟨i1, i2⟩ := s.get encI_w hz (j := 0) (m := 1) (by omega)
    refine ⟨⟨i1, by simp only [inR]; omega⟩, z, ⟨rfl, i2.trans rfl⟩, ?_⟩
    split
    · rename_i he
      have he : x = z := eqI_iff.mp he
      refine ⟨⟨_, rfl, ?_⟩, rfl⟩
      rw [geI_iff.mpr (by omega), decide_eq_true (by rw [he]; exact List.mem_of_getElem? hz)]
    · rename_i he
      refine ⟨l - (i + 1), by simp only [lessN]; omega, i + 1, by rw [addW_small (by omega) (by omega)]; rfl, by omega, rfl, rfl, fun j y hj hy => ?_⟩
      by_cases hji : j = i
      · subst hji; rw [hz] at hy; simp at hy; subst hy; exact fun h => he (eqI_iff.mpr h)
      · exact hno j y (by omega) hy
  · rename_i hlt
    have hil : i = l := by rw [ltI_iff] at hlt; simp only [natI] at hlt; omega
    refine ⟨⟨_, rfl, ?_⟩, rfl⟩
    have : ¬ x ∈ L := fun hx => by
      obtain ⟨j, hj⟩ := List.getElem?_of_mem hx
      exact hno j x (by have := (List.getElem?_eq_some_iff.mp hj).1; omega) hj rfl
    rw [decide_eq_false this]; rfl

theorem c65 {h : Hp} {G : Option Nat} {a : Option Addr} {l c : Nat} {L : List Int} (s : SlT encI 1 h G a l c L) (hl : l ≤ 8589934592) (x : Int) :
    C 65 [.slice a l c, .int .i64 x] h fun v h' => v = .bool (decide (x ∈ L)) ∧ h' = h := by
  refine SCalls_of_vw fol (pf := pf) (shp := shp65) (f := 65) (fn := Try.f65) (by kernel_rfl) (c := Try.f65.body.getD .skip) (by kernel_rfl) (by kernel_rfl) fun wf => ?_
  rw [vc65]
  exact (c95 s hl x).mono fun v h' ⟨⟨n, e, hn⟩, e'⟩ => ⟨n, e, by rw [hn], e'⟩

theorem c67 {h : Hp} {p : Nat} {g : Option Nat} {n : Int} (hb : Blk h p g [.int .i64 n]) (x : ByteArray) : C 67 [.string x, .pointer (some ⟨p, 0, none⟩)] h fun v h' => v = .bool (neI x.size n) ∧ h' = h := by
  refine SCalls_of_vw fol (pf := pf) (shp := shp67) (f := 67) (fn := Try.f67) (by kernel_rfl) (c := Try.f67.body.getD .skip) (by kernel_rfl) (by kernel_rfl) fun wf => ?_
  rw [vc67]
  exact ⟨n, ⟨rfl, hb.one rfl⟩, rfl, rfl⟩

def oddOne (page : Int) (x : ByteArray) : Bool := neI x.size page

theorem c96 {h : Hp} {p : Nat} {g : Option Nat} {n : Int} (hb : Blk h p g [.int .i64 n]) {G : Option Nat} {a : Option Addr} {l c : Nat} {L : List ByteArray} (s : SlT encS 1 h G a l c L) (hl : l ≤ 8589934592) :
    C 96 [.slice a l c, .func (.func 67) #[] #[.pointer (some ⟨p, 0, none⟩)]] h fun v h' => (∃ i, v = .int .i64 i ∧ geI i 0 = L.any (oddOne n)) ∧ h' = h := by
  refine SCalls_of_vw fol (pf := pf) (shp := shp96) (f := 96) (fn := Try.f96) (by kernel_rfl) (c := Try.f96.body.getD .skip) (by kernel_rfl) (by kernel_rfl) fun wf => ?_
  rw [vc96]
  have hL := s.len
  refine ⟨fun vals m hh => ∃ i : Nat, [.int .i64 i] = vals ∧ i ≤ l ∧ m = l - i ∧ hh = h ∧ ∀ (j : Nat) y, j < i → L[j]? = some y → oddOne n y = false, ⟨l, 0, rfl, by omega, rfl, rfl, by omega⟩, ?_⟩
  rintro n1 m hh ⟨i, e, hi, rfl, rfl, hno⟩
  simp at e; subst e
  split
  · rename_i hlt
    have hlt : i < l := by rw [ltI_iff] at hlt; simp only [natI] at hlt; omega
    have hz : L[i]? = some (L[i]'(by omega)) := List.getElem?_eq_getElem _
    generalize L[i]'(by omega) = z at hz
    obtain ⟨i1, i2⟩ := s.get encS_w hz (j := 0) (m := 1) (by omega)
    refine ⟨⟨i1, by simp only [inR]; omega⟩, z, ⟨rfl, i2.trans rfl⟩, (c67 hb z).mono fun v h' ⟨e, e'⟩ => ⟨_, e, ?_⟩⟩
    subst e'
    split
    · rename_i he
      refine ⟨⟨_, rfl, ?_⟩, rfl⟩
      rw [geI_iff.mpr (by omega)]
      symm
      rw [List.any_eq_true]
      exact ⟨z, List.mem_of_getElem? hz, he⟩
    · rename_i he
      refine ⟨l - (i + 1), by simp only [lessN]; omega, i + 1, by rw [addW_small (by omega) (by omega)]; rfl, by omega, rfl, rfl, fun j y hj hy => ?_⟩
      by_cases hji : j = i
      · subst hji; rw [hz] at hy; simp at hy; subst hy; simpa [oddOne] using he
      · exact hno j y (by omega) hy
  · rename_i hlt
    have hil : i = l := by rw [ltI_iff] at hlt; simp only [natI] at hlt; omega
    refine ⟨⟨_, rfl, ?_⟩, rfl⟩
    have : L.any (oddOne n) = false := by
      rw [List.any_eq_false]
      intro y hy
      obtain ⟨j, hj⟩ := List.getElem?_of_mem hy
      rw [hno j y (by have := (List.getElem?_eq_some_iff.mp hj).1; omega) hj]; simp
    rw [this]; rfl

theorem c66 {h : Hp} {p : Nat} {g : Option Nat} {n : Int} (hb : Blk h p g [.int .i64 n]) {G : Option Nat} {a : Option Addr} {l c : Nat} {L : List ByteArray} (s : SlT encS 1 h G a l c L) (hl : l ≤ 8589934592) :
    C 66 [.slice a l c, .func (.func 67) #[] #[.pointer (some ⟨p, 0, none⟩)]] h fun v h' => v = .bool (L.any (oddOne n)) ∧ h' = h := by
  refine SCalls_of_vw fol (pf := pf) (shp := shp66) (f := 66) (fn := Try.f66) (by kernel_rfl) (c := Try.f66.body.getD .skip) (by kernel_rfl) (by kernel_rfl) fun wf => ?_
  rw [vc66]
  exact (c96 hb s hl).mono fun v h' ⟨⟨n, e, hn⟩, e'⟩ => ⟨n, e, by rw [hn], e'⟩

def paged (p : Int) : Prop := p ∈ [1024, 2048, 4096, 8192]
instance (p : Int) : Decidable (paged p) := inferInstanceAs (Decidable (_ ∈ _))
def fromE (page most : Int) (image : List ByteArray) : Int :=
  if ¬ paged page ∨ most < 1 ∨ most > 65536 then 2 else if (image.length : Int) > most ∨ image.any (oddOne page) = true then 42 else 0
def newD (page most : Int) (image : List ByteArray) : Dk := ⟨page, image, image, most, false, [], [], 0, 0, 0, 0, 0⟩

theorem newD_fit {page most : Int} {image : List ByteArray} (he : fromE page most image = 0) : ∃ k M, (newD page most image).fit k M 0 ∧ (8 * k : Nat) = page ∧ (M : Int) = most := by
  unfold fromE at he
  split at he
  · simp at he
  · rename_i h1
    split at he
    · simp at he
    · rename_i h2
      simp only [not_or, Decidable.not_not, Bool.not_eq_true] at h1 h2
      obtain ⟨h3, h4, h5⟩ := h1
      obtain ⟨h6, h7⟩ := h2
      have hp : page = 1024 ∨ page = 2048 ∨ page = 4096 ∨ page = 8192 := by
        have : page ∈ [(1024 : Int), 2048, 4096, 8192] := h3
        simpa using this
      have hs : ∀ x ∈ image, (x.size : Int) = page := by
        intro x hx
        have := List.any_eq_false.mp h7 x hx
        simp only [oddOne, neI_iff, ne_eq, Decidable.not_not] at this
        exact this
      refine ⟨page.toNat / 8, most.toNat, ⟨⟨?_, by omega, by omega, by omega, by simp only [newD]; omega, ?_, ?_, by simp only [newD]; omega, by simp only [newD]; omega, by simp [newD]⟩, by simp [newD], by simp [newD], by simp [newD]⟩, by omega, by omega⟩
      · simp only [newD]; omega
      · intro x hx; have := hs x hx; omega
      · intro x hx; have := hs x hx; omega

/-- see, of a new disk. -/
theorem c68n {h : Hp} {d g0 : Nat} {gd : Option Nat} {v0 v1 : Value} {bytes : Int} {dd : Sv} {L : List ByteArray} {rest : List Value} (b : Blk h d (some g0) (v0 :: v1 :: .int .i64 bytes :: dd.v :: rest)) (o : OwT encS 1 h gd dd L) (hl : L.length ≤ 8589934592) :
    C 68 [.pointer (some ⟨d, 0, none⟩)] h fun v h' => v = .tuple #[] ∧ ∃ g' s', OwT encS 1 h' g' s' L ∧ (g' = none ∨ ∃ y, g' = some y ∧ h.next ≤ y) ∧ Blk h' d (some g0) (.int .i64 bytes :: s'.v :: .int .i64 bytes :: dd.v :: rest) ∧ Keep (· = g0) h h' := by
  refine SCalls_of_vw fol (pf := pf) (shp := shp68) (f := 68) (fn := Try.f68) (by kernel_rfl) (c := Try.f68.body.getD .skip) (by kernel_rfl) (by kernel_rfl) fun wf => ?_
  rw [vc68]
  have hg0 := b.glt wf
  refine ⟨rfl, rfl, rfl, bytes, ⟨rfl, b.one rfl⟩, rfl, rfl, rfl, dd.a, dd.l, dd.c, ⟨rfl, b.one rfl⟩, ?_⟩
  refine (c59 o.slT (by rw [← o.2]; exact hl)).wf fun v h1 wf1 _ ⟨s', g', e, o1, n, k⟩ => ⟨s'.a, s'.l, s'.c, e, ?_⟩
  have b1 := k.blk b
  obtain ⟨h2, e2, b2, k2, n2, w2⟩ := b1.store (o := 0) (vs := [.int .i64 bytes, s'.v]) (by simp) rfl
  refine ⟨⟨rfl, b1.one rfl⟩, rfl, rfl, rfl, h2, e2, rfl, g', s', o1.keep k2 fun y hy he => ?_, n, b2, (k.mono wf fun _ _ hf => hf.elim).trans wf k2 fun _ _ hy => hy⟩
  rcases n with rfl | ⟨z, rfl, hz⟩
  · simp at hy
  · simp at hy; omega

/-- From. -/
theorem c41 {h : Hp} {G : Option Nat} {a : Option Addr} {l c : Nat} {image : List ByteArray} (sI : SlT encS 1 h G a l c image) (hl : l ≤ 8589934592) (page most : Int) :
    C 41 [.int .i64 page, .int .i64 most, .slice a l c] h fun v h' => Kept h h' ∧ ((fromE page most image ≠ 0 ∧ v = .tuple #[.pointer none, .int .i64 (fromE page most image)]) ∨
      (fromE page most image = 0 ∧ ∃ q p0 ps pd pw pa s' dd' w' a', v = .tuple #[.pointer (some ⟨q, 0, none⟩), .int .i64 0] ∧ DX h' q p0 ps pd pw pa (fun _ => False) (newD page most image) s' dd' w' a' ∧ (∀ y, own p0 ps pd pw pa y → h.next ≤ y))) := by
  refine SCalls_of_vw fol (pf := pf) (shp := shp41) (f := 41) (fn := Try.f41) (by kernel_rfl) (c := Try.f41.body.getD .skip) (by kernel_rfl) (by kernel_rfl) fun wf => ?_
  rw [vc41]
  intro h1 e1
  obtain ⟨b1, k1, n1, wf1⟩ := new_blk wf e1
  intro h2 e2
  obtain ⟨b2, k2, n2, wf2⟩ := new_blk wf1 e2
  have b12 := k2.blk b1
  have k02 : Kept h h2 := k1.trans wf k2 fun _ _ hf => hf
  refine ⟨page, ⟨rfl, b12.one rfl⟩, ?_⟩
  have sl : SlT encI 1 h2 (some h1.next) (some ⟨h1.next, 0, none⟩) 4 4 [1024, 2048, 4096, 8192] := ⟨⟨Nat.le_refl _, rfl, .inl rfl, fun _ => ⟨_, b2, Nat.le_refl _, rfl⟩⟩, rfl⟩
  refine (c65 sl (by omega) page).mono fun v h' ⟨e, e'⟩ => ⟨_, e, ?_⟩
  subst e'
  by_cases h0 : ¬ paged page ∨ most < 1 ∨ most > 65536
  · have hE : fromE page most image = 2 := by unfold fromE; rw [if_pos h0]
    rw [if_pos, hE]
    · exact ⟨k02, .inl ⟨by omega, rfl⟩⟩
    · rw [or_iff, or_iff, notB_iff, ltI_iff, gtI_iff, decide_eq_false_iff_not]
      rcases h0 with h0 | h0 | h0
      · exact .inl (.inl h0)
      · exact .inl (.inr h0)
      · exact .inr h0
  rw [if_neg]
  rotate_left
  · rw [or_iff, or_iff, notB_iff, ltI_iff, gtI_iff, decide_eq_false_iff_not]
    intro h3
    rcases h3 with (h3 | h3) | h3
    · exact h0 (.inl h3)
    · exact h0 (.inr (.inl h3))
    · exact h0 (.inr (.inr h3))
  have sI2 := sI.keep k02 fun _ _ hf => hf
  have hil := sI.len
  refine ⟨fun v hh => hh = h' ∧ (notB (gtI (natI l) most) = true → v = .bool (image.any (oddOne page))), fun hg => (c66 b12 sI2 hl).mono fun v h3 ⟨e, e'⟩ => ⟨_, e, e', fun _ => rfl⟩, fun hg => ⟨true, rfl, fun hh => by rw [hg] at hh; simp at hh⟩, ?_⟩
  rintro bb h3 ⟨rfl, hq⟩
  by_cases h4 : (image.length : Int) > most ∨ image.any (oddOne page) = true
  · have hE : fromE page most image = 42 := by unfold fromE; rw [if_neg h0, if_pos h4]
    rw [if_pos, hE]
    · exact ⟨k02, .inl ⟨by omega, rfl⟩⟩
    · rw [or_iff, gtI_iff]
      by_cases h5 : natI l > most
      · exact .inl h5
      · have := hq (by rw [notB_iff, Bool.eq_false_iff]; intro h6; exact h5 (gtI_iff.mp h6))
        simp at this
        rw [this]
        rcases h4 with h4 | h4
        · exact .inl (by simp only [natI]; omega)
        · exact .inr h4
  have hbig : ¬ natI l > most := fun h5 => h4 (.inl (by simp only [natI] at h5; omega))
  rw [if_neg]
  rotate_left
  · rw [or_iff, gtI_iff]
    intro h5
    rcases h5 with h5 | h5
    · exact hbig h5
    · have := hq (by rw [notB_iff, Bool.eq_false_iff]; intro h6; exact hbig (gtI_iff.mp h6))
      simp at this
      rw [this] at h5
      exact h4 (.inr h5)
  have hE : fromE page most image = 0 := by unfold fromE; rw [if_neg h0, if_neg h4]
  refine ⟨page, ⟨rfl, b12.one rfl⟩, (c59 sI2 hl).wf fun v h4 wf4 _ ⟨s4, g4, e, o4, m4, k4⟩ => ⟨_, _, _, e, ⟨rfl, (Kept.blk k4 b12).one rfl⟩, ?_⟩⟩
  intro h5 e5
  obtain ⟨b5, k5, n5, wf5⟩ := new_blk wf4 e5
  have g4lt := o4.1.glt wf4
  have o5 := o4.keep k5 fun _ _ hf => hf
  have hkn : h.next ≤ h4.next := Nat.le_trans k02.next k4.next
  have k05 : Kept h h5 := (k02.trans wf k4 fun _ _ hf => hf).trans wf k5 fun _ _ hf => hf
  refine (c68n b5 o5 (by omega)).wf fun v h6 wf6 _ ⟨e6, g6, s6, o6, m6, b6, k6⟩ => ⟨e6, ?_⟩
  have m4' : ∀ y, g4 = some y → h.next ≤ y := fun y hy => by
    rcases m4 with rfl | ⟨z, rfl, hz⟩
    · simp at hy
    · simp at hy; have := k02.next; omega
  have m6' : ∀ y, g6 = some y → h5.next ≤ y := fun y hy => by
    rcases m6 with rfl | ⟨z, rfl, hz⟩
    · simp at hy
    · simp at hy; omega
  refine ⟨k05.trans wf k6 fun y hy he => by omega, .inr ⟨hE, h4.next, h4.next, g6, g4, none, none, s6, s4, ⟨none, 0, 0⟩, ⟨none, 0, 0⟩, rfl, ?_, ?_⟩⟩
  · refine ⟨b6, o6, o5.keep k6 fun y hy he => ?_, OwT.nil, OwT.nil, by simp [newD], ?_, ?_, Ap.nr _, Ap.nr _, ?_, Ap.nr _, Ap.nr _, Ap.nr _, Ap.nr _, Ap.nr _, by simp, by simp⟩
    · have := g4lt y hy; omega
    · intro y hy he; simp at hy; have := m6' y he; omega
    · intro y hy he; simp at hy; have := g4lt y he; omega
    · intro y hy he; have := m6' y hy; have := g4lt y he; omega
  · intro y hy
    rcases hy with hy | hy | hy | hy | hy
    · omega
    · have := m6' y hy; omega
    · exact m4' y hy
    · simp at hy
    · simp at hy

/-- New. -/
theorem c26 (h : Hp) (page most : Int) :
    C 26 [.int .i64 page, .int .i64 most] h fun v h' => Kept h h' ∧ ((fromE page most [] ≠ 0 ∧ v = .tuple #[.pointer none, .int .i64 (fromE page most [])]) ∨
      (fromE page most [] = 0 ∧ ∃ q p0 ps pd pw pa s' dd' w' a', v = .tuple #[.pointer (some ⟨q, 0, none⟩), .int .i64 0] ∧ DX h' q p0 ps pd pw pa (fun _ => False) (newD page most []) s' dd' w' a' ∧ (∀ y, own p0 ps pd pw pa y → h.next ≤ y))) := by
  refine SCalls_of_vw fol (pf := pf) (shp := shp26) (f := 26) (fn := Try.f26) (by kernel_rfl) (c := Try.f26.body.getD .skip) (by kernel_rfl) (by kernel_rfl) fun wf => ?_
  rw [vc26]
  refine (c41 (SlT.nil h none) (by omega) page most).mono fun v h' ⟨k, hq⟩ => ?_
  rcases hq with ⟨h1, rfl⟩ | ⟨h1, q, p0, ps, pd, pw, pa, s', dd', w', a', rfl, x, hn⟩
  · exact ⟨_, _, rfl, k, .inl ⟨h1, rfl⟩⟩
  · exact ⟨_, _, rfl, k, .inr ⟨h1, q, p0, ps, pd, pw, pa, s', dd', w', a', rfl, x, hn⟩⟩

/-- alike. -/
theorem c33 {h : Hp} {G G' : Option Nat} {a b : Option Addr} {l c l' c' : Nat} {L M : List ByteArray} (s : SlT encS 1 h G a l c L) (t : SlT encS 1 h G' b l' c' M) (hl : l ≤ 8589934592) :
    C 33 [.slice a l c, .slice b l' c'] h fun v h' => v = .bool (decide (L = M)) ∧ h' = h := by
  refine SCalls_of_vw fol (pf := pf) (shp := shp33) (f := 33) (fn := Try.f33) (by kernel_rfl) (c := Try.f33.body.getD .skip) (by kernel_rfl) (by kernel_rfl) fun wf => ?_
  rw [vc33]
  have hL := s.len
  have hM := t.len
  by_cases hll : l = l'
  rotate_left
  · rw [if_pos (by rw [neI_iff]; simp only [natI]; omega)]
    refine ⟨?_, rfl⟩
    rw [decide_eq_false]; intro e; subst e; omega
  rw [if_neg (by rw [neI_iff]; simp only [natI]; omega)]
  refine ⟨fun vals m hh => ∃ i : Nat, [.int .i64 i] = vals ∧ i ≤ l ∧ m = l - i ∧ hh = h ∧ ∀ (j : Nat), j < i → L[j]? = M[j]?, ⟨l, 0, rfl, by omega, rfl, rfl, by omega⟩, ?_⟩
  rintro n m hh ⟨i, e, hi, rfl, rfl, hno⟩
  simp at e; subst e
  split
  · rename_i hlt
    have hlt : i < l := by rw [ltI_iff] at hlt; simp only [natI] at hlt; omega
    have hz : L[i]? = some (L[i]'(by omega)) := List.getElem?_eq_getElem _
    have hy : M[i]? = some (M[i]'(by omega)) := List.getElem?_eq_getElem _
    generalize L[i]'(by omega) = z at hz
    generalize M[i]'(by omega) = y at hy
    obtain ⟨i1, i2⟩ := s.get encS_w hz (j := 0) (m := 1) (by omega)
    obtain ⟨j1, j2⟩ := t.get encS_w hy (j := 0) (m := 1) (by omega)
    refine ⟨⟨i1, by simp only [inR]; omega⟩, z, ⟨rfl, i2.trans rfl⟩, ⟨j1, by simp only [inR]; omega⟩, y, ⟨rfl, j2.trans rfl⟩, ?_⟩
    by_cases hzy : z = y
    rotate_left
    · rw [if_pos (by rw [notB_iff, Bool.eq_false_iff]; intro h1; exact hzy ((eq_iff _ _).mp h1))]
      refine ⟨?_, rfl⟩
      rw [decide_eq_false]; intro e; rw [e, hy] at hz; simp at hz; exact hzy hz.symm
    rw [if_neg (by rw [notB_iff, (eq_iff _ _).mpr hzy]; simp)]
    refine ⟨l - (i + 1), by simp only [lessN]; omega, i + 1, by rw [addW_small (by omega) (by omega)]; rfl, by omega, rfl, rfl, fun j hj => ?_⟩
    by_cases hji : j = i
    · subst hji; rw [hz, hy, hzy]
    · exact hno j (by omega)
  · rename_i hlt
    have hil : i = l := by rw [ltI_iff] at hlt; simp only [natI] at hlt; omega
    refine ⟨?_, rfl⟩
    rw [decide_eq_true]
    apply List.ext_getElem?
    intro j
    by_cases hj : j < i
    · exact hno j hj
    · rw [List.getElem?_eq_none (by omega), List.getElem?_eq_none (by omega)]

def seenL (D : Dk) : List ByteArray := if D.off = true then [] else D.seen

/-- seen. -/
theorem c28 {k M : Nat} {h : Hp} {d g0 : Nat} {gs gd gw ga : Option Nat} {R : Nat → Prop} {D : Dk} {s dd w a : Sv} (x : DX h d g0 gs gd gw ga R D s dd w a) (ok : D.ok k M) :
    C 28 [.pointer (some ⟨d, 0, none⟩)] h (Cloned encS 1 h (seenL D)) := by
  refine SCalls_of_vw fol (pf := pf) (shp := shp28) (f := 28) (fn := Try.f28) (by kernel_rfl) (c := Try.f28.body.getD .skip) (by kernel_rfl) (by kernel_rfl) fun wf => ?_
  rw [vc28]
  have hm1 := ok.m1
  have hsM := ok.seenL
  refine (c57 x ok.pos).mono fun v h' ⟨e, e'⟩ => ⟨_, e, ?_⟩
  subst e'
  refine ⟨fun vals m hh => ∃ (i : Nat) (s' : Sv) (g' : Option Nat), [s'.v, .int .i64 i] = vals ∧ i ≤ D.seen.length ∧ m = D.seen.length - i ∧ Wf hh ∧ OwT encS 1 hh g' s' (D.seen.take i) ∧ (g' = none ∨ ∃ y, g' = some y ∧ h'.next ≤ y) ∧ Kept h' hh ∧ (D.off = true → i = 0),
    ⟨_, 0, ⟨none, 0, 0⟩, none, rfl, Nat.zero_le _, rfl, wf, by simpa using OwT.nil (enc := encS) (w := 1), .inl rfl, Keep.refl _ _, fun _ => rfl⟩, ?_⟩
  rintro a1 l1 c1 n m hh ⟨i, s', g', e, hi, rfl, wf1, o1, n1, k1, hoff⟩
  simp at e
  obtain ⟨⟨rfl, rfl, rfl⟩, rfl⟩ := e
  have hsl : s'.l = i := by rw [← o1.2]; simp; omega
  split
  · rename_i hlt
    have hlt : i < D.seen.length := by rw [ltI_iff] at hlt; simp only [natI] at hlt; omega
    have x1 := x.kept k1
    have hu : toW .u32 (i : Int) = (i : Int) := by unfold toW IntKind.wrap; simp [IntKind.bits, IntKind.signed]; omega
    rw [hu]
    refine (c55 x1 ok (by omega)).mono fun v h2 ⟨e, e'⟩ => ⟨_, _, e, ?_⟩
    subst e'
    by_cases ho : D.off = true
    · have hr : readD D i = (⟨#[]⟩, 7) := by unfold readD; rw [if_pos ho]
      rw [hr, if_pos (by rfl)]
      have : seenL D = [] := by unfold seenL; rw [if_pos ho]
      rw [this]
      exact ⟨⟨none, 0, 0⟩, none, rfl, OwT.nil, .inl rfl, k1⟩
    have hz : D.seen[i]? = some (D.seen[i]) := List.getElem?_eq_getElem _
    generalize D.seen[i] = z at hz
    have hr : readD D i = (z, 0) := by unfold readD; rw [if_neg ho, Int.toNat_natCast, hz]
    rw [hr, if_neg (by rw [neI_iff]; simp)]
    intro h4 e4
    obtain ⟨a5, c5, g5, h5, e5, o5, nw5, k5, wf5⟩ := Ow.append1 wf1 app40 o1.1 e4 rfl rfl (room (by omega) (by omega))
    refine ⟨a5, _, c5, h5, e5, D.seen.length - (i + 1), by simp only [lessN]; omega, i + 1, ⟨a5, s'.l + 1, c5⟩, g5, by rw [addW_small (by omega) (by omega)]; rfl, by omega, rfl, wf5, ⟨?_, ?_⟩, ?_, ?_, fun h => absurd h ho⟩
    · have : D.seen.take (i + 1) = D.seen.take i ++ [z] := by rw [List.take_add_one, hz]; simp
      rw [this, flatS]
      exact o5
    · simp; omega
    · rcases nw5 with rfl | ⟨y, rfl, hy⟩
      · exact n1
      · exact .inr ⟨y, rfl, by have := k1.next; omega⟩
    · refine k1.trans wf k5 fun y hy he => ?_
      rcases n1 with rfl | ⟨z, rfl, hz⟩
      · simp at he
      · simp at he; omega
  · rename_i hlt
    have hil : i = D.seen.length := by rw [ltI_iff] at hlt; simp only [natI] at hlt; omega
    have ht : D.seen.take i = D.seen := List.take_of_length_le (by omega)
    rw [ht] at o1
    have : seenL D = D.seen := by
      unfold seenL
      split
      · rename_i ho
        have := hoff ho
        symm; apply List.eq_nil_of_length_eq_zero; omega
      · rfl
    rw [this]
    exact ⟨s', g', rfl, o1, n1, k1⟩

/-! ### text -/
def textX (x y : Int) : Nat → Int
  | 0 => x
  | n + 1 => addW .u8 (textX x y n) y
def textC (x y : Int) (n : Nat) : List Value := (List.range n).map fun i => .int .u8 (textX x y i)
def textB (x y : Int) (n : Nat) : ByteArray := ⟨((List.range n).map fun i => UInt8.ofNat (textX x y i).toNat).toArray⟩
theorem textB_size (x y : Int) (n : Nat) : (textB x y n).size = n := by
  show Array.size _ = n
  simp
theorem bytesOf_text (f : Nat → Int) : ∀ L : List Nat, bytesOf (L.map fun i => .int .u8 (f i)) = some (L.map fun i => UInt8.ofNat (f i).toNat)
  | [] => rfl
  | i :: L => by simp only [List.map_cons, bytesOf]; rw [bytesOf_text f L]; rfl

def textN (n p : Int) : Nat := if n < 0 ∨ n > 10000 then p.toNat else n.toNat

theorem fill_step {x y : Int} {i m : Nat} (hi : i < m) : (textC x y i ++ List.replicate (m - i) (Value.int .u8 0)).set i (.int .u8 (textX x y i)) = textC x y (i + 1) ++ List.replicate (m - (i + 1)) (Value.int .u8 0) := by
  have e1 : (textC x y i).length = i := by simp [textC]
  rw [List.set_append_right _ _ (by omega), e1, Nat.sub_self]
  have : m - i = (m - (i + 1)) + 1 := by omega
  rw [this, List.replicate_succ, List.set_cons_zero]
  have e2 : textC x y (i + 1) = textC x y i ++ [.int .u8 (textX x y i)] := by simp [textC, List.range_succ]
  rw [e2]; simp

theorem c29 (h : Hp) {n x y p : Int} (hp : 0 ≤ p ∧ p ≤ 1048576) : C 29 [.agg #[.int .i64 n, .int .u8 x, .int .u8 y], .int .i64 p] h fun v h' => v = .string (textB x y (textN n p)) ∧ Kept h h' := by
  refine SCalls_of_vw fol (pf := pf) (shp := shp29) (f := 29) (fn := Try.f29) (by kernel_rfl) (c := Try.f29.body.getD .skip) (by kernel_rfl) (by kernel_rfl) fun wf => ?_
  rw [vc29]
  intro h1 e1
  obtain ⟨b1, k1, n1, wf1⟩ := new_blk wf e1
  refine ⟨rfl, n, ⟨rfl, b1.one rfl⟩, ?_⟩
  have read : ∀ {hh : Hp} {m : Nat}, Blk hh h1.next (some h1.next) (textC x y m ++ List.replicate (m - m) (.int .u8 0)) → readStr (some ⟨h1.next, 0, none⟩) m hh (textB x y m) := by
    intro hh m b
    rw [Nat.sub_self, List.replicate_zero, List.append_nil] at b
    refine .inr ⟨rfl, _, b.cells (o := 0) (n := m) (by simp [textC]), ?_⟩
    rw [List.drop_zero, List.take_of_length_le (by simp [textC])]
    unfold textC
    rw [bytesOf_text]
    show _ = some ((List.range m).map fun i => UInt8.ofNat (textX x y i).toNat).toArray.toList
    rfl
  have main : ∀ m : Nat, m ≤ 1048576 → ∀ h2, Blk h2 h1.next (some h1.next) (List.replicate m (.int .u8 0)) → Kept h1 h2 → Wf h2 → h2.next = h1.next + 1 →
      ∃ I : List Value → Nat → Hp → Prop, (∃ q, I [.int .u8 x, .int .i64 0] q h2) ∧ ∀ (n n_1 : Int) (q : Nat) (hh : Hp), I [.int .u8 n, .int .i64 n_1] q hh → ∃ i : Nat, n_1 = i ∧ n = textX x y i ∧ i ≤ m ∧ q = m - i ∧ Kept h hh ∧ (i = m → readStr (some ⟨h1.next, 0, none⟩) m hh (textB x y m)) ∧
        (i < m → ∃ h3, hh.store h1.next i [.int .u8 n] = some h3 ∧ h3.cellsAt h.next 2 1 = some [.int .u8 y] ∧ I [.int .u8 (addW .u8 n y), .int .i64 (addW .i64 n_1 1)] (m - (i + 1)) h3) := by
    intro m hm h2 b2 k2 wf2 n2
    refine ⟨fun vals q hh => ∃ i : Nat, [.int .u8 (textX x y i), .int .i64 i] = vals ∧ i ≤ m ∧ q = m - i ∧ Wf hh ∧ Kept h hh ∧ Blk hh h.next (some h.next) [.int .i64 n, .int .u8 x, .int .u8 y] ∧ Blk hh h1.next (some h1.next) (textC x y i ++ List.replicate (m - i) (.int .u8 0)),
      ⟨_, 0, rfl, Nat.zero_le _, rfl, wf2, k1.trans wf k2 fun _ _ hf => hf, k2.blk b1, by simpa [textC] using b2⟩, ?_⟩
    rintro n0 n3 q hh ⟨i, e, hi, rfl, wf3, k3, b3, b4⟩
    simp at e
    obtain ⟨rfl, rfl⟩ := e
    refine ⟨i, rfl, rfl, hi, rfl, k3, fun him => by subst him; exact read b4, fun him => ?_⟩
    obtain ⟨h3, e3, b5, k5, n5, w5⟩ := b4.set (o := i) (v := .int .u8 (textX x y i)) (by simp [textC]; omega) rfl
    rw [fill_step him] at b5
    have b6 := k5.blk b3 fun z hz he => by simp at hz; omega
    exact ⟨h3, e3, b6.one rfl, i + 1, by rw [addW_small (by omega) (by omega)]; rfl, by omega, rfl, w5 wf3, k3.trans wf k5 fun z hz he => by omega, b6, b5⟩
  by_cases hc : n < 0 ∨ n > 10000
  · rw [if_pos (by rw [or_iff, ltI_iff, gtI_iff]; exact hc)]
    have hN : textN n p = p.toNat := by unfold textN; rw [if_pos hc]
    rw [hN]
    obtain ⟨h2, e2, b2, k2, n2, wf2⟩ := make_zeros wf1 (n := p) (m := p.toNat) (by omega) (by omega)
    obtain ⟨I, hI, hstep⟩ := main p.toNat (by omega) h2 b2 k2 wf2 n2
    refine ⟨_, _, _, h2, e2, rfl, x, ⟨rfl, (k2.blk b1).one rfl⟩, I, hI, ?_⟩
    intro n4 n5 q hh hi
    obtain ⟨i, rfl, rfl, him, rfl, kk, hend, hgo⟩ := hstep n4 n5 q hh hi
    split
    · rename_i hlt
      have hlt : i < p.toNat := by rw [ltI_iff] at hlt; omega
      obtain ⟨h3, e3, r3, i3⟩ := hgo hlt
      have hofs : plusI (off (some ⟨h1.next, 0, none⟩)) (i : Int) 1 = i := by simp [plusI, off]
      exact ⟨⟨rfl, by simp only [inR]; omega⟩, rfl, h3, by rw [hofs]; exact e3, rfl, y, ⟨rfl, r3⟩, _, by simp only [lessN]; omega, i3⟩
    · rename_i hlt
      have him' : i = p.toNat := by rw [ltI_iff] at hlt; omega
      exact ⟨_, hend him', rfl, kk⟩
  · rw [if_neg (by rw [or_iff, ltI_iff, gtI_iff]; exact hc)]
    have hN : textN n p = n.toNat := by unfold textN; rw [if_neg hc]
    rw [hN]
    obtain ⟨h2, e2, b2, k2, n2, wf2⟩ := make_zeros wf1 (n := n) (m := n.toNat) (by omega) (by omega)
    obtain ⟨I, hI, hstep⟩ := main n.toNat (by omega) h2 b2 k2 wf2 n2
    refine ⟨_, _, _, h2, e2, rfl, x, ⟨rfl, (k2.blk b1).one rfl⟩, I, hI, ?_⟩
    intro n4 n5 q hh hi
    obtain ⟨i, rfl, rfl, him, rfl, kk, hend, hgo⟩ := hstep n4 n5 q hh hi
    split
    · rename_i hlt
      have hlt : i < n.toNat := by rw [ltI_iff] at hlt; omega
      obtain ⟨h3, e3, r3, i3⟩ := hgo hlt
      have hofs : plusI (off (some ⟨h1.next, 0, none⟩)) (i : Int) 1 = i := by simp [plusI, off]
      exact ⟨⟨rfl, by simp only [inR]; omega⟩, rfl, h3, by rw [hofs]; exact e3, rfl, y, ⟨rfl, r3⟩, _, by simp only [lessN]; omega, i3⟩
    · rename_i hlt
      have him' : i = n.toNat := by rw [ltI_iff] at hlt; omega
      exact ⟨_, hend him', rfl, kk⟩
end Go.Proofs.Ytfkhjbfddeahaaa.kc

/- A disk in memory, told by the groups that it owns (W) and those that it reads (R). -/
set_option linter.unusedVariables false
namespace Go.Proofs.Ytfkhjbfddeahaaa.kc
open Go Go.Cn Go.Proofs Go.Proofs.Ytfkhjbfddeahaaa.vc

def DAt (h : Hp) (d : Nat) (W R : Nat → Prop) (D : Dk) : Prop :=
  ∃ g0 gs gd gw ga s dd w a, DX h d g0 gs gd gw ga R D s dd w a ∧ ∀ y, W y ↔ own g0 gs gd gw ga y

/-- W and F have nothing in common. -/
def Out (W F : Nat → Prop) : Prop := ∀ y, W y → ¬ F y

/-- A disk behind a call. -/
def Op (h : Hp) (d : Nat) (W R : Nat → Prop) (D' : Dk) (h' : Hp) : Prop :=
  ∃ W' R', DAt h' d W' R' D' ∧ (∀ y, W' y → W y ∨ h.next ≤ y) ∧ (∀ y, R' y → R y ∨ h.next ≤ y) ∧ Keep W h h'

theorem Out.op {W F W' : Nat → Prop} {n : Nat} (o : Out W F) (hF : ∀ y, F y → y < n) (hW : ∀ y, W' y → W y ∨ n ≤ y) : Out W' F := by
  intro y hy hf
  rcases hW y hy with h | h
  · exact o y h hf
  · have := hF y hf; omega
theorem Out.op2 {W F F' : Nat → Prop} {n : Nat} (o : Out W F) (hW : ∀ y, W y → y < n) (hF : ∀ y, F' y → F y ∨ n ≤ y) : Out W F' := by
  intro y hy hf
  rcases hF y hf with h | h
  · exact o y hy h
  · have := hW y hy; omega
theorem Out.new {W F : Nat → Prop} {n : Nat} (hW : ∀ y, W y → n ≤ y) (hF : ∀ y, F y → y < n) : Out W F := by
  intro y hy hf
  have := hW y hy
  have := hF y hf
  omega
theorem Out.mono {W F W' F' : Nat → Prop} (o : Out W F) (hW : ∀ y, W' y → W y) (hF : ∀ y, F' y → F y) : Out W' F' := fun y hy hf => o y (hW y hy) (hF y hf)

section
variable {h : Hp} {d : Nat} {W R : Nat → Prop} {D : Dk}

theorem DAt.of {g0 : Nat} {gs gd gw ga : Option Nat} {s dd w a : Sv} (x : DX h d g0 gs gd gw ga R D s dd w a) : DAt h d (own g0 gs gd gw ga) R D := ⟨g0, gs, gd, gw, ga, s, dd, w, a, x, fun _ => Iff.rfl⟩

theorem DAt.keep {S : Nat → Prop} {h' : Hp} (k : Keep S h h') (x : DAt h d W R D) (hn : ∀ y, W y ∨ R y → ¬ S y) : DAt h' d W R D := by
  obtain ⟨g0, gs, gd, gw, ga, s, dd, w, a, x, hW⟩ := x
  exact ⟨g0, gs, gd, gw, ga, s, dd, w, a, x.keep k fun y hy => hn y (by rcases hy with hy | hy; exact .inl ((hW y).mpr hy); exact .inr hy), hW⟩
theorem DAt.kept {h' : Hp} (k : Kept h h') (x : DAt h d W R D) : DAt h' d W R D := x.keep k fun _ _ hf => hf
theorem DAt.wlt (wf : Wf h) (x : DAt h d W R D) : ∀ y, W y → y < h.next := by
  obtain ⟨g0, gs, gd, gw, ga, s, dd, w, a, x, hW⟩ := x
  obtain ⟨l0, l1, l2, l3, l4⟩ := x.lts wf
  intro y hy
  rcases (hW y).mp hy with hy | hy | hy | hy | hy
  · omega
  · exact l1 y hy
  · exact l2 y hy
  · exact l3 y hy
  · exact l4 y hy
theorem DAt.rlt (x : DAt h d W R D) : ∀ y, R y → y < h.next := by
  obtain ⟨g0, gs, gd, gw, ga, s, dd, w, a, x, hW⟩ := x
  exact x.rlt
theorem DAt.flt (wf : Wf h) (x : DAt h d W R D) : ∀ y, W y ∨ R y → y < h.next := fun y hy => hy.elim (x.wlt wf y) (x.rlt y)

/-- A contract that changes the disk. -/
theorem DAt.run {f : FuncId} {args : List Value} {D' : Dk} {r : Value} (x : DAt h d W R D)
    (hc : ∀ {g0 gs gd gw ga s dd w a}, DX h d g0 gs gd gw ga R D s dd w a → (∀ y, W y ↔ own g0 gs gd gw ga y) → C f args h fun v h' => v = r ∧ Nx h d g0 gs gd gw ga R D' h') : C f args h fun v h' => v = r ∧ Op h d W R D' h' := by
  obtain ⟨g0, gs, gd, gw, ga, s, dd, w, a, x, hW⟩ := x
  refine (hc x hW).wf fun v h' wf' hn ⟨e, gs', gd', gw', ga', R', s', dd', w', a', x', n1, n2, n3, n4, r, k⟩ => ⟨e, _, R', DAt.of x', fun y hy => ?_, r, ⟨k.next, k.ro, fun b cs t g hb hg => k.rw b cs t g hb fun ho => hg ((hW g).mpr ho)⟩⟩
  rcases own_nw n1 n2 n3 n4 hy with hy | hy
  · exact .inl ((hW y).mpr hy)
  · exact .inr hy
/-- A contract that does not. -/
theorem DAt.ask {f : FuncId} {args : List Value} {K : Value → Hp → Prop} (x : DAt h d W R D) (hc : ∀ {g0 gs gd gw ga s dd w a}, DX h d g0 gs gd gw ga R D s dd w a → C f args h K) : C f args h K := by
  obtain ⟨g0, gs, gd, gw, ga, s, dd, w, a, x, hW⟩ := x
  exact hc x

variable {k M N : Nat}
theorem DAt.write (x : DAt h d W R D) (fit : D.fit k M N) (hN : N ≤ 8589934591) {no : Int} (hno : 0 ≤ no ∧ no < 4294967296) {data : ByteArray} : C 54 [.pointer (some ⟨d, 0, none⟩), .int .u32 no, .string data] h fun v h' => v = .int .i64 (writeD D no data).2 ∧ Op h d W R (writeD D no data).1 h' := x.run fun x _ => c54 x fit hN hno
theorem DAt.grow (x : DAt h d W R D) (fit : D.fit k M N) (hN : N ≤ 8589934591) {n : Int} (hn : n < 9223372036854775808) : C 53 [.pointer (some ⟨d, 0, none⟩), .int .i64 n] h fun v h' => v = .int .i64 (growD D n).2 ∧ Op h d W R (growD D n).1 h' := x.run fun x _ => c53 x fit hN hn
theorem DAt.sync (x : DAt h d W R D) (fit : D.fit k M N) (hN : N ≤ 8589934591) : C 46 [.pointer (some ⟨d, 0, none⟩)] h fun v h' => v = .int .i64 (syncD D).2 ∧ Op h d W R (syncD D).1 h' := x.run fun x _ => c46 x fit hN
theorem DAt.crash (x : DAt h d W R D) (fit : D.fit k M N) (hN : N ≤ 8589934592) {G : Option Nat} {fa : Option Addr} {fl fc : Nat} {F : List Int} (sf : SlT encF 1 h G fa fl fc F) (hG : ∀ y, G = some y → ¬ W y ∧ y < h.next) (hfl : F.length ≤ 8589934592) :
    C 32 [.pointer (some ⟨d, 0, none⟩), .slice fa fl fc] h fun v h' => v = .int .i64 (crashD D F).2 ∧ Op h d W R (crashD D F).1 h' := x.run fun x hW => c32 x fit hN sf (fun y hy => ⟨fun ho => (hG y hy).1 ((hW y).mpr ho), (hG y hy).2⟩) hfl
theorem DAt.wake (x : DAt h d W R D) (fit : D.fit k M N) : C 36 [.pointer (some ⟨d, 0, none⟩)] h fun v h' => v = .int .i64 (wakeD D).2 ∧ Op h d W R (wakeD D).1 h' := x.run fun x _ => c36 x fit.ok.pos
theorem DAt.take (x : DAt h d W R D) (fit : D.fit k M N) : C 85 [.pointer (some ⟨d, 0, none⟩)] h fun v h' => v = .tuple #[.int .i64 (takeD D).2.1, .int .i64 (takeD D).2.2] ∧ Op h d W R (takeD D).1 h' := x.run fun x _ => c85 x fit.ok.pos
theorem DAt.read (x : DAt h d W R D) (fit : D.fit k M N) {no : Int} (hno : 0 ≤ no ∧ no < 4294967296) : C 55 [.pointer (some ⟨d, 0, none⟩), .int .u32 no] h fun v h' => v = .tuple #[.string (readD D no).1, .int .i64 (readD D no).2] ∧ h' = h := x.ask fun x => c55 x fit.ok hno
theorem DAt.page (x : DAt h d W R D) (fit : D.fit k M N) : C 69 [.pointer (some ⟨d, 0, none⟩)] h fun v h' => v = .int .i64 D.bytes ∧ h' = h := x.ask fun x => c69 x fit.ok.pos
theorem DAt.mostC (x : DAt h d W R D) (fit : D.fit k M N) : C 70 [.pointer (some ⟨d, 0, none⟩)] h fun v h' => v = .int .i64 D.most ∧ h' = h := x.ask fun x => c70 x fit.ok.pos
theorem DAt.on (x : DAt h d W R D) (fit : D.fit k M N) : C 38 [.pointer (some ⟨d, 0, none⟩)] h fun v h' => v = .bool (!D.off) ∧ h' = h := x.ask fun x => c38 x fit.ok.pos
theorem DAt.lifeC (x : DAt h d W R D) (fit : D.fit k M N) : C 56 [.pointer (some ⟨d, 0, none⟩)] h fun v h' => v = .int .i64 D.life ∧ h' = h := x.ask fun x => c56 x fit.ok.pos
theorem DAt.takenC (x : DAt h d W R D) (fit : D.fit k M N) : C 39 [.pointer (some ⟨d, 0, none⟩)] h fun v h' => v = .int .i64 D.taken ∧ h' = h := x.ask fun x => c39 x fit.ok.pos
theorem DAt.armed (x : DAt h d W R D) (fit : D.fit k M N) : C 45 [.pointer (some ⟨d, 0, none⟩)] h fun v h' => v = .int .i64 (natI D.arms.length) ∧ h' = h := x.ask fun x => c45 x fit.ok.pos
theorem DAt.acts (x : DAt h d W R D) (fit : D.fit k M N) : C 37 [.pointer (some ⟨d, 0, none⟩)] h fun v h' => v = .agg #[.int .i64 D.wr, .int .i64 D.gr, .int .i64 D.sy] ∧ Kept h h' := x.ask fun x => c37 x fit.ok.pos
theorem DAt.sizeC (x : DAt h d W R D) (fit : D.fit k M N) : C 57 [.pointer (some ⟨d, 0, none⟩)] h fun v h' => v = .int .i64 (natI D.seen.length) ∧ h' = h := x.ask fun x => c57 x fit.ok.pos
theorem DAt.image (x : DAt h d W R D) (fit : D.fit k M N) : C 34 [.pointer (some ⟨d, 0, none⟩)] h (Cloned encS 1 h D.dur) := x.ask fun x => c34 x fit.ok.pos (by have := fit.ok.durL; have := fit.ok.m1; omega)
theorem DAt.waits (x : DAt h d W R D) (fit : D.fit k M N) (hN : N ≤ 8589934592) : C 30 [.pointer (some ⟨d, 0, none⟩)] h (Cloned encW 3 h (D.waits.map Wt.told)) := x.ask fun x => c30 x fit.ok.pos (by have := fit.waits; omega)
theorem DAt.seenC (x : DAt h d W R D) (fit : D.fit k M N) : C 28 [.pointer (some ⟨d, 0, none⟩)] h (Cloned encS 1 h (seenL D)) := x.ask fun x => c28 x fit.ok
theorem DAt.fork (x : DAt h d W R D) (fit : D.fit k M N) (hN : N ≤ 8589934592) : C 31 [.pointer (some ⟨d, 0, none⟩)] h fun v h' => ∃ q W', v = .pointer (some ⟨q, 0, none⟩) ∧ DAt h' q W' R D ∧ (∀ y, W' y → h.next ≤ y) ∧ Kept h h' :=
  x.ask fun x => (c31 x fit hN).mono fun v h' ⟨q, p0, ps, pd, pw, pa, s', dd', w', a', e, x', hn, k⟩ => ⟨q, _, e, DAt.of x', hn, k⟩
end

theorem newDisk {h : Hp} {page most : Int} (he : fromE page most [] = 0) : C 26 [.int .i64 page, .int .i64 most] h fun v h' => Kept h h' ∧ ∃ q W, v = .tuple #[.pointer (some ⟨q, 0, none⟩), .int .i64 0] ∧ DAt h' q W (fun _ => False) (newD page most []) ∧ (∀ y, W y → h.next ≤ y) :=
  (c26 h page most).mono fun v h' ⟨k, hq⟩ => by
    rcases hq with ⟨h1, _⟩ | ⟨_, q, p0, ps, pd, pw, pa, s', dd', w', a', e, x, hn⟩
    · exact absurd he h1
    · exact ⟨k, q, _, e, DAt.of x, hn⟩

/-! ### how the calls keep a disk sound -/
section
variable {k M N : Nat} {D : Dk}
theorem writeD_fit (o : D.fit k M N) {no : Int} (hno : 0 ≤ no) (data : ByteArray) : (writeD D no data).1.fit k M (N + 1) := by
  unfold writeD
  split
  · exact o.mono (by omega)
  · split
    · exact o.mono (by omega)
    · rename_i h1
      split
      · exact o.mono (by omega)
      · rename_i h2
        have hs : data.size = 8 * k := by have := o.ok.by_; omega
        have hg : ∀ x ∈ [Wt.mk 1 no 0 data], x.good k M := by
          intro y hy; simp at hy; subst hy
          have := o.ok.seenL
          exact .inl ⟨rfl, hno, by simp only; omega, hs⟩
        split
        · exact actD_fit o hg
        · have hml : (D.arms.map (Ar.dec 1)).length ≤ 64 := by rw [List.length_map]; exact o.arms
          refine ⟨⟨o.ok.by_, o.ok.k0, o.ok.k1, o.ok.m1, o.ok.most, fun x hx => ?_, o.ok.durS, by simp only [List.length_set]; exact o.ok.seenL, o.ok.durL, fun y hy => ?_⟩, hml, map_dec_fates 1 o.fates, by simp; exact o.waits⟩
          · rcases List.mem_or_eq_of_mem_set hx with hx | hx
            · exact o.ok.seenS x hx
            · rw [hx]; exact hs
          · rcases List.mem_append.mp hy with hy | hy
            · exact o.ok.waits y hy
            · exact hg y hy
theorem growD_fit (o : D.fit k M N) (n : Int) : (growD D n).1.fit k M (N + 1) := by
  unfold growD
  split
  · exact o.mono (by omega)
  · split
    · exact o.mono (by omega)
    · rename_i h1
      split
      · exact o.mono (by omega)
      · rename_i h2
        have hmost := o.ok.most
        have hg : ∀ x ∈ [Wt.mk 2 0 (D.seen.length + n) ⟨#[]⟩], x.good k M := by
          intro y hy; simp at hy; subst hy
          exact .inr ⟨rfl, by simp only; omega, by simp only; omega⟩
        split
        · exact actD_fit o hg
        · have hml : (D.arms.map (Ar.dec 2)).length ≤ 64 := by rw [List.length_map]; exact o.arms
          obtain ⟨s1, s2⟩ := stretchL_ok (n := D.seen.length + n) o.ok.seenS o.ok.seenL (by omega)
          rw [← o.ok.by_] at s1 s2
          refine ⟨⟨o.ok.by_, o.ok.k0, o.ok.k1, o.ok.m1, o.ok.most, s1, o.ok.durS, s2, o.ok.durL, fun y hy => ?_⟩, hml, map_dec_fates 2 o.fates, by simp; exact o.waits⟩
          rcases List.mem_append.mp hy with hy | hy
          · exact o.ok.waits y hy
          · exact hg y hy
theorem syncD_fit (o : D.fit k M N) : (syncD D).1.fit k M N := by
  unfold syncD
  split
  · exact o
  · split
    · exact actD_fit (adds := []) o (by simp)
    · have hml : (D.arms.map (Ar.dec 3)).length ≤ 64 := by rw [List.length_map]; exact o.arms
      exact ⟨⟨o.ok.by_, o.ok.k0, o.ok.k1, o.ok.m1, o.ok.most, o.ok.seenS, o.ok.seenS, o.ok.seenL, o.ok.seenL, by simp⟩, hml, map_dec_fates 3 o.fates, by simp⟩
theorem crashD_fit (o : D.fit k M N) (F : List Int) : (crashD D F).1.fit k M N := by
  unfold crashD
  split
  · exact o
  · exact goesD_fit o F
theorem wakeD_fit (o : D.fit k M N) : (wakeD D).1.fit k M N := by
  unfold wakeD
  split
  · exact ⟨⟨o.ok.by_, o.ok.k0, o.ok.k1, o.ok.m1, o.ok.most, o.ok.seenS, o.ok.durS, o.ok.seenL, o.ok.durL, o.ok.waits⟩, o.arms, o.fates, o.waits⟩
  · exact o
end
end Go.Proofs.Ytfkhjbfddeahaaa.kc

/- play: one step on a disk. -/
set_option linter.unusedVariables false
namespace Go.Proofs.Ytfkhjbfddeahaaa.kc
open Go Go.Cn Go.Proofs Go.Proofs.Ytfkhjbfddeahaaa.vc

theorem Op.after {h h1 h2 : Hp} {d : Nat} {W R : Nat → Prop} {D' : Dk} (wf : Wf h) (k : Kept h h1) (o : Op h1 d W R D' h2) : Op h d W R D' h2 := by
  obtain ⟨W', R', x, a, b, kk⟩ := o
  have up : ∀ {y}, h1.next ≤ y → h.next ≤ y := fun hy => Nat.le_trans k.next hy
  exact ⟨W', R', x, fun y hy => (a y hy).imp id up, fun y hy => (b y hy).imp id up, (k.mono wf fun _ _ hf => hf.elim).trans wf kk fun _ _ hg => hg⟩
theorem Op.trans {h h1 h2 : Hp} {d : Nat} {W R : Nat → Prop} {D1 D2 : Dk} (wf : Wf h) (o : Op h d W R D1 h1) (f : ∀ {W' R'}, DAt h1 d W' R' D1 → Op h1 d W' R' D2 h2) : Op h d W R D2 h2 := by
  obtain ⟨W', R', x, a, b, k⟩ := o
  obtain ⟨W2, R2, x2, a2, b2, k2⟩ := f x
  have hn := k.next
  refine ⟨W2, R2, x2, fun y hy => ?_, fun y hy => ?_, k.trans wf k2 fun y hy hw => ?_⟩
  · rcases a2 y hy with h3 | h3
    · exact a y h3
    · exact .inr (by omega)
  · rcases b2 y hy with h3 | h3
    · exact b y h3
    · exact .inr (by omega)
  · rcases a y hw with h3 | h3
    · exact h3
    · omega
theorem DAt.op {h : Hp} {d : Nat} {W R : Nat → Prop} {D : Dk} (x : DAt h d W R D) : Op h d W R D h := ⟨W, R, x, fun _ h => .inl h, fun _ h => .inl h, Keep.refl _ _⟩

structure Stp where
  dO : Int
  wh : Int
  no : Int
  n : Int
  len : Int
  b : Int
  st : Int
  aa : Option Addr
  al : Nat
  ac : Nat
  fa : Option Addr
  fl : Nat
  fc : Nat
def Stp.enc (x : Stp) : List Value := [.int .i64 x.dO, .int .i64 x.wh, .int .u32 x.no, .int .i64 x.n, .int .i64 x.len, .int .u8 x.b, .int .u8 x.st, .slice x.aa x.al x.ac, .slice x.fa x.fl x.fc]
theorem Stp.w (x : Stp) : x.enc.length = 9 := rfl
structure Stp.ok (x : Stp) : Prop where
  no0 : 0 ≤ x.no
  no1 : x.no < 4294967296
  n0 : -9223372036854775808 ≤ x.n
  n1 : x.n < 9223372036854775808

def playD (D : Dk) (x : Stp) : Dk × Bool :=
  if x.dO = 1 then ((writeD D (remW x.no 8) (textB x.b x.st (textN x.len 1024))).1, eqI (writeD D (remW x.no 8) (textB x.b x.st (textN x.len 1024))).2 0)
  else if x.dO = 2 then ((growD D x.n).1, eqI (growD D x.n).2 0)
  else if x.dO = 3 then ((syncD D).1, eqI (syncD D).2 0)
  else (D, true)

theorem rem8 {n : Int} (h : 0 ≤ n) : 0 ≤ remW n 8 ∧ remW n 8 < 8 := by
  unfold remW
  rw [Int.tmod_eq_emod_of_nonneg h]
  omega

theorem playD_fit {k M N : Nat} {D : Dk} (o : D.fit k M N) {x : Stp} (so : x.ok) : (playD D x).1.fit k M (N + 1) := by
  unfold playD
  split
  · exact writeD_fit o (rem8 so.no0).1 _
  · split
    · exact growD_fit o _
    · split
      · exact (syncD_fit o).mono (by omega)
      · exact o.mono (by omega)

theorem c27 {h : Hp} {d : Nat} {W R : Nat → Prop} {D : Dk} {k M N : Nat} (x : DAt h d W R D) (fit : D.fit k M N) (hN : N ≤ 8589934591) {s : Stp} (so : s.ok) :
    C 27 [.pointer (some ⟨d, 0, none⟩), .agg s.enc.toArray] h fun v h' => v = .bool (playD D s).2 ∧ Op h d W R (playD D s).1 h' := by
  refine SCalls_of_vw fol (pf := pf) (shp := shp27) (f := 27) (fn := Try.f27) (by kernel_rfl) (c := Try.f27.body.getD .skip) (by kernel_rfl) (by kernel_rfl) fun wf => ?_
  show vBody Try.prog C pf shp27 Try.f27 (Try.f27.body.getD .skip) [.pointer (some ⟨d, 0, none⟩), .agg #[.int .i64 s.dO, .int .i64 s.wh, .int .u32 s.no, .int .i64 s.n, .int .i64 s.len, .int .u8 s.b, .int .u8 s.st, .slice s.aa s.al s.ac, .slice s.fa s.fl s.fc]] h _
  rw [vc27]
  intro h1 e1
  obtain ⟨b1, k1, n1, wf1⟩ := new_blk wf e1
  have x1 := x.kept k1
  refine ⟨rfl, s.dO, ⟨rfl, b1.one rfl⟩, ?_⟩
  by_cases h1 : s.dO = 1
  · rw [if_pos (eqI_iff.mpr h1)]
    have hp : playD D s = ((writeD D (remW s.no 8) (textB s.b s.st (textN s.len 1024))).1, eqI (writeD D (remW s.no 8) (textB s.b s.st (textN s.len 1024))).2 0) := by unfold playD; rw [if_pos h1]
    rw [hp]
    have hr := rem8 so.no0
    refine ⟨rfl, s.no, ⟨rfl, b1.one rfl⟩, by simp [nonzero], rfl, s.len, s.b, s.st, ⟨rfl, (b1.cells (o := 4) (n := 3) (Nat.le_of_ble_eq_true rfl)).trans rfl⟩, ?_⟩
    refine (c29 _ (by omega)).wf fun v h2 wf2 _ ⟨e2, k2⟩ => ⟨_, e2, ⟨rfl, (k2.blk b1).one rfl⟩, ?_⟩
    refine ((x1.kept k2).write fit hN (by omega)).mono fun v h3 ⟨e3, o3⟩ => ⟨_, e3, rfl, ?_⟩
    exact Op.after wf (k1.trans wf k2 fun _ _ hf => hf) o3
  rw [if_neg (by rw [eqI_iff]; exact h1)]
  by_cases h2 : s.dO = 2
  · rw [if_pos (eqI_iff.mpr h2)]
    have hp : playD D s = ((growD D s.n).1, eqI (growD D s.n).2 0) := by unfold playD; rw [if_neg h1, if_pos h2]
    rw [hp]
    exact ⟨rfl, s.n, ⟨rfl, b1.one rfl⟩, (x1.grow fit hN so.n1).mono fun v h3 ⟨e3, o3⟩ => ⟨_, e3, rfl, Op.after wf k1 o3⟩⟩
  rw [if_neg (by rw [eqI_iff]; exact h2)]
  by_cases h3 : s.dO = 3
  · rw [if_pos (eqI_iff.mpr h3)]
    have hp : playD D s = ((syncD D).1, eqI (syncD D).2 0) := by unfold playD; rw [if_neg h1, if_neg h2, if_pos h3]
    rw [hp]
    exact (x1.sync fit hN).mono fun v h3 ⟨e3, o3⟩ => ⟨_, e3, rfl, Op.after wf k1 o3⟩
  rw [if_neg (by rw [eqI_iff]; exact h3)]
  have hp : playD D s = (D, true) := by unfold playD; rw [if_neg h1, if_neg h2, if_neg h3]
  rw [hp]
  exact ⟨rfl, Op.after wf k1 x1.op⟩
end Go.Proofs.Ytfkhjbfddeahaaa.kc

/- lives. -/
set_option linter.unusedVariables false
set_option linter.unusedSimpArgs false
namespace Go.Proofs.Ytfkhjbfddeahaaa.kc
open Go Go.Cn Go.Proofs Go.Proofs.Ytfkhjbfddeahaaa.vc

/-- A disk that was made behind h0. -/
def Own (h0 h : Hp) (d : Nat) (D : Dk) : Prop := ∃ W R, DAt h d W R D ∧ (∀ y, W y → h0.next ≤ y) ∧ Kept h0 h

section
variable {h0 h : Hp} {d : Nat} {D : Dk}
theorem Own.run (wf0 : Wf h0) (o : Own h0 h d D) {f : FuncId} {args : List Value} {r : Value} {D' : Dk} (hc : ∀ {W R}, DAt h d W R D → C f args h fun v h' => v = r ∧ Op h d W R D' h') : C f args h fun v h' => v = r ∧ Own h0 h' d D' := by
  obtain ⟨W, R, x, hW, k⟩ := o
  refine (hc x).mono fun v h' ⟨e, W', R', x', a, b, k'⟩ => ⟨e, W', R', x', fun y hy => ?_, k.trans wf0 k' fun y hy hw => by have := hW y hw; omega⟩
  rcases a y hy with h1 | h1
  · exact hW y h1
  · exact Nat.le_trans k.next h1
theorem Own.ask (o : Own h0 h d D) {f : FuncId} {args : List Value} {K : Value → Hp → Prop} (hc : ∀ {W R}, DAt h d W R D → C f args h K) : C f args h K := by
  obtain ⟨W, R, x, hW, k⟩ := o; exact hc x
theorem Own.after (wf0 : Wf h0) (o : Own h0 h d D) {h' : Hp} (k : Kept h h') : Own h0 h' d D := by
  obtain ⟨W, R, x, hW, k0⟩ := o; exact ⟨W, R, x.kept k, hW, k0.trans wf0 k fun _ _ hf => hf⟩
theorem Own.kept (o : Own h0 h d D) : Kept h0 h := by obtain ⟨W, R, x, hW, k⟩ := o; exact k
end

def z1024 : ByteArray := zeros 1024
def L1 : Dk := ⟨1024, [z1024, z1024], [], 4, false, [⟨2, 0, 2, ⟨#[]⟩⟩], [], 0, 0, 0, 1, 0⟩
def L2 (a : ByteArray) : Dk := ⟨1024, [a, z1024], [], 4, false, [⟨2, 0, 2, ⟨#[]⟩⟩, ⟨1, 0, 0, a⟩], [], 0, 0, 1, 1, 0⟩
def L3 (a : ByteArray) : Dk := ⟨1024, [a, z1024], [a, z1024], 4, false, [], [], 0, 0, 1, 1, 1⟩
def L4 (a b : ByteArray) : Dk := ⟨1024, [b, z1024], [a, z1024], 4, false, [⟨1, 0, 0, b⟩], [], 0, 0, 2, 1, 1⟩
def L5 (a b : ByteArray) : Dk := ⟨1024, [b, b], [a, z1024], 4, false, [⟨1, 0, 0, b⟩, ⟨1, 1, 0, b⟩], [], 0, 0, 3, 1, 1⟩
def L6 (a b : ByteArray) : Dk := ⟨1024, [laySec 1024 1 b a, z1024], [laySec 1024 1 b a, z1024], 4, true, [], [], 0, 1, 3, 1, 1⟩
def L7 (a b : ByteArray) : Dk := ⟨1024, [laySec 1024 1 b a, z1024], [laySec 1024 1 b a, z1024], 4, false, [], [], 1, 1, 3, 1, 1⟩

theorem s1 : growD (newD 1024 4 []) 2 = (L1, 0) := by rfl
theorem s2 {a : ByteArray} (ha : a.size = 1024) : writeD L1 0 a = (L2 a, 0) := by
  unfold writeD
  rw [if_neg (by simp [L1]), if_neg (by simp [L1]), if_neg (by simp [L1, ha]), if_neg (by simp [L1, actD])]
  rfl
theorem s3 (a : ByteArray) : syncD (L2 a) = (L3 a, 0) := by rfl
theorem s4 {a b : ByteArray} (hb : b.size = 1024) : writeD (L3 a) 0 b = (L4 a b, 0) := by
  unfold writeD
  rw [if_neg (by simp [L3]), if_neg (by simp [L3]), if_neg (by simp [L3, hb]), if_neg (by simp [L3, actD])]
  rfl
theorem s5 {a b : ByteArray} (hb : b.size = 1024) : writeD (L4 a b) 1 b = (L5 a b, 0) := by
  unfold writeD
  rw [if_neg (by simp [L4]), if_neg (by simp [L4]), if_neg (by simp [L4, hb]), if_neg (by simp [L4, actD])]
  rfl
theorem s6 (a b : ByteArray) : crashD (L5 a b) [1] = (L6 a b, 0) := by
  have h1 : layL 1024 [a, z1024] 0 b 1 = [laySec 1024 1 b a, z1024] := by
    unfold layL
    rw [if_neg (by omega)]
    rfl
  have h2 : goN 1024 [1] [⟨1, 0, 0, b⟩, ⟨1, 1, 0, b⟩] [a, z1024] 2 = [laySec 1024 1 b a, z1024] := by
    show goStep 1024 [1] 1 ⟨1, 1, 0, b⟩ (goStep 1024 [1] 0 ⟨1, 0, 0, b⟩ [a, z1024]) = _
    have : goStep 1024 [1] 0 ⟨1, 0, 0, b⟩ [a, z1024] = layL 1024 [a, z1024] 0 b 1 := rfl
    rw [this, h1]; rfl
  unfold crashD
  rw [if_neg (by simp [L5])]
  unfold goesD
  have h3 : goN (L5 a b).bytes [1] (L5 a b).waits (L5 a b).dur (L5 a b).waits.length = [laySec 1024 1 b a, z1024] := h2
  rw [h3]; rfl
theorem s7 (a b : ByteArray) : wakeD (L6 a b) = (L7 a b, 0) := by rfl

theorem lay128 {a b : ByteArray} (ha : a.size = 1024) (hb : b.size = 1024) : laySec 1024 1 b a = strCat (strSub b 0 128) (strSub a 128 (natI (lenS a))) := by
  have e1 : (laySec 1024 1 b a).data.toList = b.data.toList.take 128 ++ a.data.toList.drop 128 := by
    have h1 : layN (((1024 : Int)).toNat / 8) 1 b.data.toList 8 a.data.toList = cut8 a.data.toList (0 * 128) ((b.data.toList.drop (0 * 128)).take 128) := by
      show lay1 128 1 _ 7 (lay1 128 1 _ 6 (lay1 128 1 _ 5 (lay1 128 1 _ 4 (lay1 128 1 _ 3 (lay1 128 1 _ 2 (lay1 128 1 _ 1 (lay1 128 1 _ 0 _))))))) = _
      have t : ∀ i, i = 1 ∨ i = 2 ∨ i = 3 ∨ i = 4 ∨ i = 5 ∨ i = 6 ∨ i = 7 → ∀ B, lay1 128 1 b.data.toList i B = B := by
        intro i hi B
        unfold lay1
        rw [if_neg]
        rcases hi with rfl | rfl | rfl | rfl | rfl | rfl | rfl <;> decide
      rw [t 7 (by omega), t 6 (by omega), t 5 (by omega), t 4 (by omega), t 3 (by omega), t 2 (by omega), t 1 (by omega)]
      unfold lay1
      rw [if_pos (by decide)]
      rfl
    unfold laySec ofBytes
    rw [h1]
    have hbl : b.data.toList.length = 1024 := by
      have : b.data.toList.length = b.size := Array.length_toList
      omega
    unfold cut8
    simp only [Nat.zero_mul, List.drop_zero, List.take_zero, List.nil_append, List.length_take, Nat.zero_add]
    rw [hbl]
    rfl
  have e2 : (strCat (strSub b 0 128) (strSub a 128 (natI (lenS a)))).data.toList = b.data.toList.take 128 ++ a.data.toList.drop 128 := by
    obtain ⟨q1, _⟩ := sub_bytes b 0 128 (by omega) (by omega)
    obtain ⟨q2, _⟩ := sub_bytes a 128 1024 (by omega) (by omega)
    have hal : a.data.toList.length = 1024 := by
      have : a.data.toList.length = a.size := Array.length_toList
      omega
    have e : natI (lenS a) = ((1024 : Nat) : Int) := by simp only [natI, lenS, ha]
    rw [e]
    unfold strCat
    rw [ByteArray.data_append, Array.toList_append]
    have q1 : (strSub b 0 128).data.toList = b.data.toList.take 128 := by simpa using q1
    have q2 : (strSub a 128 ((1024 : Nat) : Int)).data.toList = a.data.toList.drop 128 := by
      have : (strSub a 128 ((1024 : Nat) : Int)).data.toList = (a.data.toList.drop 128).take (1024 - 128) := q2
      rw [this, List.take_of_length_le (by rw [List.length_drop]; omega)]
    rw [q1, q2]
  have : (laySec 1024 1 b a).data.toList = (strCat (strSub b 0 128) (strSub a 128 (natI (lenS a)))).data.toList := e1.trans e2.symm
  cases h1 : laySec 1024 1 b a with | mk u =>
  cases h2 : strCat (strSub b 0 128) (strSub a 128 (natI (lenS a))) with | mk v =>
  rw [h1, h2] at this
  simp at this
  rw [this]

/-- lives answers true. -/
theorem c25 (h : Hp) : C 25 [] h fun v h' => v = .bool true ∧ Kept h h' := by
  refine SCalls_of_vw fol (pf := pf) (shp := shp25) (f := 25) (fn := Try.f25) (by kernel_rfl) (c := Try.f25.body.getD .skip) (by kernel_rfl) (by kernel_rfl) fun wf => ?_
  rw [vc25]
  have n7 : neI (0 : Int) 0 = false := rfl
  have ff : sel false true false = false := rfl
  have nf : notB false = true := rfl
  obtain ⟨k, M, f0, _, _⟩ := newD_fit (page := 1024) (most := 4) (image := []) (by decide)
  have f1 : L1.fit k M 1 := by have := growD_fit f0 2; rwa [s1] at this
  refine (newDisk (by decide)).wf fun v h1 wf1 _ ⟨k1, q, W1, e1, x1, hW1⟩ => ⟨_, _, e1, ?_⟩
  have o1 : Own h h1 q (newD 1024 4 []) := ⟨W1, _, x1, hW1, k1⟩
  have iN : isN (some (Addr.mk q 0 none)) = false := rfl
  simp only [n7, iN, ff, nf]
  refine ⟨fun v hh => v = .int .i64 0 ∧ Own h hh q L1 ∧ Wf hh, fun _ => ?_, fun hf => by simp at hf, ?_⟩
  · refine (o1.run wf fun x => x.grow f0 (by omega) (by omega)).wf fun v h2 wf2 _ ⟨e2, o2⟩ => ⟨_, e2, ?_⟩
    rw [s1] at o2
    exact ⟨by rw [s1], o2, wf2⟩
  rintro r1 h2 ⟨e, o2, wf2⟩
  simp at e; subst e
  simp only [n7, ff]
  rw [if_neg (by simp)]
  refine (c29 _ (by omega)).wf fun v h3 wf3 _ ⟨e3, k3⟩ => ⟨_, e3, ?_⟩
  refine (c29 _ (by omega)).wf fun v h4 wf4 _ ⟨e4, k4⟩ => ⟨_, e4, ?_⟩
  have ha : (textB 97 (Int.ofNat 0) (textN (-1) 1024)).size = 1024 := by rw [textB_size]; rfl
  have hb : (textB 98 (Int.ofNat 0) (textN (-1) 1024)).size = 1024 := by rw [textB_size]; rfl
  generalize textB 97 (Int.ofNat 0) (textN (-1) 1024) = a at ha
  generalize textB 98 (Int.ofNat 0) (textN (-1) 1024) = b at hb
  have f2 : (L2 a).fit k M 2 := by have := writeD_fit f1 (no := 0) (by omega) a; rwa [s2 ha] at this
  have f3 : (L3 a).fit k M 2 := by have := syncD_fit f2; rwa [s3] at this
  have f4 : (L4 a b).fit k M 3 := by have := writeD_fit f3 (no := 0) (by omega) b; rwa [s4 hb] at this
  have f5 : (L5 a b).fit k M 4 := by have := writeD_fit f4 (no := 1) (by omega) b; rwa [s5 hb] at this
  have f6 : (L6 a b).fit k M 4 := by have := crashD_fit f5 [1]; rwa [s6] at this
  have f7 : (L7 a b).fit k M 4 := by have := wakeD_fit f6; rwa [s7] at this
  have o4 := (o2.after wf k3).after wf k4
  refine (o4.run wf fun x => x.write f1 (by omega) (by omega)).wf fun v h5 wf5 _ ⟨e5, o5⟩ => ⟨_, e5, ?_⟩
  rw [s2 ha] at o5 ⊢
  simp only [n7, nf]
  refine ⟨fun v hh => v = .int .i64 0 ∧ Own h hh q (L3 a) ∧ Wf hh, fun _ => ?_, fun hf => by simp at hf, ?_⟩
  · refine (o5.run wf fun x => x.sync f2 (by omega)).wf fun v h2 wf2 _ ⟨e2, o2⟩ => ⟨_, e2, ?_⟩
    rw [s3] at o2
    exact ⟨by rw [s3], o2, wf2⟩
  rintro r1 h6 ⟨e, o6, wf6⟩
  simp at e; subst e
  simp only [n7, ff, nf]
  refine ⟨fun v hh => v = .int .i64 0 ∧ Own h hh q (L4 a b) ∧ Wf hh, fun _ => ?_, fun hf => by simp at hf, ?_⟩
  · refine (o6.run wf fun x => x.write f3 (by omega) (by omega)).wf fun v h2 wf2 _ ⟨e2, o2⟩ => ⟨_, e2, ?_⟩
    rw [s4 hb] at o2
    exact ⟨by rw [s4 hb], o2, wf2⟩
  rintro r1 h7 ⟨e, o7, wf7⟩
  simp at e; subst e
  simp only [n7, ff, nf]
  refine ⟨fun v hh => v = .int .i64 0 ∧ Own h hh q (L5 a b) ∧ Wf hh, fun _ => ?_, fun hf => by simp at hf, ?_⟩
  · refine (o7.run wf fun x => x.write f4 (by omega) (by omega)).wf fun v h2 wf2 _ ⟨e2, o2⟩ => ⟨_, e2, ?_⟩
    rw [s5 hb] at o2
    exact ⟨by rw [s5 hb], o2, wf2⟩
  rintro r1 h8 ⟨e, o8, wf8⟩
  simp at e; subst e
  simp only [n7, ff, nf]
  rw [if_neg (by simp)]
  refine (o8.ask fun x => x.read f5 (no := 0) (by omega)).mono fun v h9 ⟨e9, e9'⟩ => ⟨_, _, e9, ?_⟩
  subst e9'
  have r9 : readD (L5 a b) 0 = (b, 0) := rfl
  have sb : strEq b b = true := (eq_iff _ _).mpr rfl
  rw [r9]
  have nt : notB true = false := rfl
  simp only [n7, ff, nf, sb, nt]
  refine ⟨fun v hh => (∃ s' : Sv, v = s'.v ∧ s'.l = 2) ∧ Own h hh q (L5 a b) ∧ Wf hh, fun _ => ?_, fun hf => by simp at hf, ?_⟩
  · refine (o8.ask fun x => x.waits f5 (by omega)).wf fun v h2 wf2 _ ⟨s', g', e2, o2, _, k2⟩ => ⟨_, _, _, e2, ⟨s', rfl, ?_⟩, o8.after wf k2, wf2⟩
    have := o2.2; simp [L5] at this; omega
  rintro a5 l5 c5 h10 ⟨⟨s', e, hl⟩, o10, wf10⟩
  simp at e
  obtain ⟨rfl, rfl, rfl⟩ := e
  have n2 : neI (natI s'.l) 2 = false := by rw [hl]; rfl
  simp only [n7, ff, nf, n2]
  refine ⟨fun v hh => ∃ b0, v = .slice (some ⟨b0, 0, none⟩) 1 1 ∧ Blk hh b0 (some b0) [.int .u8 1] ∧ Own h hh q (L5 a b) ∧ Wf hh ∧ h10.next ≤ b0 ∧ b0 < hh.next ∧ Kept h10 hh, fun _ => ?_, fun hf => by simp at hf, ?_⟩
  · intro h11 e11
    obtain ⟨b11, k11, n11, wf11⟩ := new_blk wf10 e11
    exact ⟨_, _, _, rfl, h10.next, rfl, b11, o10.after wf k11, wf11, Nat.le_refl _, by omega, k11⟩
  rintro a7 l7 c7 h11 ⟨b0, e, b11, o11, wf11, hb0, hb1, k11⟩
  simp at e
  obtain ⟨rfl, rfl, rfl⟩ := e
  refine ⟨fun v hh => v = .int .i64 0 ∧ Own h hh q (L6 a b) ∧ Wf hh, fun _ => ?_, fun hf => by simp at hf, ?_⟩
  · have sf : SlT encF 1 h11 (some b0) (some ⟨b0, 0, none⟩) 1 1 [1] := new_one encF_w b11
    obtain ⟨W, R, x10, hW, k10⟩ := o10
    have wlt := x10.wlt wf10
    have x11 := x10.kept k11
    have o11 : Own h h11 q (L5 a b) := ⟨W, R, x11, hW, k10.trans wf k11 fun _ _ hf => hf⟩
    refine (x11.crash f5 (by omega) sf (fun y hy => ?_) (by simp)).wf fun v h2 wf2 _ ⟨e2, o2⟩ => ⟨_, e2, ?_⟩
    · simp at hy; subst hy
      exact ⟨fun hw => by have := wlt _ hw; omega, hb1⟩
    · rw [s6] at o2
      refine ⟨by rw [s6], ?_, wf2⟩
      obtain ⟨W', R', x', a', b', k'⟩ := o2
      have kk := k10.trans wf k11 fun _ _ hf => hf
      refine ⟨W', R', x', fun y hy => ?_, kk.trans wf k' fun y hy hw => by have := hW y hw; omega⟩
      rcases a' y hy with h1 | h1
      · exact hW y h1
      · exact Nat.le_trans kk.next h1
  rintro r1 h12 ⟨e, o12, wf12⟩
  simp at e; subst e
  simp only [n7, ff, nf]
  refine ⟨fun v hh => v = .bool false ∧ hh = h12, fun _ => ?_, fun hf => by simp at hf, ?_⟩
  · exact (o12.ask fun x => x.on f6).mono fun v h2 ⟨e2, e3⟩ => ⟨_, e2, rfl, e3⟩
  rintro r1 h13 ⟨e, rfl⟩
  simp at e; subst e
  simp only [ff]
  rw [if_neg (by simp)]
  refine (o12.ask fun x => x.image f6).wf fun v h14 wf14 _ ⟨s14, g14, e14, c14, _, k14⟩ => ⟨_, _, _, e14, ?_⟩
  have o14 := o12.after wf k14
  refine (o14.ask fun x => x.read f6 (no := 0) (by omega)).mono fun v h15 ⟨e15, e15'⟩ => ⟨_, _, e15, ?_⟩
  subst e15'
  have r15 : readD (L6 a b) 0 = (⟨#[]⟩, 7) := rfl
  rw [r15]
  have hl14 : s14.l = 2 := by have := c14.2; simp [L6] at this; omega
  obtain ⟨i1, i2⟩ := c14.slT.get encS_w (i := 0) (x := laySec 1024 1 b a) rfl (j := 0) (m := 1) (by omega)
  have hsub1 : (strSub b 0 128).size = 128 := (sub_bytes b 0 128 (by omega) (by omega)).2
  have hsub2 : (strSub a 128 (natI (lenS a))).size = 896 := by
    have e : natI (lenS a) = ((1024 : Nat) : Int) := by simp only [natI, lenS, ha]
    rw [e]; exact (sub_bytes a 128 1024 (by omega) (by omega)).2
  have m2 : eqI (natI s14.l) 2 = true := by rw [hl14]; rfl
  have m3 : strEq (laySec 1024 1 b a) (strCat (strSub b 0 128) (strSub a 128 (natI (lenS a)))) = true := (eq_iff _ _).mpr (lay128 ha hb)
  refine ⟨fun _ => ⟨i1, by simp only [inR]; omega⟩, laySec 1024 1 b a, fun _ => ⟨rfl, i2.trans rfl⟩, fun _ => by simp only [subOk]; omega, fun _ => by simp only [subOk, natI, lenS]; omega, fun _ => by simp only [catOk, hsub1, hsub2, IntKind.max]; decide, ?_⟩
  have e77 : eqI (7 : Int) 7 = true := rfl
  have tt : sel true true false = true := rfl
  simp only [m2, m3, e77, tt]
  refine ⟨fun v hh => v = .int .i64 0 ∧ Own h hh q (L7 a b) ∧ Wf hh, fun _ => ?_, fun hf => by simp at hf, ?_⟩
  · refine (o14.run wf fun x => x.wake f6).wf fun v h2 wf2 _ ⟨e2, o2⟩ => ⟨_, e2, ?_⟩
    rw [s7] at o2
    exact ⟨by rw [s7], o2, wf2⟩
  rintro r1 h16 ⟨e, o16, wf16⟩
  simp at e; subst e
  have e00 : eqI (0 : Int) 0 = true := rfl
  simp only [e00, tt]
  refine ⟨fun v hh => v = .int .i64 1 ∧ hh = h16, fun _ => ?_, fun hf => by simp at hf, ?_⟩
  · exact (o16.ask fun x => x.lifeC f7).mono fun v h2 ⟨e2, e3⟩ => ⟨_, e2, rfl, e3⟩
  rintro r1 h17 ⟨e, rfl⟩
  simp at e; subst e
  exact ⟨rfl, o16.kept⟩

/-- DiskNames. -/
theorem c8 (h : Hp) : C 8 [] h fun v h' => v = .bool true := by
  refine SCalls_of_vw fol (pf := pf) (shp := shp8) (f := 8) (fn := Try.f8) (by kernel_rfl) (c := Try.f8.body.getD .skip) (by kernel_rfl) (by kernel_rfl) fun wf => ?_
  rw [vc8]
  refine ⟨fun v hh => v = .bool true, fun _ => (c25 h).mono fun v h' ⟨e, _⟩ => ⟨true, e, rfl⟩, fun hf => by simp at hf, fun b h' e => ?_⟩
  simp at e; subst e; rfl
end Go.Proofs.Ytfkhjbfddeahaaa.kc

/- Many things in memory, each of its own; DiskForks. -/
set_option linter.unusedVariables false
set_option linter.unusedSimpArgs false
namespace Go.Proofs.Ytfkhjbfddeahaaa.kc
open Go Go.Cn Go.Proofs Go.Proofs.Ytfkhjbfddeahaaa.vc

/-- A thing in memory: what is said of it, the groups that its changes write to, those that it leans on. -/
structure Th where
  P : Hp → Prop
  W : Nat → Prop
  F : Nat → Prop
def Th.stable (t : Th) : Prop := ∀ {S : Nat → Prop} {h h' : Hp}, Keep S h h' → (∀ y, t.F y → ¬ S y) → t.P h → t.P h'
structure Many (h : Hp) (L : List Th) : Prop where
  at_ : ∀ t ∈ L, t.P h ∧ t.stable ∧ (∀ y, t.W y → t.F y) ∧ ∀ y, t.F y → y < h.next
  sep : L.Pairwise fun x y => Out x.W y.F ∧ Out y.W x.F

theorem Many.kept {h h' : Hp} {L : List Th} (m : Many h L) (k : Kept h h') : Many h' L :=
  ⟨fun t ht => by
    obtain ⟨a, b, c, d⟩ := m.at_ t ht
    exact ⟨b k (fun _ _ hf => hf) a, b, c, fun y hy => Nat.lt_of_lt_of_le (d y hy) k.next⟩, m.sep⟩

/-- One thing was changed. -/
theorem Many.op {h h' : Hp} {A B : List Th} {t t' : Th} (m : Many h (A ++ t :: B)) (k : Keep t.W h h') (hP : t'.P h') (hs : t'.stable) (hWF : ∀ y, t'.W y → t'.F y) (hW : ∀ y, t'.W y → t.W y ∨ h.next ≤ y) (hF : ∀ y, t'.F y → t.F y ∨ h.next ≤ y) (hlt : ∀ y, t'.F y → y < h'.next) :
    Many h' (A ++ t' :: B) := by
  have hsep := m.sep
  rw [List.pairwise_append, List.pairwise_cons] at hsep
  obtain ⟨pA, ⟨pt, pB⟩, pAB⟩ := hsep
  have oA : ∀ x ∈ A, Out x.W t.F ∧ Out t.W x.F := fun x hx => pAB x hx t (by simp)
  have one : ∀ x, x ∈ A ∨ x ∈ B → Out x.W t.F ∧ Out t.W x.F := fun x hx => by
    rcases hx with hx | hx
    · exact oA x hx
    · exact ⟨(pt x hx).2, (pt x hx).1⟩
  have all : ∀ x, x ∈ A ∨ x ∈ B → x ∈ A ++ t :: B := fun x hx => by
    rcases hx with hx | hx <;> simp [hx]
  have old : ∀ x, x ∈ A ∨ x ∈ B → x.P h' ∧ x.stable ∧ (∀ y, x.W y → x.F y) ∧ ∀ y, x.F y → y < h'.next := fun x hx => by
    obtain ⟨a, b, c, d⟩ := m.at_ x (all x hx)
    exact ⟨b k (fun y hy hw => (one x hx).2 y hw hy) a, b, c, fun y hy => Nat.lt_of_lt_of_le (d y hy) k.next⟩
  have new : ∀ x, x ∈ A ∨ x ∈ B → Out x.W t'.F ∧ Out t'.W x.F := fun x hx => by
    obtain ⟨_, _, c, d⟩ := m.at_ x (all x hx)
    exact ⟨(one x hx).1.op2 (fun y hy => d y (c y hy)) hF, (one x hx).2.op d hW⟩
  refine ⟨fun x hx => ?_, ?_⟩
  · rcases List.mem_append.mp hx with hx | hx
    · exact old x (.inl hx)
    · rcases List.mem_cons.mp hx with rfl | hx
      · exact ⟨hP, hs, hWF, hlt⟩
      · exact old x (.inr hx)
  · rw [List.pairwise_append, List.pairwise_cons]
    refine ⟨pA, ⟨fun x hx => ⟨(new x (.inr hx)).2, (new x (.inr hx)).1⟩, pB⟩, fun x hx y hy => ?_⟩
    rcases List.mem_cons.mp hy with rfl | hy
    · exact new x (.inl hx)
    · exact pAB x hx y (by simp [hy])

/-- A new thing. -/
theorem Many.add {h h' : Hp} {L : List Th} {t : Th} (m : Many h L) (k : Kept h h') (hP : t.P h') (hs : t.stable) (hWF : ∀ y, t.W y → t.F y) (hW : ∀ y, t.W y → h.next ≤ y) (hF : ∀ y, t.F y → h.next ≤ y ∨ ∀ x ∈ L, ¬ x.W y) (hlt : ∀ y, t.F y → y < h'.next) :
    Many h' (t :: L) := by
  have m' := m.kept k
  refine ⟨fun x hx => ?_, List.pairwise_cons.mpr ⟨fun x hx => ⟨?_, ?_⟩, m'.sep⟩⟩
  · rcases List.mem_cons.mp hx with rfl | hx
    · exact ⟨hP, hs, hWF, hlt⟩
    · exact m'.at_ x hx
  · intro y hy hf
    have := (m.at_ x hx).2.2.2 y hf
    have := hW y hy
    omega
  · intro y hy hf
    rcases hF y hf with h1 | h1
    · have := (m.at_ x hx).2.2.2 y ((m.at_ x hx).2.2.1 y hy); omega
    · exact h1 x hx hy

def Th.disk (d : Nat) (W R : Nat → Prop) (D : Dk) : Th := ⟨fun h => DAt h d W R D, W, fun y => W y ∨ R y⟩
theorem Th.disk_stable (d : Nat) (W R : Nat → Prop) (D : Dk) : (Th.disk d W R D).stable := fun k hn x => DAt.keep k x hn
def Th.sl {α : Type} (enc : α → List Value) (w : Nat) (g : Option Nat) (s : Sv) (L : List α) : Th := ⟨fun h => OwT enc w h g s L, fun _ => False, fun y => g = some y⟩
theorem Th.sl_stable {α : Type} (enc : α → List Value) (w : Nat) (g : Option Nat) (s : Sv) (L : List α) : (Th.sl enc w g s L).stable := fun k hn o => o.keep k hn

theorem DAt.wr {h : Hp} {d : Nat} {W R : Nat → Prop} {D : Dk} (x : DAt h d W R D) : ∀ y, R y → ¬ W y := by
  obtain ⟨g0, gs, gd, gw, ga, s, dd, w, a, x, hW⟩ := x
  intro y hy hw
  obtain ⟨r0, r1, r2, r3, r4⟩ := x.ro y hy
  rcases (hW y).mp hw with hw | hw | hw | hw | hw
  · exact r0 hw
  · exact r1 hw
  · exact r2 hw
  · exact r3 hw
  · exact r4 hw

section
variable {h h' : Hp} {A B L : List Th} {d : Nat} {W R : Nat → Prop} {D D' : Dk}
theorem Many.disk (m : Many h (A ++ Th.disk d W R D :: B)) : DAt h d W R D := (m.at_ (Th.disk d W R D) (by simp)).1
theorem Many.opD (wf' : Wf h') (m : Many h (A ++ Th.disk d W R D :: B)) (o : Op h d W R D' h') : ∃ W' R', Many h' (A ++ Th.disk d W' R' D' :: B) := by
  obtain ⟨W', R', x, a, b, k⟩ := o
  refine ⟨W', R', m.op k x (Th.disk_stable _ _ _ _) (fun _ hy => .inl hy) a (fun y hy => ?_) (x.flt wf')⟩
  rcases hy with hy | hy
  · exact (a y hy).imp .inl id
  · exact (b y hy).imp .inr id
/-- A call that changes a disk, among many things. -/
theorem Many.run {f : FuncId} {args : List Value} {r : Value} (m : Many h (A ++ Th.disk d W R D :: B)) (hc : DAt h d W R D → C f args h fun v h' => v = r ∧ Op h d W R D' h') : C f args h fun v h' => v = r ∧ ∃ W' R', Many h' (A ++ Th.disk d W' R' D' :: B) :=
  (hc m.disk).wf fun v h' wf' _ ⟨e, o⟩ => ⟨e, m.opD wf' o⟩
theorem Many.addD (wf' : Wf h') (m : Many h L) (k : Kept h h') {q : Nat} {W' R' : Nat → Prop} (x : DAt h' q W' R' D) (hW : ∀ y, W' y → h.next ≤ y) (hR : ∀ y, R' y → ∀ x ∈ L, ¬ x.W y) : Many h' (Th.disk q W' R' D :: L) :=
  m.add k x (Th.disk_stable _ _ _ _) (fun _ hy => .inl hy) hW (fun y hy => by
    rcases hy with hy | hy
    · exact .inl (hW y hy)
    · exact .inr (hR y hy)) (x.flt wf')
/-- A fork, among many things. -/
theorem Many.fork {k M N : Nat} (m : Many h (A ++ Th.disk d W R D :: B)) (fit : D.fit k M N) (hN : N ≤ 8589934592) :
    C 31 [.pointer (some ⟨d, 0, none⟩)] h fun v h' => ∃ q W', v = .pointer (some ⟨q, 0, none⟩) ∧ Many h' (Th.disk q W' R D :: (A ++ Th.disk d W R D :: B)) := by
  refine (m.disk.fork fit hN).wf fun v h' wf' _ ⟨q, W', e, x, hW, k⟩ => ⟨q, W', e, m.addD wf' k x hW fun y hy t ht => ?_⟩
  have hsep := m.sep
  rw [List.pairwise_append, List.pairwise_cons] at hsep
  obtain ⟨pA, ⟨pt, pB⟩, pAB⟩ := hsep
  rcases List.mem_append.mp ht with ht | ht
  · exact fun hw => (pAB t ht (Th.disk d W R D) (by simp)).1 y hw (.inr hy)
  · rcases List.mem_cons.mp ht with rfl | ht
    · exact m.disk.wr y hy
    · exact fun hw => (pt t ht).2 y hw (.inr hy)
end

/-! ### a disk that nobody armed -/
structure Calm (D : Dk) : Prop where
  arms : D.arms = []
  on : D.off = false
  taken : D.taken = 0

theorem actD_calm {D : Dk} (c : D.arms = []) (kind refused : Int) (adds : List Wt) : actD D kind refused adds = ({ D with waits := D.waits ++ adds }, 0) := by
  unfold actD; rw [c]; simp [c]

theorem playD_calm {D : Dk} (c : Calm D) (s : Stp) : Calm (playD D s).1 := by
  have hw : ∀ no data, Calm (writeD D no data).1 := by
    intro no data
    unfold writeD
    rw [actD_calm c.arms]
    split
    · exact c
    · split
      · exact c
      · split
        · exact c
        · split
          · rename_i h; exact absurd rfl h
          · exact ⟨by simp [c.arms], c.on, c.taken⟩
  have hg : ∀ n, Calm (growD D n).1 := by
    intro n
    unfold growD
    rw [actD_calm c.arms]
    split
    · exact c
    · split
      · exact c
      · split
        · exact c
        · split
          · rename_i h; exact absurd rfl h
          · exact ⟨by simp [c.arms], c.on, c.taken⟩
  have hs : Calm (syncD D).1 := by
    unfold syncD
    rw [actD_calm c.arms]
    split
    · exact c
    · split
      · rename_i h; exact absurd rfl h
      · exact ⟨by simp [c.arms], c.on, c.taken⟩
  unfold playD
  split
  · exact hw _ _
  · split
    · exact hg _
    · split
      · exact hs
      · exact c

/-- A step of a script is read. -/
theorem step_at {h : Hp} {G : Option Nat} {a : Option Addr} {l c : Nat} {L : List Stp} (s : SlT Stp.enc 9 h G a l c L) {i : Nat} (hi : i < l) : ∃ x, L[i]? = some x ∧ (a.isSome = true ∧ inR (i : Int) l) ∧ h.cellsAt (blk a) (plusI (off a) (i : Int) 9) 9 = some x.enc := by
  have hL := s.len
  refine ⟨L[i]'(by omega), List.getElem?_eq_getElem _, ?_⟩
  obtain ⟨i1, i2⟩ := s.get Stp.w (List.getElem?_eq_getElem (l := L) (i := i) (by omega)) (j := 0) (m := 9) (by omega)
  exact ⟨⟨i1, by simp only [inR]; omega⟩, i2.trans rfl⟩

/-- A list that was handed in. -/
def Th.arg {α : Type} (enc : α → List Value) (w : Nat) (a : Option Addr) (l c : Nat) (L : List α) : Th := ⟨fun h => SlT enc w h none a l c L, fun _ => False, fun _ => False⟩
theorem Th.arg_stable {α : Type} (enc : α → List Value) (w : Nat) (a : Option Addr) (l c : Nat) (L : List α) : (Th.arg enc w a l c L).stable := fun k hn o => o.keep k (by simp)
theorem Many.nil (h : Hp) : Many h [] := ⟨by simp, List.Pairwise.nil⟩
theorem Many.arg {h : Hp} {L : List Th} (m : Many h L) {α : Type} {enc : α → List Value} {w : Nat} {a : Option Addr} {l c : Nat} {M : List α} (s : SlT enc w h none a l c M) : Many h (Th.arg enc w a l c M :: L) :=
  m.add (Keep.refl _ _) s (Th.arg_stable _ _ _ _ _ _) (fun _ hy => hy) (fun _ hy => hy.elim) (fun _ hy => hy.elim) (fun _ hy => hy.elim)

theorem goesD_taken (D : Dk) (F : List Int) : (goesD D F).taken = addW .i64 D.taken 1 := rfl

/-- A variable of our own. -/
def Th.loc (b : Nat) (cs : List Value) : Th := ⟨fun h => Blk h b (some b) cs, fun _ => False, fun y => y = b⟩
theorem Th.loc_stable (b : Nat) (cs : List Value) : (Th.loc b cs).stable := fun k hn o => k.blk o fun y hy => hn y (by simp at hy; exact hy.symm)
theorem Many.loc {h h' : Hp} {L : List Th} (m : Many h L) (k : Kept h h') {b : Nat} {cs : List Value} (hb : Blk h' b (some b) cs) (hn : h.next ≤ b) (wf' : Wf h') : Many h' (Th.loc b cs :: L) :=
  m.add k hb (Th.loc_stable _ _) (fun _ hy => hy.elim) (fun _ hy => hy.elim) (fun y hy => .inl (by have : y = b := hy; omega)) (fun y hy => by have : y = b := hy; have := hb.glt wf'; omega)
theorem Many.sub {h : Hp} {L L' : List Th} (m : Many h L) (s : L'.Sublist L) : Many h L' := ⟨fun t ht => m.at_ t (s.subset ht), m.sep.sublist s⟩

theorem Many.perm {h : Hp} {L L' : List Th} (m : Many h L) (p : L.Perm L') : Many h L' :=
  ⟨fun t ht => m.at_ t (p.mem_iff.mpr ht), (p.pairwise_iff (fun h => ⟨h.2, h.1⟩)).mp m.sep⟩
theorem Many.rot3 {h : Hp} {a b c : Th} {L : List Th} (m : Many h (a :: b :: c :: L)) : Many h (b :: c :: a :: L) := m.perm ((List.Perm.swap b a (c :: L)).trans (List.Perm.cons b (List.Perm.swap c a L)))
theorem Many.told {α : Type} {enc : α → List Value} {w : Nat} {h h' : Hp} {L : List Th} (m : Many h L) (k : Kept h h') (wf' : Wf h') {g : Option Nat} {s : Sv} {M : List α} (o : OwT enc w h' g s M) (hg : g = none ∨ ∃ y, g = some y ∧ h.next ≤ y) : Many h' (Th.sl enc w g s M :: L) :=
  m.add k o (Th.sl_stable _ _ _ _ _) (fun _ hy => hy.elim) (fun _ hy => hy.elim) (fun y hy => .inl (by
    rcases hg with rfl | ⟨z, rfl, hz⟩
    · have hy : none = some y := hy
      simp at hy
    · have hy : some z = some y := hy
      simp at hy; omega)) (fun y hy => o.1.glt wf' y hy)
end Go.Proofs.Ytfkhjbfddeahaaa.kc

/- What a loss of power leaves: the plain law. -/
set_option linter.unusedVariables false
set_option linter.unusedSimpArgs false
namespace Go.Proofs.Ytfkhjbfddeahaaa.kc
open Go Go.Cn Go.Proofs Go.Proofs.Ytfkhjbfddeahaaa.vc

theorem cut8_get {B V : List UInt8} {o : Nat} (h : o + V.length ≤ B.length) (j : Nat) : (cut8 B o V)[j]? = if o ≤ j ∧ j < o + V.length then V[j - o]? else B[j]? := by
  unfold cut8
  have h1 : (B.take o).length = o := by rw [List.length_take]; omega
  rw [List.append_assoc, List.getElem?_append, h1]
  split
  · rename_i hj
    rw [if_neg (by omega), List.getElem?_take, if_pos hj]
  · rename_i hj
    rw [List.getElem?_append]
    split
    · rename_i hj2
      rw [if_pos (by omega)]
    · rename_i hj2
      rw [if_neg (by omega), List.getElem?_drop]
      congr 1; omega

theorem layN_get {k : Nat} (hk : 0 < k) {f : Int} {data B : List UInt8} (hd : data.length = 8 * k) (hB : B.length = 8 * k) : ∀ (n : Nat), n ≤ 8 → ∀ j, (layN k f data n B)[j]? = if j < n * k ∧ bit f (j / k) = true then data[j]? else B[j]?
  | 0, _, j => by simp [layN]
  | n + 1, hn, j => by
    have hnk : n * k ≤ 8 * k := Nat.mul_le_mul_right k (by omega)
    have hnk1 : n * k + k ≤ 8 * k := by rw [← Nat.succ_mul]; exact Nat.mul_le_mul_right k hn
    have hl : (layN k f data n B).length = 8 * k := by rw [layN_len (by omega), hB]
    have ih := layN_get hk hd hB n (by omega) (f := f)
    have hs : (n + 1) * k = n * k + k := Nat.succ_mul n k
    have hdiv : n * k ≤ j → j < n * k + k → j / k = n := fun h1 h2 => by
      rw [Nat.div_eq_of_lt_le h1 (by rw [Nat.succ_mul]; exact h2)]
    have hV : ((data.drop (n * k)).take k).length = k := by rw [List.length_take, List.length_drop]; omega
    rw [layN, lay1, hs]
    by_cases hb : bit f n = true
    · rw [if_pos hb, cut8_get (by rw [hV, hl]; exact hnk1), hV, ih j]
      by_cases h1 : n * k ≤ j ∧ j < n * k + k
      · rw [if_pos h1, if_pos ⟨h1.2, by rw [hdiv h1.1 h1.2]; exact hb⟩, List.getElem?_take, if_pos (by omega), List.getElem?_drop]
        congr 1; omega
      · rw [if_neg h1]
        by_cases h2 : j < n * k
        · have : (j < n * k + k) ↔ (j < n * k) := by omega
          simp only [this]
        · rw [if_neg (by omega), if_neg (by omega)]
    · rw [if_neg hb, ih j]
      by_cases h1 : n * k ≤ j ∧ j < n * k + k
      · rw [if_neg (by omega), if_neg (by rw [hdiv h1.1 h1.2]; exact fun h => hb h.2)]
      · by_cases h2 : j < n * k
        · have : (j < n * k + k) ↔ (j < n * k) := by omega
          simp only [this]
        · rw [if_neg (by omega), if_neg (by omega)]

/-- A sector of a page. -/
def secAt (x : ByteArray) (s : Nat) : List UInt8 := (x.data.toList.drop (s * 128)).take 128
theorem list_len {x : ByteArray} {n : Nat} (h : x.size = n) : x.data.toList.length = n := by
  have : x.data.toList.length = x.size := Array.length_toList
  omega
theorem laySec_get {f : Int} {data old : ByteArray} (hd : data.size = 1024) (ho : old.size = 1024) (j : Nat) : (laySec 1024 f data old).data.toList[j]? = if bit f (j / 128) = true then data.data.toList[j]? else old.data.toList[j]? := by
  have e : (laySec 1024 f data old).data.toList = layN 128 f data.data.toList 8 old.data.toList := rfl
  rw [e, layN_get (by omega) (list_len hd) (list_len ho) 8 (by omega)]
  by_cases hj : j < 8 * 128
  · simp [hj]
  · rw [if_neg (by omega)]
    have h1 : data.data.toList[j]? = none := List.getElem?_eq_none (by rw [list_len hd]; omega)
    have h2 : old.data.toList[j]? = none := List.getElem?_eq_none (by rw [list_len ho]; omega)
    rw [h1, h2]; simp
theorem laySec_sec {f : Int} {data old : ByteArray} (hd : data.size = 1024) (ho : old.size = 1024) (s : Nat) : secAt (laySec 1024 f data old) s = if bit f s = true then secAt data s else secAt old s := by
  have key : ∀ x : ByteArray, (∀ i, i < 128 → (laySec 1024 f data old).data.toList[s * 128 + i]? = x.data.toList[s * 128 + i]?) → secAt (laySec 1024 f data old) s = secAt x s := by
    intro x hx
    apply List.ext_getElem?
    intro i
    unfold secAt
    rw [List.getElem?_take, List.getElem?_take]
    split
    · rename_i hi; rw [List.getElem?_drop, List.getElem?_drop]; exact hx i hi
    · rfl
  have hdiv : ∀ i, i < 128 → (s * 128 + i) / 128 = s := fun i hi => by omega
  split
  · rename_i hb
    exact key _ fun i hi => by rw [laySec_get hd ho, hdiv i hi, if_pos hb]
  · rename_i hb
    exact key _ fun i hi => by rw [laySec_get hd ho, hdiv i hi, if_neg hb]
theorem lay255 {data old : ByteArray} (hd : data.size = 1024) (ho : old.size = 1024) : laySec 1024 255 data old = data := by
  have : (laySec 1024 255 data old).data.toList = data.data.toList := by
    apply List.ext_getElem?
    intro j
    rw [laySec_get hd ho]
    by_cases hj : j < 1024
    · have h8 : j / 128 = 0 ∨ j / 128 = 1 ∨ j / 128 = 2 ∨ j / 128 = 3 ∨ j / 128 = 4 ∨ j / 128 = 5 ∨ j / 128 = 6 ∨ j / 128 = 7 := by omega
      rw [if_pos]
      rcases h8 with h | h | h | h | h | h | h | h <;> rw [h] <;> decide
    · have h1 : data.data.toList[j]? = none := List.getElem?_eq_none (by rw [list_len hd]; omega)
      have h2 : old.data.toList[j]? = none := List.getElem?_eq_none (by rw [list_len ho]; omega)
      rw [h1, h2]; simp
  cases h1 : laySec 1024 255 data old with | mk u =>
  cases data with | mk v =>
  rw [h1] at this
  simp at this
  rw [this]

theorem goN_app (b : Int) (F : List Int) (W V : List Wt) (dur : List ByteArray) : ∀ n, n ≤ W.length → goN b F (W ++ V) dur n = goN b F W dur n
  | 0, _ => rfl
  | n + 1, h => by
    have e : (W ++ V)[n]? = W[n]? := List.getElem?_append_left (by omega)
    unfold goN
    rw [e, goN_app b F W V dur n (by omega)]

theorem goN_snoc (b : Int) (F : List Int) (W : List Wt) (x : Wt) (dur : List ByteArray) : goN b F (W ++ [x]) dur (W ++ [x]).length = goStep b F W.length x (goN b F W dur W.length) := by
  have e : (W ++ [x])[W.length]? = some x := by simp
  have hl : (W ++ [x]).length = W.length + 1 := by simp
  rw [hl, goN, e]
  simp only
  rw [goN_app b F W [x] dur W.length (Nat.le_refl _)]

/-- What was on a page at the last sync. -/
def oldAt (S : List ByteArray) (no : Nat) : ByteArray := (S[no]?).getD z1024

structure Safe (D : Dk) (S : List ByteArray) (Wr : Nat → List ByteArray) : Prop where
  calm : Calm D
  bytes : D.bytes = 1024
  dur : D.dur = S
  szS : ∀ x ∈ S, x.size = 1024
  szD : ∀ x ∈ D.seen, x.size = 1024
  len : S.length ≤ D.seen.length
  waits : ∀ x ∈ D.waits, (x.act = 1 ∧ 0 ≤ x.page ∧ x.page < 8 ∧ x.page < D.seen.length ∧ x.data ∈ Wr x.page.toNat) ∨ (x.act = 2 ∧ 0 ≤ x.pages ∧ x.pages ≤ D.seen.length)
  all : ∀ F : List Int, (∀ i, i < D.waits.length → F[i]? = some 255) → goN 1024 F D.waits S D.waits.length = D.seen
  szW : ∀ no, ∀ w ∈ Wr no, w.size = 1024

theorem stretch_none {b : Int} {L : List ByteArray} {n : Int} (h : n ≤ L.length) : stretchL b L n = L := by
  unfold stretchL
  have : n.toNat - L.length = 0 := by omega
  rw [this]; simp
theorem stretch_len (b : Int) (L : List ByteArray) (n : Int) : ((stretchL b L n).length : Int) = max (L.length : Int) n := by
  unfold stretchL
  rw [List.length_append, List.length_replicate]
  omega

/-- A write that was answered OK. -/
theorem Safe.write {D : Dk} {S : List ByteArray} {Wr : Nat → List ByteArray} (sf : Safe D S Wr) {no : Int} (hno : 0 ≤ no ∧ no < 8) {data : ByteArray} (h1 : no < D.seen.length) (h2 : data.size = 1024) {Wr' : Nat → List ByteArray} (hw : ∀ i, Wr' i = if (i : Int) = no then Wr i ++ [data] else Wr i) (a : List Ar) (ha : a = []) (wr : Int) :
    Safe { D with arms := a, waits := D.waits ++ [⟨1, no, 0, data⟩], seen := D.seen.set no.toNat data, wr := wr } S Wr' := by
  subst ha
  have hmem : ∀ i w, w ∈ Wr i → w ∈ Wr' i := fun i w h => by rw [hw]; split <;> simp [h]
  refine ⟨⟨rfl, sf.calm.on, sf.calm.taken⟩, sf.bytes, sf.dur, sf.szS, fun x hx => ?_, by simpa using sf.len, fun x hx => ?_, fun F hF => ?_, fun i w hwi => ?_⟩
  · rcases List.mem_or_eq_of_mem_set hx with hx | hx
    · exact sf.szD x hx
    · rw [hx]; exact h2
  · simp only [List.length_set]
    rcases List.mem_append.mp hx with hx | hx
    · rcases sf.waits x hx with ⟨q1, q2, q3, q4, q5⟩ | q
      · exact .inl ⟨q1, q2, q3, q4, hmem _ _ q5⟩
      · exact .inr q
    · simp at hx; subst hx
      refine .inl ⟨rfl, hno.1, hno.2, h1, ?_⟩
      rw [hw, if_pos (by simp only; omega)]; simp
  · simp only [List.length_append, List.length_cons, List.length_nil] at hF
    show goN 1024 F (D.waits ++ [Wt.mk 1 no 0 data]) S (D.waits ++ [Wt.mk 1 no 0 data]).length = _
    rw [goN_snoc, sf.all F fun i hi => hF i (by omega)]
    unfold goStep
    rw [hF D.waits.length (by omega)]
    simp only
    rw [if_neg (by omega), if_neg (by omega)]
    unfold layL
    rw [if_neg (by omega), stretch_none (by omega)]
    simp only
    have hlt : no.toNat < D.seen.length := by omega
    rw [List.getElem?_eq_getElem hlt, Option.getD_some, lay255 h2 (sf.szD _ (List.getElem_mem hlt))]
  · rw [hw] at hwi
    split at hwi
    · rcases List.mem_append.mp hwi with hwi | hwi
      · exact sf.szW i w hwi
      · simp at hwi; rw [hwi]; exact h2
    · exact sf.szW i w hwi

/-- A growth that was answered OK. -/
theorem Safe.grow {D : Dk} {S : List ByteArray} {Wr : Nat → List ByteArray} (sf : Safe D S Wr) {n : Int} (hn : 1 ≤ n) (a : List Ar) (ha : a = []) (gr : Int) (data : ByteArray) :
    Safe { D with arms := a, waits := D.waits ++ [⟨2, 0, D.seen.length + n, data⟩], seen := stretchL D.bytes D.seen (D.seen.length + n), gr := gr } S Wr := by
  subst ha
  have hsl := stretch_len D.bytes D.seen (D.seen.length + n)
  have h1 : ((stretchL D.bytes D.seen (D.seen.length + n)).length : Int) = D.seen.length + n := by omega
  refine ⟨⟨rfl, sf.calm.on, sf.calm.taken⟩, sf.bytes, sf.dur, sf.szS, fun x hx => ?_, ?_, fun x hx => ?_, fun F hF => ?_, sf.szW⟩
  · have hx : x ∈ stretchL D.bytes D.seen (D.seen.length + n) := hx
    unfold stretchL at hx
    rcases List.mem_append.mp hx with hx | hx
    · exact sf.szD x hx
    · rw [(List.mem_replicate.mp hx).2, zeros_size, sf.bytes]; rfl
  · have := sf.len; simp only; omega
  · simp only
    rcases List.mem_append.mp hx with hx | hx
    · rcases sf.waits x hx with ⟨q1, q2, q3, q4, q5⟩ | ⟨q1, q2, q3⟩
      · exact .inl ⟨q1, q2, q3, by omega, q5⟩
      · exact .inr ⟨q1, q2, by omega⟩
    · simp at hx; subst hx
      exact .inr ⟨rfl, by simp only; omega, by simp only; omega⟩
  · simp only [List.length_append, List.length_cons, List.length_nil] at hF
    show goN 1024 F (D.waits ++ [Wt.mk 2 0 (D.seen.length + n) data]) S (D.waits ++ [Wt.mk 2 0 (D.seen.length + n) data]).length = _
    rw [goN_snoc, sf.all F fun i hi => hF i (by omega)]
    unfold goStep
    rw [hF D.waits.length (by omega)]
    simp only
    rw [if_neg (by omega), if_pos trivial, sf.bytes]

/-- A sync. -/
theorem Safe.sync {D : Dk} {S : List ByteArray} {Wr : Nat → List ByteArray} (sf : Safe D S Wr) (a : List Ar) (ha : a = []) (sy : Int) :
    Safe { D with arms := a, waits := [], dur := D.seen, sy := sy } D.seen fun _ => [] := by
  subst ha
  exact ⟨⟨rfl, sf.calm.on, sf.calm.taken⟩, sf.bytes, rfl, sf.szD, sf.szD, Nat.le_refl _, by simp, fun F hF => rfl, by simp⟩

/-- How long the image gets. -/
def longN (F : List Int) (W : List Wt) (l0 : Int) : Nat → Int
  | 0 => l0
  | n + 1 => match F[n]?, W[n]? with
    | some f, some x =>
      let m := if f ≠ 0 ∧ x.act = 2 then max (longN F W l0 n) x.pages else longN F W l0 n
      if f ≠ 0 ∧ x.act = 1 then max m (x.page + 1) else m
    | _, _ => longN F W l0 n

theorem longN_stop {F : List Int} {W : List Wt} {l0 : Int} {i : Nat} (h : F.length ≤ i) : ∀ n, i ≤ n → longN F W l0 n = longN F W l0 i
  | 0, hn => by have : i = 0 := by omega
                subst this; rfl
  | n + 1, hn => by
    by_cases hi : i = n + 1
    · rw [hi]
    · rw [longN, List.getElem?_eq_none (by omega)]
      simp only
      exact longN_stop h n (by omega)

/-- THE LAW: each sector is that of the last sync, or that of a write that waited. -/
structure Left (S : List ByteArray) (Wr : Nat → List ByteArray) (top : Nat) (l : Int) (L : List ByteArray) : Prop where
  len : (L.length : Int) = l
  lo : S.length ≤ L.length
  hi : L.length ≤ top
  size : ∀ (no : Nat) x, L[no]? = some x → x.size = 1024
  none : ∀ (no : Nat) x, L[no]? = some x → Wr no = [] → x = oldAt S no
  secs : ∀ (no : Nat) x, L[no]? = some x → ∀ s, s < 8 → secAt x s = secAt (oldAt S no) s ∨ ∃ w ∈ Wr no, secAt x s = secAt w s

theorem Left.stretch {S : List ByteArray} {Wr : Nat → List ByteArray} {top : Nat} {l : Int} {L : List ByteArray} (lf : Left S Wr top l L) {n : Int} (hn : n ≤ top) : Left S Wr top (max l n) (stretchL 1024 L n) := by
  have hsl := stretch_len 1024 L n
  have hlen := lf.len
  have hlo := lf.lo
  have hhi := lf.hi
  have get : ∀ (no : Nat) x, (stretchL 1024 L n)[no]? = some x → L[no]? = some x ∨ (S.length ≤ no ∧ x = z1024) := by
    intro no x hx
    unfold stretchL at hx
    rw [List.getElem?_append] at hx
    split at hx
    · exact .inl hx
    · rename_i hge
      right
      rw [List.getElem?_replicate] at hx
      split at hx
      · simp at hx; exact ⟨by omega, hx.symm⟩
      · simp at hx
  have zold : ∀ no, S.length ≤ no → z1024 = oldAt S no := fun no h => by unfold oldAt; rw [List.getElem?_eq_none h]; rfl
  refine ⟨by omega, by omega, by omega, fun no x hx => ?_, fun no x hx hw => ?_, fun no x hx s hs => ?_⟩
  · rcases get no x hx with h | ⟨h, rfl⟩
    · exact lf.size no x h
    · exact zeros_size 1024
  · rcases get no x hx with h | ⟨h, rfl⟩
    · exact lf.none no x h hw
    · exact zold no h
  · rcases get no x hx with h | ⟨h, rfl⟩
    · exact lf.secs no x h s hs
    · left; rw [zold no h]

theorem Left.lay {S : List ByteArray} {Wr : Nat → List ByteArray} {top : Nat} {l : Int} {L : List ByteArray} (lf : Left S Wr top l L) {no f : Int} (h0 : 0 ≤ no) (hn : no < top) {data : ByteArray} (hd : data.size = 1024) (hw : data ∈ Wr no.toNat) (hf : f ≠ 0) : Left S Wr top (max l (no + 1)) (layL 1024 L no data f) := by
  have ls := lf.stretch (n := no + 1) (by omega)
  unfold layL
  rw [if_neg hf]
  simp only
  generalize stretchL 1024 L (no + 1) = L1 at ls
  have hlen := ls.len
  have hlt : no.toNat < L1.length := by omega
  have hold : L1[no.toNat]? = some (L1[no.toNat]) := List.getElem?_eq_getElem hlt
  generalize L1[no.toNat] = old at hold
  rw [hold, Option.getD_some]
  have hosz := ls.size _ _ hold
  have get : ∀ (i : Nat) x, (L1.set no.toNat (laySec 1024 f data old))[i]? = some x → (i ≠ no.toNat ∧ L1[i]? = some x) ∨ (i = no.toNat ∧ x = laySec 1024 f data old) := by
    intro i x hx
    by_cases hi : no.toNat = i
    · subst hi
      rw [List.getElem?_set_self hlt] at hx
      simp at hx
      exact .inr ⟨rfl, hx.symm⟩
    · rw [List.getElem?_set_ne hi] at hx
      exact .inl ⟨fun h => hi h.symm, hx⟩
  refine ⟨by rw [List.length_set]; exact hlen, by rw [List.length_set]; exact ls.lo, by rw [List.length_set]; exact ls.hi, fun i x hx => ?_, fun i x hx hw' => ?_, fun i x hx s hs => ?_⟩
  · rcases get i x hx with ⟨_, h⟩ | ⟨_, rfl⟩
    · exact ls.size i x h
    · exact laySec_size (k := 128) (by omega) hosz
  · rcases get i x hx with ⟨_, h⟩ | ⟨rfl, _⟩
    · exact ls.none i x h hw'
    · rw [hw'] at hw; simp at hw
  · rcases get i x hx with ⟨_, h⟩ | ⟨rfl, rfl⟩
    · exact ls.secs i x h s hs
    · rw [laySec_sec hd hosz]
      split
      · exact .inr ⟨data, hw, rfl⟩
      · exact ls.secs _ _ hold s hs

theorem Safe.left {D : Dk} {S : List ByteArray} {Wr : Nat → List ByteArray} (sf : Safe D S Wr) (F : List Int) : ∀ n, n ≤ D.waits.length → Left S Wr D.seen.length (longN F D.waits S.length n) (goN 1024 F D.waits S n)
  | 0, _ => by
    refine ⟨rfl, Nat.le_refl _, sf.len, fun no x hx => sf.szS x (List.mem_of_getElem? hx), fun no x hx _ => ?_, fun no x hx s _ => .inl ?_⟩
    · have hx : S[no]? = some x := hx
      unfold oldAt; rw [hx]; rfl
    · have hx : S[no]? = some x := hx
      unfold oldAt; rw [hx]; rfl
  | n + 1, hn => by
    have ih := sf.left F n (by omega)
    have hz : D.waits[n]? = some (D.waits[n]'(by omega)) := List.getElem?_eq_getElem _
    generalize D.waits[n]'(by omega) = z at hz
    have hw := sf.waits z (List.mem_of_getElem? hz)
    rw [longN, goN, hz]
    simp only
    unfold goStep
    cases hf : F[n]? with
    | none => exact ih
    | some f =>
      simp only
      by_cases h0 : f = 0
      · subst h0; simpa using ih
      · rw [if_neg h0]
        rcases hw with ⟨q1, q2, q3, q4, q5⟩ | ⟨q1, q2, q3⟩
        · rw [if_neg (show ¬ z.act = 2 by omega), if_neg (show ¬ (f ≠ 0 ∧ z.act = 2) by omega), if_pos ⟨h0, q1⟩]
          exact ih.lay q2 (by omega) (sf.szW _ _ q5) q5 h0
        · rw [if_pos q1, if_neg (show ¬ (f ≠ 0 ∧ z.act = 1) by omega), if_pos ⟨h0, q1⟩]
          exact ih.stretch (by omega)
end Go.Proofs.Ytfkhjbfddeahaaa.kc

/- The document's disk in memory; its small contracts. -/
set_option linter.unusedVariables false
set_option linter.unusedSimpArgs false
namespace Go.Proofs.Ytfkhjbfddeahaaa.kc
open Go Go.Cn Go.Proofs Go.Proofs.Ytfkhjbfddeahaaa.vc

/-! ### things that are written to -/
def Th.var (b : Nat) (cs : List Value) : Th := ⟨fun h => Blk h b (some b) cs, fun y => y = b, fun y => y = b⟩
theorem Th.var_stable (b : Nat) (cs : List Value) : (Th.var b cs).stable := fun k hn o => k.blk o fun y hy => hn y (by simp at hy; exact hy.symm)
def Th.own {α : Type} (enc : α → List Value) (w : Nat) (g : Option Nat) (s : Sv) (L : List α) : Th := ⟨fun h => OwT enc w h g s L, fun y => g = some y, fun y => g = some y⟩
theorem Th.own_stable {α : Type} (enc : α → List Value) (w : Nat) (g : Option Nat) (s : Sv) (L : List α) : (Th.own enc w g s L).stable := fun k hn o => o.keep k hn
/-- Fates that arms name. -/
abbrev Fk := Option Addr × Nat × Nat × List Int
def Ar.fk (x : Ar) : Fk := (x.fa, x.fl, x.fc, x.fates)
def Th.fates (R : Nat → Prop) (Q : List Fk) : Th := ⟨fun h => ∀ x ∈ Q, ∃ G : Option Nat, (∀ y, G = some y → R y) ∧ SlT encF 1 h G x.1 x.2.1 x.2.2.1 x.2.2.2, fun _ => False, R⟩
theorem Th.fates_stable (R : Nat → Prop) (Q : List Fk) : (Th.fates R Q).stable := fun k hn o x hx => by
  obtain ⟨G, hG, s⟩ := o x hx
  exact ⟨G, hG, s.keep k fun y hy => hn y (hG y hy)⟩

section
variable {h h' : Hp} {A B L : List Th}
theorem Many.var {b : Nat} {cs : List Value} (m : Many h (A ++ Th.var b cs :: B)) : Blk h b (some b) cs := (m.at_ (Th.var b cs) (by simp)).1
theorem Many.own {α : Type} {enc : α → List Value} {w : Nat} {g : Option Nat} {s : Sv} {L : List α} (m : Many h (A ++ Th.own enc w g s L :: B)) : OwT enc w h g s L := (m.at_ (Th.own enc w g s L) (by simp)).1
/-- A cell is written. -/
theorem Many.set (wf : Wf h) {b o : Nat} {cs : List Value} (m : Many h (A ++ Th.var b cs :: B)) (ho : o < cs.length) {v : Value} (hv : isCell v = true) : ∃ h', h.store b o [v] = some h' ∧ Many h' (A ++ Th.var b (cs.set o v) :: B) ∧ Wf h' := by
  obtain ⟨h', h1, h2, h3, h4, h5⟩ := m.var.set ho hv
  exact ⟨h', h1, m.op h3 h2 (Th.var_stable _ _) (fun _ hy => hy) (fun _ hy => .inl hy) (fun _ hy => .inl hy) (fun y hy => by have : y = b := hy; subst this; exact h2.glt (h5 wf)), h5 wf⟩
/-- A list grows by one. -/
theorem Many.push (wf : Wf h) {α : Type} {enc : α → List Value} {w : Nat} {g : Option Nat} {s : Sv} {L : List α} (m : Many h (A ++ Th.own enc w g s L :: B)) {t xt elem e : TypeId} {bytes : Nat} (ht : AppT Try.prog t xt elem w bytes) {x : α} {h1 : Hp} (he : h1 = h.alloc (enc x) e) (hw : (enc x).length = w) (hc : (enc x).all isCell = true) (hr : roomy (s.l + 1) bytes = true) :
    ∃ s' g' h', cappend Try.prog t xt (.slice s.a s.l s.c) (.slice (some ⟨h.next, 0, none⟩) 1 1) h1 = some (.slice s'.a s'.l s'.c, h') ∧ Many h' (A ++ Th.own enc w g' s' (L ++ [x]) :: B) ∧ s'.l = s.l + 1 ∧ Wf h' := by
  obtain ⟨a', c', g', h', e1, o1, nw, k1, wf1⟩ := Ow.append1 wf ht m.own.1 he hw hc hr
  have o2 : OwT enc w h' g' ⟨a', s.l + 1, c'⟩ (L ++ [x]) := ⟨by rw [List.flatMap_append]; simpa using o1, by have := m.own.2; simp; omega⟩
  have hn : ∀ y, g' = some y → g = some y ∨ h.next ≤ y := fun y hy => by
    rcases nw with rfl | ⟨z, rfl, hz⟩
    · exact .inl hy
    · simp at hy; subst hy; exact .inr hz
  exact ⟨⟨a', s.l + 1, c'⟩, g', h', e1, m.op k1 o2 (Th.own_stable _ _ _ _ _) (fun _ hy => hy) hn hn (o2.1.glt wf1), rfl, wf1⟩
/-- An element is written. -/
theorem Many.setOwn (wf : Wf h) {α : Type} {enc : α → List Value} {w : Nat} (hw : ∀ x, (enc x).length = w) {g : Option Nat} {s : Sv} {L : List α} (m : Many h (A ++ Th.own enc w g s L :: B)) {i : Nat} (hi : i < L.length) {x : α} (hc : (enc x).all isCell = true) :
    s.a.isSome = true ∧ ∃ h', h.store (blk s.a) (off s.a + i * w) (enc x) = some h' ∧ Many h' (A ++ Th.own enc w g s (L.set i x) :: B) ∧ Wf h' := by
  have ow := m.own
  have hl := ow.2
  have h1 : i * w + w ≤ s.l * w := by rw [← Nat.succ_mul]; exact Nat.mul_le_mul_right w (by omega)
  obtain ⟨i1, h', e1, o1, k1, n1, w1⟩ := ow.1.store (i := i * w) (vs := enc x) (by rw [hw]; exact h1) (by omega) hc
  rw [flat_set hw hi] at o1
  have o2 : OwT enc w h' g s (L.set i x) := ⟨o1, by rw [List.length_set]; exact hl⟩
  exact ⟨i1, h', e1, m.op k1 o2 (Th.own_stable _ _ _ _ _) (fun _ hy => hy) (fun _ hy => .inl hy) (fun _ hy => .inl hy) (o1.glt (w1 wf)), w1 wf⟩
/-- A list is let go. -/
theorem Many.drop {α : Type} {enc : α → List Value} {w : Nat} {g : Option Nat} {s : Sv} {L : List α} (m : Many h (A ++ Th.own enc w g s L :: B)) : Many h (A ++ Th.own enc w none ⟨none, 0, 0⟩ ([] : List α) :: B) :=
  m.op (Keep.refl _ _) OwT.nil (Th.own_stable _ _ _ _ _) (fun _ hy => hy) (fun y hy => by have hy : none = some y := hy; simp at hy) (fun y hy => by have hy : none = some y := hy; simp at hy) (fun y hy => by have hy : none = some y := hy; simp at hy)
/-- A variable of our own. -/
theorem Many.newVar (wf : Wf h) (m : Many h L) {cs : List Value} {e : TypeId} (he : h' = h.alloc cs e) : Many h' (Th.var h.next cs :: L) ∧ Wf h' ∧ h'.next = h.next + 1 := by
  obtain ⟨b, k, n, w⟩ := new_blk wf he
  exact ⟨m.add k b (Th.var_stable _ _) (fun _ hy => hy) (fun y hy => by have : y = h.next := hy; omega) (fun y hy => .inl (by have : y = h.next := hy; omega)) (fun y hy => by have : y = h.next := hy; omega), w, n⟩
end

/-! ### the document's disk -/
def Wt.encR (x : Wt) : List Value := [.bool (decide (x.act = 2)), .int .i64 (if x.act = 2 then x.pages else x.page), .string x.data]
theorem Wt.wR (x : Wt) : x.encR.length = 3 := rfl
def Ar.encR (x : Ar) : List Value := [.int .u8 x.on, .int .i64 x.nth, .bool x.pw, .slice x.fa x.fl x.fc, .int .i64 (x.nth - x.left)]
theorem Ar.wR (x : Ar) : x.encR.length = 5 := rfl
def rcells (D : Dk) (dd w a : Sv) : List Value := [.int .i64 D.bytes, .int .i64 D.most, dd.v, w.v, a.v, .bool (!D.off), .int .i64 D.life, .int .i64 D.taken, .int .i64 D.wr, .int .i64 D.gr, .int .i64 D.sy]
def rthings (r : Nat) (D : Dk) (gd gw ga : Option Nat) (R : Nat → Prop) (Q : List Fk) (dd w a : Sv) : List Th :=
  [Th.var r (rcells D dd w a), Th.own encS 1 gd dd D.dur, Th.own Wt.encR 3 gw w D.waits, Th.own Ar.encR 5 ga a D.arms, Th.fates R Q]
/-- The document's disk at r tells D (but for what is seen); apart from it, the rest. -/
def RD (r : Nat) (D : Dk) (Rest : List Th) (h : Hp) : Prop := ∃ gd gw ga R Q dd w a, (∀ x ∈ D.arms, x.fk ∈ Q) ∧ Many h (rthings r D gd gw ga R Q dd w a ++ Rest)

theorem RD.kept {r : Nat} {D : Dk} {Rest : List Th} {h h' : Hp} (x : RD r D Rest h) (k : Kept h h') : RD r D Rest h' := by
  obtain ⟨gd, gw, ga, R, Q, dd, w, a, hQ, m⟩ := x
  exact ⟨gd, gw, ga, R, Q, dd, w, a, hQ, m.kept k⟩

/-! ### small contracts -/
theorem c104 (h : Hp) {p : Int} (hp : 0 ≤ p ∧ p ≤ 1048576) : C 104 [.int .i64 p] h fun v h' => v = .string (zeros p.toNat) ∧ Kept h h' := by
  refine SCalls_of_vw fol (pf := pf) (shp := shp104) (f := 104) (fn := Try.f104) (by kernel_rfl) (c := Try.f104.body.getD .skip) (by kernel_rfl) (by kernel_rfl) fun wf => ?_
  rw [vc104]
  obtain ⟨h2, e2, b2, k2, n2, wf2⟩ := make_zeros wf (n := p) (m := p.toNat) (by omega) (by omega)
  exact ⟨_, _, _, h2, e2, zeros p.toNat, read_zeros b2 none, rfl, k2⟩

def countsD (on kind : Int) : Bool := sel (eqI on 0) true (eqI on kind)
theorem c105 (h : Hp) (on nth : Int) (pw : Bool) (a : Option Addr) (l c : Nat) (seen kind : Int) : C 105 [.agg #[.int .u8 on, .int .i64 nth, .bool pw, .slice a l c, .int .i64 seen], .int .u8 kind] h fun v h' => v = .bool (countsD on kind) ∧ Kept h h' := by
  refine SCalls_of_vw fol (pf := pf) (shp := shp105) (f := 105) (fn := Try.f105) (by kernel_rfl) (c := Try.f105.body.getD .skip) (by kernel_rfl) (by kernel_rfl) fun wf => ?_
  rw [vc105]
  intro h1 e1
  obtain ⟨b1, k1, n1, wf1⟩ := new_blk wf e1
  exact ⟨rfl, rfl, on, ⟨rfl, b1.one rfl⟩, fun _ => rfl, fun _ => rfl, on, fun _ => ⟨rfl, b1.one rfl⟩, rfl, k1⟩

section
variable {h : Hp} {r : Nat} {D : Dk} {Rest : List Th}

/-- longer. -/
theorem c106 {gd gw ga : Option Nat} {R : Nat → Prop} {Q : List Fk} {dd w a : Sv} (m0 : Many h (rthings r D gd gw ga R Q dd w a ++ Rest)) (hb : 0 ≤ D.bytes ∧ D.bytes ≤ 1048576) {n : Int} (hn : n ≤ 1048576) (hl : D.dur.length ≤ 1048576) :
    C 106 [.pointer (some ⟨r, 0, none⟩), .int .i64 n] h fun v h' => v = .tuple #[] ∧ ∃ gd' dd', Many h' (rthings r { D with dur := stretchL D.bytes D.dur n } gd' gw ga R Q dd' w a ++ Rest) := by
  refine SCalls_of_vw fol (pf := pf) (shp := shp106) (f := 106) (fn := Try.f106) (by kernel_rfl) (c := Try.f106.body.getD .skip) (by kernel_rfl) (by kernel_rfl) fun wf => ?_
  rw [vc106]
  refine ⟨fun vals m hh => ∃ k gd dd, vals = [] ∧ k ≤ n.toNat - D.dur.length ∧ m = (n.toNat - D.dur.length) - k ∧ Wf hh ∧ Many hh (rthings r { D with dur := D.dur ++ List.replicate k (zeros D.bytes.toNat) } gd gw ga R Q dd w a ++ Rest),
    ⟨_, 0, gd, dd, rfl, Nat.zero_le _, rfl, wf, by simpa using m0⟩, ?_⟩
  rintro m hh ⟨k, gd, dd, _, hk, rfl, wf1, m1⟩
  have b1 := Many.var (A := []) m1
  have hdl : (D.dur ++ List.replicate k (zeros D.bytes.toNat)).length = dd.l := (Many.own (A := [Th.var r _]) m1).2
  have hdl : D.dur.length + k = dd.l := by simpa using hdl
  refine ⟨rfl, rfl, dd.a, dd.l, dd.c, ⟨rfl, b1.one rfl⟩, ?_⟩
  by_cases hlt : ltI (natI dd.l) n = true
  · rw [if_pos hlt]
    have hlt : (dd.l : Int) < n := ltI_iff.mp hlt
    refine ⟨rfl, rfl, dd.a, dd.l, dd.c, ⟨rfl, b1.one rfl⟩, rfl, rfl, D.bytes, ⟨rfl, b1.one rfl⟩, (c104 hh hb).wf fun v h2 wf2 _ ⟨e2, k2⟩ => ⟨_, e2, ?_⟩⟩
    have m2 := m1.kept k2
    have b2 := Many.var (A := []) m2
    refine ⟨⟨rfl, b2.one rfl⟩, ?_⟩
    intro h3 e3
    obtain ⟨_, k3, _, _⟩ := new_blk wf2 e3
    refine ⟨⟨rfl, (k3.blk b2).one rfl⟩, ?_⟩
    obtain ⟨s', g', h4, e4, m4, hs', wf4⟩ := Many.push (A := [Th.var r _]) (x := zeros D.bytes.toNat) wf2 m2 app40 e3 rfl rfl (room (by omega) (by omega))
    obtain ⟨h5, e5, m5, wf5⟩ := Many.set (A := []) (o := 2) (v := s'.v) wf4 m4 (by simp [rcells]) rfl
    refine ⟨s'.a, s'.l, s'.c, h4, e4, rfl, rfl, rfl, h5, e5, _, ?_, k + 1, g', s', rfl, by omega, rfl, wf5, ?_⟩
    · simp only [lessN]; omega
    · have : D.dur ++ List.replicate (k + 1) (zeros D.bytes.toNat) = D.dur ++ List.replicate k (zeros D.bytes.toNat) ++ [zeros D.bytes.toNat] := by rw [List.replicate_succ', List.append_assoc]
      rw [this]; exact m5
  · rw [if_neg hlt]
    have hge : n ≤ (dd.l : Int) := by rw [ltI_iff] at hlt; simp only [natI] at hlt; omega
    have hkk : k = n.toNat - D.dur.length := by omega
    refine ⟨rfl, gd, dd, ?_⟩
    unfold stretchL
    rw [← hkk]; exact m1

/-- How many pages are seen. -/
def szN (W : List Wt) (d : Int) : Nat → Int
  | 0 => d
  | n + 1 => match W[n]? with
    | some x => if x.act = 2 then x.pages else szN W d n
    | none => szN W d n

theorem c71r (x : RD r D Rest h) (hl : D.waits.length ≤ 8589934592) : C 71 [.pointer (some ⟨r, 0, none⟩)] h fun v h' => v = .int .i64 (szN D.waits D.dur.length D.waits.length) ∧ h' = h := by
  refine SCalls_of_vw fol (pf := pf) (shp := shp71) (f := 71) (fn := Try.f71) (by kernel_rfl) (c := Try.f71.body.getD .skip) (by kernel_rfl) (by kernel_rfl) fun wf => ?_
  rw [vc71]
  obtain ⟨gd, gw, ga, R, Q, dd, w, a, hQ, m0⟩ := x
  have b0 := Many.var (A := []) m0
  have hdl : D.dur.length = dd.l := (Many.own (A := [Th.var r _]) m0).2
  have ow := Many.own (A := [Th.var r _, Th.own encS 1 gd dd D.dur]) m0
  have hwl : D.waits.length = w.l := ow.2
  refine ⟨rfl, rfl, dd.a, dd.l, dd.c, ⟨rfl, b0.one rfl⟩, fun vals m hh => ∃ i : Nat, [.int .i64 (szN D.waits D.dur.length i), .int .i64 i] = vals ∧ i ≤ w.l ∧ m = w.l - i ∧ h = hh, ⟨w.l, 0, by rw [← hdl]; rfl, Nat.zero_le _, rfl, rfl⟩, ?_⟩
  rintro n n1 m hh ⟨i, e, hi, rfl, rfl⟩
  simp at e
  obtain ⟨rfl, rfl⟩ := e
  refine ⟨rfl, rfl, w.a, w.l, w.c, ⟨rfl, b0.one rfl⟩, ?_⟩
  by_cases hlt : ltI (i : Int) (natI w.l) = true
  · rw [if_pos hlt]
    have hlt : i < w.l := by rw [ltI_iff] at hlt; simp only [natI] at hlt; omega
    have hz : D.waits[i]? = some (D.waits[i]'(by omega)) := List.getElem?_eq_getElem _
    generalize D.waits[i]'(by omega) = z at hz
    obtain ⟨i1, i2⟩ := ow.slT.get Wt.wR hz (j := 0) (m := 1) (by omega)
    obtain ⟨_, i3⟩ := ow.slT.get Wt.wR hz (j := 1) (m := 1) (by omega)
    have hin : inR (i : Int) w.l := by simp only [inR]; omega
    have hs : szN D.waits D.dur.length (i + 1) = if z.act = 2 then z.pages else szN D.waits D.dur.length i := by rw [szN, hz]
    have next : addW .i64 (i : Int) 1 = ((i + 1 : Nat) : Int) := by rw [addW_small (by omega) (by omega)]; rfl
    refine ⟨rfl, rfl, w.a, w.l, w.c, ⟨rfl, b0.one rfl⟩, ⟨i1, hin⟩, rfl, decide (z.act = 2), ⟨rfl, i2.trans rfl⟩, ?_⟩
    by_cases hg : z.act = 2
    · rw [if_pos (decide_eq_true hg)]
      have i4 : h.cellsAt (blk w.a) (plusN (plusI (off w.a) (i : Int) 3) 1) 1 = some [.int .i64 z.pages] := by
        have := i3.trans rfl
        rw [show ((z.encR.drop 1).take 1) = [.int .i64 z.pages] by simp [Wt.encR, hg]] at i3
        exact i3
      exact ⟨rfl, rfl, w.a, w.l, w.c, ⟨rfl, b0.one rfl⟩, ⟨i1, hin⟩, rfl, z.pages, ⟨rfl, i4⟩, w.l - (i + 1), by simp only [lessN]; omega, i + 1, by rw [next, hs, if_pos hg], by omega, rfl, rfl⟩
    · rw [if_neg (by rw [decide_eq_true_eq]; exact hg)]
      exact ⟨w.l - (i + 1), by simp only [lessN]; omega, i + 1, by rw [next, hs, if_neg hg], by omega, rfl, rfl⟩
  · rw [if_neg hlt]
    have hil : i = w.l := by rw [ltI_iff] at hlt; simp only [natI] at hlt; omega
    exact ⟨by rw [hil, hwl], rfl⟩

/-- Wake. -/
theorem c84 (x : RD r D Rest h) : C 84 [.pointer (some ⟨r, 0, none⟩)] h fun v h' => v = .int .i64 (wakeD D).2 ∧ RD r (wakeD D).1 Rest h' := by
  refine SCalls_of_vw fol (pf := pf) (shp := shp84) (f := 84) (fn := Try.f84) (by kernel_rfl) (c := Try.f84.body.getD .skip) (by kernel_rfl) (by kernel_rfl) fun wf => ?_
  rw [vc84]
  have x0 := x
  obtain ⟨gd, gw, ga, R, Q, dd, w, a, hQ, m0⟩ := x
  have b0 := Many.var (A := []) m0
  refine ⟨rfl, rfl, !D.off, ⟨rfl, b0.one rfl⟩, ?_⟩
  by_cases ho : D.off = true
  · rw [if_neg (by simp [ho])]
    have : wakeD D = ({ D with off := false, life := addW .i64 D.life 1 }, 0) := by unfold wakeD; rw [if_pos ho]
    rw [this]
    obtain ⟨h1, e1, m1, wf1⟩ := Many.set (A := []) (o := 5) (v := .bool true) wf m0 (by simp [rcells]) rfl
    have b1 := Many.var (A := []) m1
    obtain ⟨h2, e2, m2, wf2⟩ := Many.set (A := []) (o := 6) (v := .int .i64 (addW .i64 D.life 1)) wf1 m1 (by simp [rcells]) rfl
    exact ⟨rfl, rfl, rfl, h1, e1, rfl, rfl, D.life, ⟨rfl, b1.one rfl⟩, rfl, rfl, rfl, h2, e2, rfl, gd, gw, ga, R, Q, dd, w, a, hQ, m2⟩
  · rw [if_pos (by simpa using ho)]
    have : wakeD D = (D, 40) := by unfold wakeD; rw [if_neg ho]
    rw [this]
    exact ⟨rfl, x0⟩

/-- Take. -/
theorem c86 (x : RD r D Rest h) : C 86 [.pointer (some ⟨r, 0, none⟩)] h fun v h' => v = .tuple #[.int .i64 (takeD D).2.1, .int .i64 (takeD D).2.2] ∧ RD r (takeD D).1 Rest h' := by
  refine SCalls_of_vw fol (pf := pf) (shp := shp86) (f := 86) (fn := Try.f86) (by kernel_rfl) (c := Try.f86.body.getD .skip) (by kernel_rfl) (by kernel_rfl) fun wf => ?_
  rw [vc86]
  have x0 := x
  obtain ⟨gd, gw, ga, R, Q, dd, w, a, hQ, m0⟩ := x
  have b0 := Many.var (A := []) m0
  refine ⟨rfl, rfl, !D.off, ⟨rfl, b0.one rfl⟩, ?_⟩
  by_cases ho : D.off = true
  · rw [if_pos (by simp [ho, notB])]
    have : takeD D = (D, 0, 7) := by unfold takeD; rw [if_pos ho]
    rw [this]; exact ⟨rfl, x0⟩
  · have ho' : D.off = false := by simpa using ho
    rw [if_neg (by simp [ho', notB])]
    have : takeD D = ({ D with taken := addW .i64 D.taken 1 }, addW .i64 D.taken 1, 0) := by unfold takeD; rw [if_neg ho]
    rw [this]
    obtain ⟨h1, e1, m1, wf1⟩ := Many.set (A := []) (o := 7) (v := .int .i64 (addW .i64 D.taken 1)) wf m0 (by simp [rcells]) rfl
    have b1 := Many.var (A := []) m1
    exact ⟨rfl, rfl, D.taken, ⟨rfl, b0.one rfl⟩, rfl, rfl, rfl, h1, e1, rfl, rfl, _, ⟨rfl, b1.one rfl⟩, rfl, gd, gw, ga, R, Q, dd, w, a, hQ, m1⟩
end
end Go.Proofs.Ytfkhjbfddeahaaa.kc

/- The document's disk: sectors, Goes, act. -/
set_option linter.unusedVariables false
set_option linter.unusedSimpArgs false
namespace Go.Proofs.Ytfkhjbfddeahaaa.kc
open Go Go.Cn Go.Proofs Go.Proofs.Ytfkhjbfddeahaaa.vc

/-! ### sectors -/
/-- The first n sectors of a page that is laid anew. -/
def secsN (k : Nat) (f : Int) (data old : List UInt8) : Nat → List UInt8
  | 0 => []
  | n + 1 => secsN k f data old n ++ ((if bit f n then data else old).drop (n * k)).take k
theorem secsN_len {k : Nat} {f : Int} {data old : List UInt8} (hd : data.length = 8 * k) (ho : old.length = 8 * k) : ∀ n, n ≤ 8 → (secsN k f data old n).length = n * k
  | 0, _ => by simp [secsN]
  | n + 1, hn => by
    have h1 : n * k + k ≤ 8 * k := by rw [← Nat.succ_mul]; exact Nat.mul_le_mul_right k hn
    rw [secsN, List.length_append, secsN_len hd ho n (by omega), List.length_take, List.length_drop, Nat.succ_mul]
    split <;> omega
theorem secsN_get {k : Nat} (hk : 0 < k) {f : Int} {data old : List UInt8} (hd : data.length = 8 * k) (ho : old.length = 8 * k) : ∀ n, n ≤ 8 → ∀ j, j < n * k → (secsN k f data old n)[j]? = if bit f (j / k) = true then data[j]? else old[j]?
  | 0, _, j, hj => by omega
  | n + 1, hn, j, hj => by
    have h1 : n * k + k ≤ 8 * k := by rw [← Nat.succ_mul]; exact Nat.mul_le_mul_right k hn
    have hs : (n + 1) * k = n * k + k := Nat.succ_mul n k
    rw [secsN, List.getElem?_append, secsN_len hd ho n (by omega)]
    split
    · rename_i h2; exact secsN_get hk hd ho n (by omega) j h2
    · rename_i h2
      have hdiv : j / k = n := Nat.div_eq_of_lt_le (by omega) (by rw [Nat.succ_mul]; omega)
      rw [hdiv, List.getElem?_take, if_pos (by omega), List.getElem?_drop]
      have : n * k + (j - n * k) = j := by omega
      rw [this]
      split <;> rfl
theorem secsN_lay {k : Nat} (hk : 0 < k) {f : Int} {data old : List UInt8} (hd : data.length = 8 * k) (ho : old.length = 8 * k) : secsN k f data old 8 = layN k f data 8 old := by
  apply List.ext_getElem?
  intro j
  rw [layN_get hk hd ho 8 (by omega)]
  by_cases hj : j < 8 * k
  · rw [secsN_get hk hd ho 8 (by omega) j hj]; simp [hj]
  · rw [List.getElem?_eq_none (by rw [secsN_len hd ho 8 (by omega)]; omega), if_neg (by omega), List.getElem?_eq_none (by omega)]

theorem bit_shr {f : Int} (hf : 0 ≤ f ∧ f ≤ 255) {i : Nat} (hi : i < 8) : eqI (andW .u8 (shrW .u8 f (toW .u64 (i : Int))) 1) 1 = bit f i := by
  have key : ∀ a : Fin 256, ∀ b : Fin 8, eqI (andW .u8 (shrW .u8 (a.val : Int) (toW .u64 (b.val : Int))) 1) 1 = bit (a.val : Int) b.val := by decide +kernel
  have := key ⟨f.toNat, by omega⟩ ⟨i, hi⟩
  simp only at this
  rwa [show ((f.toNat : Nat) : Int) = f by omega] at this

theorem ofBytes_cat (A : List UInt8) (s : ByteArray) : strCat (ofBytes A) s = ofBytes (A ++ s.data.toList) := by
  unfold strCat
  apply ByteArray.ext
  rw [ByteArray.data_append]
  apply Array.toList_inj.mp
  simp [ofBytes]

theorem c107 {h : Hp} {k : Nat} (hk : 0 < k ∧ k ≤ 131072) {old data : ByteArray} (ho : old.size = 8 * k) (hd : data.size = 8 * k) {f : Int} (hf : 0 ≤ f ∧ f ≤ 255) :
    C 107 [.string old, .string data, .int .u8 f] h fun v h' => v = .string (laySec ((8 * k : Nat) : Int) f data old) ∧ h' = h := by
  refine SCalls_of_vw fol (pf := pf) (shp := shp107) (f := 107) (fn := Try.f107) (by kernel_rfl) (c := Try.f107.body.getD .skip) (by kernel_rfl) (by kernel_rfl) fun wf => ?_
  rw [vc107]
  have hol : old.data.toList.length = 8 * k := list_len ho
  have hdl : data.data.toList.length = 8 * k := list_len hd
  have e1 : quoW .i64 (natI (lenS data)) 8 = (k : Int) := by
    have : natI (lenS data) = ((8 * k : Nat) : Int) := by simp only [natI, lenS, hd]
    rw [this, quo8 (by omega)]
  rw [e1]
  refine ⟨by simp [nonzero], fun vals m hh => ∃ i : Nat, [.string (ofBytes (secsN k f data.data.toList old.data.toList i)), .int .i64 i] = vals ∧ i ≤ 8 ∧ m = 8 - i ∧ h = hh, ⟨8, 0, rfl, by omega, rfl, rfl⟩, ?_⟩
  rintro s n m hh ⟨i, e, hi, rfl, rfl⟩
  simp only [List.cons.injEq, Value.string.injEq, Value.int.injEq, true_and, and_true] at e
  obtain ⟨rfl, rfl⟩ := e
  by_cases hlt : ltI (i : Int) 8 = true
  · rw [if_pos hlt]
    have hlt : i < 8 := by rw [ltI_iff] at hlt; omega
    have hik : i * k + k ≤ 8 * k := by rw [← Nat.succ_mul]; exact Nat.mul_le_mul_right k hlt
    have e2 : mulW .i64 (i : Int) (k : Int) = ((i * k : Nat) : Int) := by
      have : (i : Int) * (k : Int) = ((i * k : Nat) : Int) := by simp
      rw [mulW_small (by omega) (by omega), this]
    have e3 : addW .i64 ((i * k : Nat) : Int) (k : Int) = ((i * k + k : Nat) : Int) := by rw [addW_small (by omega) (by omega)]; omega
    rw [e2, e3]
    have hsl := secsN_len (f := f) hdl hol i hi
    have step : ∀ x : ByteArray, x.size = 8 * k → strCat (ofBytes (secsN k f data.data.toList old.data.toList i)) (strSub x ((i * k : Nat) : Int) ((i * k + k : Nat) : Int)) = ofBytes (secsN k f data.data.toList old.data.toList i ++ (x.data.toList.drop (i * k)).take k) := by
      intro x hx
      rw [ofBytes_cat, (sub_bytes x (i * k) (i * k + k) (by omega) (by omega)).1]
      have : i * k + k - i * k = k := by omega
      rw [this]
    have cat : ∀ x : ByteArray, x.size = 8 * k → catOk (ofBytes (secsN k f data.data.toList old.data.toList i)) (strSub x ((i * k : Nat) : Int) ((i * k + k : Nat) : Int)) := by
      intro x hx
      have h1 := (sub_bytes x (i * k) (i * k + k) (by omega) (by omega)).2
      have h2 : (ofBytes (secsN k f data.data.toList old.data.toList i)).size = i * k := by rw [← hsl]; simp [ofBytes, ByteArray.size]
      have h3 : IntKind.i64.max = 9223372036854775807 := rfl
      simp only [catOk, h1, h2, h3]; omega
    refine ⟨fun vals hh => [.string (ofBytes (secsN k f data.data.toList old.data.toList (i + 1)))] = vals ∧ h = hh, ⟨?_, ?_⟩, ?_⟩
    · have : toW .u64 (i : Int) = i := toW_u64 (by omega) (by omega)
      rw [this]; simp [nonneg]
    · rw [bit_shr hf hlt]
      by_cases hb : bit f i = true
      · rw [if_pos hb]
        refine ⟨by simp only [subOk]; omega, cat data hd, ?_, rfl⟩
        rw [step data hd, secsN, if_pos hb]
      · rw [if_neg hb]
        refine ⟨by simp only [subOk]; omega, cat old ho, ?_, rfl⟩
        rw [step old ho, secsN, if_neg hb]
    · rintro s hh ⟨e, rfl⟩
      simp only [List.cons.injEq, Value.string.injEq, and_true] at e
      subst e
      exact ⟨8 - (i + 1), by simp only [lessN]; omega, i + 1, by rw [addW_small (by omega) (by omega)]; rfl, by omega, rfl, rfl⟩
  · rw [if_neg hlt]
    have hi8 : i = 8 := by rw [ltI_iff] at hlt; omega
    subst hi8
    refine ⟨?_, rfl⟩
    unfold laySec
    rw [Int.toNat_natCast, show 8 * k / 8 = k by omega, secsN_lay hk.1 hdl hol]

theorem goN_stop {b : Int} {F : List Int} {W : List Wt} {dur : List ByteArray} {i : Nat} (h : F.length ≤ i) : ∀ n, i ≤ n → goN b F W dur n = goN b F W dur i
  | 0, hn => by have : i = 0 := by omega
                subst this; rfl
  | n + 1, hn => by
    by_cases hi : i = n + 1
    · rw [hi]
    · have e : goN b F W dur (n + 1) = goN b F W dur n := by
        rw [goN]
        split
        · unfold goStep
          rw [List.getElem?_eq_none (by omega)]
        · rfl
      rw [e]
      exact goN_stop h n (by omega)

section
variable {h : Hp} {r : Nat} {D : Dk} {Rest : List Th}

/-- Goes. -/
theorem c102 {k M : Nat} {gd gw ga : Option Nat} {R : Nat → Prop} {Q : List Fk} {dd w a : Sv} (m0 : Many h (rthings r D gd gw ga R Q dd w a ++ Rest)) (ok : D.ok k M) {T : Th} (hT : T ∈ Th.fates R Q :: Rest) {fa : Option Addr} {fl fc : Nat} {F : List Int} (hF : ∀ hh, T.P hh → ∃ G, SlT encF 1 hh G fa fl fc F)
    (hf : ∀ f ∈ F, 0 ≤ f ∧ f ≤ 255) (hfl : F.length ≤ 8589934592) (hw : D.waits.length ≤ 8589934592) :
    C 102 [.pointer (some ⟨r, 0, none⟩), .slice fa fl fc] h fun v h' => v = .tuple #[] ∧ ∃ gd' dd', Many h' (rthings r (goesD D F) gd' none none R Q dd' ⟨none, 0, 0⟩ ⟨none, 0, 0⟩ ++ Rest) := by
  refine SCalls_of_vw fol (pf := pf) (shp := shp102) (f := 102) (fn := Try.f102) (by kernel_rfl) (c := Try.f102.body.getD .skip) (by kernel_rfl) (by kernel_rfl) fun wf => ?_
  rw [vc102]
  have hM := ok.m1
  have hk1 := ok.k1
  have hby := ok.by_
  have tf : ∀ {hh : Hp} {D' : Dk} {gd gw ga : Option Nat} {dd w a : Sv} {X : List Th}, Many hh (rthings r D' gd gw ga R Q dd w a ++ (X ++ Rest)) → ∃ G, SlT encF 1 hh G fa fl fc F := fun m => hF _ (m.at_ T (by
    rcases List.mem_cons.mp hT with rfl | hT
    · simp [rthings]
    · simp [hT])).1
  have hFl : F.length = fl := by obtain ⟨G, q⟩ := tf (X := []) m0; exact q.len
  refine ⟨fun vals m hh => ∃ (i : Nat) (gd : Option Nat) (dd : Sv), [.int .i64 i] = vals ∧ i ≤ D.waits.length ∧ i ≤ F.length ∧ m = D.waits.length - i ∧ Wf hh ∧ Many hh (rthings r { D with dur := goN D.bytes F D.waits D.dur i } gd gw ga R Q dd w a ++ Rest),
    ⟨_, 0, gd, dd, rfl, Nat.zero_le _, Nat.zero_le _, rfl, wf, m0⟩, ?_⟩
  clear m0
  rintro n m hh ⟨i, gd, dd, e, hiw, hif, rfl, wf1, m1⟩
  simp at e; subst e
  have b1 := Many.var (A := []) m1
  have ow := Many.own (A := [Th.var r _, Th.own encS 1 gd dd _]) m1
  have hwl : D.waits.length = w.l := ow.2
  obtain ⟨ok1, ok2⟩ := goN_ok ok F i
  refine ⟨rfl, rfl, w.a, w.l, w.c, ⟨rfl, b1.one rfl⟩, ?_⟩
  by_cases hlt : i < D.waits.length ∧ i < F.length
  · rw [if_pos (by rw [and_iff, ltI_iff, ltI_iff]; simp only [natI]; omega)]
    have hz : D.waits[i]? = some (D.waits[i]'(hlt.1)) := List.getElem?_eq_getElem _
    generalize D.waits[i]'(hlt.1) = z at hz
    have hzok := ok.waits z (List.mem_of_getElem? hz)
    have hzf : F[i]? = some (F[i]'(hlt.2)) := List.getElem?_eq_getElem _
    generalize F[i]'(hlt.2) = f at hzf
    have hfr := hf f (List.mem_of_getElem? hzf)
    have hstep : goN D.bytes F D.waits D.dur (i + 1) = if f = 0 then goN D.bytes F D.waits D.dur i else if z.act = 2 then stretchL D.bytes (goN D.bytes F D.waits D.dur i) z.pages else layL D.bytes (goN D.bytes F D.waits D.dur i) z.page z.data f := by
      rw [goN, hz]; simp only [goStep, hzf]
    generalize hL : goN D.bytes F D.waits D.dur i = L at m1 ok1 ok2 hstep
    refine ⟨fun vals hh => [.int .i64 i] = vals ∧ Wf hh ∧ ∃ gd dd, Many hh (rthings r { D with dur := goN D.bytes F D.waits D.dur (i + 1) } gd gw ga R Q dd w a ++ Rest), ?_, ?_⟩
    rotate_left
    · rintro n2 h2 ⟨e, wf2, gd, dd, m2⟩
      simp at e; subst e
      exact ⟨D.waits.length - (i + 1), by simp only [lessN]; omega, i + 1, gd, dd, by rw [addW_small (by omega) (by omega)]; rfl, by omega, by omega, rfl, wf2, m2⟩
    obtain ⟨i1, i2⟩ := ow.slT.get Wt.wR hz (j := 0) (m := 3) (by omega)
    have hin : inR (i : Int) w.l := by simp only [inR]; omega
    have hinf : inR (i : Int) fl := by simp only [inR]; omega
    refine ⟨rfl, rfl, w.a, w.l, w.c, ⟨rfl, b1.one rfl⟩, ⟨i1, hin⟩, _, _, _, ⟨rfl, i2.trans rfl⟩, ?_⟩
    intro h2 e2
    obtain ⟨m2, wf2, n2⟩ := m1.newVar wf1 e2
    obtain ⟨h3, e3, b3, k3, n3, w3⟩ := (Many.var (A := []) m2).store (o := 0) (vs := z.encR) (by simp [Wt.encR]) rfl
    have m3 := Many.op (A := []) m2 (t' := Th.var hh.next z.encR) k3 (by
      have : splice [Value.bool false, Value.int .i64 (Int.ofNat 0), Value.string (ByteArray.mk #[])] 0 z.encR = z.encR := by simp [splice, Wt.encR]
      rw [this] at b3; exact b3) (Th.var_stable _ _) (fun _ hy => hy) (fun _ hy => .inl hy) (fun _ hy => .inl hy) (fun y hy => by have : y = hh.next := hy; omega)
    have wf3 := w3 wf2
    have m3' : Many h3 (rthings r { D with dur := L } gd gw ga R Q dd w a ++ ([Th.var hh.next z.encR] ++ Rest)) := m3.perm List.perm_middle.symm
    obtain ⟨G3, tf3⟩ := tf m3'
    obtain ⟨f1, f2⟩ := tf3.get encF_w hzf (j := 0) (m := 1) (by omega)
    have back : ∀ {hz : Hp} {D' : Dk} {gd : Option Nat} {dd : Sv}, Many hz (rthings r D' gd gw ga R Q dd w a ++ ([Th.var hh.next z.encR] ++ Rest)) → Many hz (rthings r D' gd gw ga R Q dd w a ++ Rest) := fun m => m.sub (List.Sublist.append (List.Sublist.refl _) (List.Sublist.cons _ (List.Sublist.refl _)))
    have loc : ∀ {hz : Hp} {D' : Dk} {gd : Option Nat} {dd : Sv}, Many hz (rthings r D' gd gw ga R Q dd w a ++ ([Th.var hh.next z.encR] ++ Rest)) → Blk hz hh.next (some hh.next) z.encR := fun m => Many.var (A := rthings r _ _ gw ga R Q _ w a) m
    refine ⟨rfl, h3, e3, ⟨f1, hinf⟩, f, ⟨rfl, f2.trans rfl⟩, ?_⟩
    by_cases hf0 : f = 0
    · rw [if_pos (eqI_iff.mpr hf0)]
      refine ⟨rfl, wf3, gd, dd, ?_⟩
      rw [hstep, if_pos hf0]; exact back m3'
    rw [if_neg (by rw [eqI_iff]; exact hf0)]
    refine ⟨rfl, decide (z.act = 2), ⟨rfl, (loc m3').one rfl⟩, ?_⟩
    by_cases hg : z.act = 2
    · have hpg : 0 ≤ z.pages ∧ z.pages ≤ M := by rcases hzok with ⟨h1, _⟩ | ⟨_, h3⟩; omega; exact h3
      rw [if_pos (decide_eq_true hg)]
      refine ⟨rfl, z.pages, ⟨rfl, (loc m3').one (by simp [Wt.encR, hg])⟩, (c106 m3' (by simp only; omega) (by omega) (by simp only; omega)).wf fun v h4 wf4 _ ⟨e4, gd4, dd4, m4⟩ => ⟨e4, rfl, wf4, gd4, dd4, ?_⟩⟩
      rw [hstep, if_neg hf0, if_pos hg]; exact back m4
    · have hpg : 0 ≤ z.page ∧ z.page < M ∧ z.data.size = 8 * k := by rcases hzok with ⟨_, h1, h2, h3⟩ | ⟨h1, _⟩; exact ⟨h1, h2, h3⟩; omega
      rw [if_neg (by rw [decide_eq_true_eq]; exact hg)]
      have pc : ∀ {hz : Hp}, Blk hz hh.next (some hh.next) z.encR → hz.cellsAt hh.next 1 1 = some [.int .i64 z.page] := fun b => b.one (by simp [Wt.encR, hg])
      refine ⟨rfl, z.page, ⟨rfl, pc (loc m3')⟩, ?_⟩
      rw [addW_small (by omega) (by omega)]
      refine (c106 m3' (by simp only; omega) (by omega) (by simp only; omega)).wf fun v h4 wf4 _ ⟨e4, gd4, dd4, m4⟩ => ⟨e4, ?_⟩
      simp only at m4
      have b4 := Many.var (A := []) m4
      have hsL : stretchL D.bytes L (z.page + 1) = stretchL ((8 * k : Nat) : Int) L (z.page + 1) := by rw [hby]
      obtain ⟨s1, s2⟩ := stretchL_ok (n := z.page + 1) ok1 ok2 (by omega)
      rw [← hsL] at s1 s2
      generalize hL1 : stretchL D.bytes L (z.page + 1) = L1 at m4 s1 s2
      have hlt1 : z.page.toNat < L1.length := by rw [← hL1]; have := stretch_len D.bytes L (z.page + 1); omega
      have hold : L1[z.page.toNat]? = some (L1[z.page.toNat]) := List.getElem?_eq_getElem hlt1
      generalize hoe : L1[z.page.toNat] = old at hold
      have ow4 := Many.own (A := [Th.var r _]) m4
      have hdl4 : L1.length = dd4.l := ow4.2
      obtain ⟨o1, o2⟩ := ow4.slT.get encS_w hold (j := 0) (m := 1) (by omega)
      obtain ⟨G4, tf4⟩ := tf m4
      obtain ⟨g1, g2⟩ := tf4.get encF_w hzf (j := 0) (m := 1) (by omega)
      have hinp : inR z.page dd4.l := by simp only [inR]; omega
      have hofs : plusI (off dd4.a) z.page 1 = off dd4.a + z.page.toNat * 1 := rfl
      refine ⟨rfl, rfl, dd4.a, dd4.l, dd4.c, ⟨rfl, b4.one rfl⟩, rfl, z.page, ⟨rfl, pc (loc m4)⟩, rfl, rfl, dd4.a, dd4.l, dd4.c, ⟨rfl, b4.one rfl⟩, rfl, z.page, ⟨rfl, pc (loc m4)⟩, ⟨o1, hinp⟩, old, ⟨rfl, o2.trans rfl⟩, rfl, z.data, ⟨rfl, (loc m4).one rfl⟩, ⟨g1, hinf⟩, f, ⟨rfl, g2.trans rfl⟩, ?_⟩
      refine (c107 ⟨ok.k0, hk1⟩ (s1 old (List.mem_of_getElem? hold)) hpg.2.2 hfr).mono fun v h5 ⟨e5, e5'⟩ => ⟨_, e5, ?_⟩
      subst e5'
      obtain ⟨p1, h6, e6, m6, wf6⟩ := Many.setOwn (A := [Th.var r _]) (x := laySec ((8 * k : Nat) : Int) f z.data old) wf4 encS_w m4 hlt1 rfl
      refine ⟨⟨rfl, pc (loc m4)⟩, ⟨rfl, b4.one rfl⟩, ⟨o1, hinp⟩, rfl, h6, by rw [hofs]; exact e6, rfl, wf6, gd4, dd4, ?_⟩
      have hlay : layL D.bytes L z.page z.data f = L1.set z.page.toNat (laySec ((8 * k : Nat) : Int) f z.data old) := by
        unfold layL
        rw [if_neg hf0, hL1]
        simp only
        rw [hold, Option.getD_some, hby]
      rw [hstep, if_neg hf0, if_neg hg, hlay]; exact back m6
  · rw [if_neg (by rw [and_iff, ltI_iff, ltI_iff]; simp only [natI]; omega)]
    have hend : goN D.bytes F D.waits D.dur i = goN D.bytes F D.waits D.dur D.waits.length := by
      by_cases hi : i = D.waits.length
      · rw [hi]
      · exact (goN_stop (by omega) _ hiw).symm
    rw [hend] at m1
    obtain ⟨h2, e2, m2, wf2⟩ := Many.set (A := []) (o := 3) (v := .slice none 0 0) wf1 m1 (by simp [rcells]) rfl
    obtain ⟨h3, e3, m3, wf3⟩ := Many.set (A := []) (o := 4) (v := .slice none 0 0) wf2 m2 (by simp [rcells]) rfl
    obtain ⟨h4, e4, m4, wf4⟩ := Many.set (A := []) (o := 5) (v := .bool false) wf3 m3 (by simp [rcells]) rfl
    have b4 := Many.var (A := []) m4
    obtain ⟨h5, e5, m5, wf5⟩ := Many.set (A := []) (o := 7) (v := .int .i64 (addW .i64 D.taken 1)) wf4 m4 (by simp [rcells]) rfl
    refine ⟨rfl, rfl, rfl, h2, e2, rfl, rfl, rfl, h3, e3, rfl, rfl, rfl, h4, e4, rfl, rfl, D.taken, ⟨rfl, b4.one rfl⟩, rfl, rfl, rfl, h5, e5, rfl, gd, dd, ?_⟩
    have m6 := Many.drop (A := [Th.var r _, Th.own encS 1 gd dd _]) m5
    have m7 := Many.drop (A := [Th.var r _, Th.own encS 1 gd dd _, Th.own Wt.encR 3 none ⟨none, 0, 0⟩ []]) m6
    exact m7
end
end Go.Proofs.Ytfkhjbfddeahaaa.kc

/- The document's disk: act, what is seen. -/
set_option linter.unusedVariables false
set_option linter.unusedSimpArgs false
namespace Go.Proofs.Ytfkhjbfddeahaaa.kc
open Go Go.Cn Go.Proofs Go.Proofs.Ytfkhjbfddeahaaa.vc

theorem app112 : AppT Try.prog 112 112 153 5 56 := AppT.of _ (by kernel_rfl)
theorem app111 : AppT Try.prog 111 111 144 3 32 := AppT.of _ (by kernel_rfl)

/-- A variable is written whole. -/
theorem Many.fill {h : Hp} (wf : Wf h) {A B : List Th} {b : Nat} {cs vs : List Value} (m : Many h (A ++ Th.var b cs :: B)) (hl : vs.length = cs.length) (hv : vs.all isCell = true) : ∃ h', h.store b 0 vs = some h' ∧ Many h' (A ++ Th.var b vs :: B) ∧ Wf h' := by
  obtain ⟨h', e, b', k, n, w⟩ := m.var.store (o := 0) (vs := vs) (by omega) hv
  have : splice cs 0 vs = vs := by simp [splice, hl]
  rw [this] at b'
  exact ⟨h', e, m.op k b' (Th.var_stable _ _) (fun _ hy => hy) (fun _ hy => .inl hy) (fun _ hy => .inl hy) (fun y hy => by have : y = b := hy; subst this; exact b'.glt (w wf)), w wf⟩

/-- An arm that may stand. -/
def Ar.sound (x : Ar) : Prop := 1 ≤ x.left ∧ x.left ≤ x.nth ∧ x.nth < 9223372036854775808

theorem Ar.dec_yes {x : Ar} {kind : Int} (h : countsD x.on kind = true) : x.dec kind = { x with left := subW .i64 x.left 1 } := if_pos h
theorem Ar.dec_no {x : Ar} {kind : Int} (h : ¬ countsD x.on kind = true) : x.dec kind = x := if_neg h

section
variable {h : Hp} {r : Nat} {D : Dk} {Rest : List Th}

theorem c101 {gd gw ga : Option Nat} {R : Nat → Prop} {Q : List Fk} {dd w a : Sv} (m0 : Many h (rthings r D gd gw ga R Q dd w a ++ Rest)) (hA : ∀ x ∈ D.arms, x.sound) (hl : D.arms.length ≤ 64) (kind : Int) :
    C 101 [.pointer (some ⟨r, 0, none⟩), .int .u8 kind] h fun v h' => ∃ ga' a' Ex, Many h' (rthings r { D with arms := (D.arms.map (Ar.dec kind)).filter nd } gd gw ga' R Q dd w a' ++ (Ex ++ Rest)) ∧
      (((D.arms.map (Ar.dec kind)).find? Ar.due = none ∧ v = .pointer none ∧ Ex = []) ∨ ∃ z b, (D.arms.map (Ar.dec kind)).find? Ar.due = some z ∧ v = .pointer (some ⟨b, 0, none⟩) ∧ Ex = [Th.var b z.encR]) := by
  refine SCalls_of_vw fol (pf := pf) (shp := shp101) (f := 101) (fn := Try.f101) (by kernel_rfl) (c := Try.f101.body.getD .skip) (by kernel_rfl) (by kernel_rfl) fun wf => ?_
  rw [vc101]
  have hal0 : D.arms.length = a.l := (Many.own (A := [Th.var r _, Th.own encS 1 gd dd _, Th.own Wt.encR 3 gw w _]) m0).2
  have m0' : Many h (Th.own Ar.encR 5 none ⟨none, 0, 0⟩ [] :: (rthings r D gd gw ga R Q dd w a ++ ([] ++ Rest))) :=
    m0.add (Keep.refl _ _) OwT.nil (Th.own_stable _ _ _ _ _) (fun _ hy => hy) (fun y hy => by have hy : none = some y := hy; simp at hy) (fun y hy => by have hy : none = some y := hy; simp at hy) (fun y hy => by have hy : none = some y := hy; simp at hy)
  refine ⟨fun vals m hh => ∃ (i : Nat) (gl : Option Nat) (sl : Sv) (Ex : List Th) (p : Option Addr), [.pointer p, sl.v, .int .i64 i] = vals ∧ i ≤ a.l ∧ m = a.l - i ∧ Wf hh ∧
      Many hh (Th.own Ar.encR 5 gl sl (((D.arms.take i).map (Ar.dec kind)).filter nd) :: (rthings r D gd gw ga R Q dd w a ++ (Ex ++ Rest))) ∧
      ((((D.arms.take i).map (Ar.dec kind)).find? Ar.due = none ∧ p = none ∧ Ex = []) ∨ ∃ z b, ((D.arms.take i).map (Ar.dec kind)).find? Ar.due = some z ∧ p = some ⟨b, 0, none⟩ ∧ Ex = [Th.var b z.encR]),
    ⟨a.l, 0, none, ⟨none, 0, 0⟩, [], none, rfl, Nat.zero_le _, rfl, wf, by simpa using m0', .inl ⟨rfl, rfl, rfl⟩⟩, ?_⟩
  clear m0 m0'
  rintro p a1 l1 c1 n m hh ⟨i, gl, sl, Ex, p', e, hi, rfl, wf1, m1, hp⟩
  simp at e
  obtain ⟨rfl, ⟨rfl, rfl, rfl⟩, rfl⟩ := e
  have b1 := Many.var (A := [Th.own Ar.encR 5 gl sl _]) m1
  have oa := Many.own (A := [Th.own Ar.encR 5 gl sl _, Th.var r _, Th.own encS 1 gd dd _, Th.own Wt.encR 3 gw w _]) m1
  refine ⟨rfl, rfl, a.a, a.l, a.c, ⟨rfl, b1.one rfl⟩, ?_⟩
  by_cases hlt : ltI (i : Int) (natI a.l) = true
  · rw [if_pos hlt]
    have hlt : i < a.l := by rw [ltI_iff] at hlt; simp only [natI] at hlt; omega
    have hx : D.arms[i]? = some (D.arms[i]'(by omega)) := List.getElem?_eq_getElem _
    generalize D.arms[i]'(by omega) = x at hx
    obtain ⟨x1, x2, x3⟩ := hA x (List.mem_of_getElem? hx)
    have hpre : (D.arms.take (i + 1)).map (Ar.dec kind) = (D.arms.take i).map (Ar.dec kind) ++ [x.dec kind] := by rw [List.take_add_one, hx]; simp
    refine ⟨fun vals hh => ∃ (gl : Option Nat) (sl : Sv) (Ex : List Th) (p : Option Addr), [.pointer p, sl.v] = vals ∧ Wf hh ∧
      Many hh (Th.own Ar.encR 5 gl sl (((D.arms.take (i + 1)).map (Ar.dec kind)).filter nd) :: (rthings r D gd gw ga R Q dd w a ++ (Ex ++ Rest))) ∧
      ((((D.arms.take (i + 1)).map (Ar.dec kind)).find? Ar.due = none ∧ p = none ∧ Ex = []) ∨ ∃ z b, ((D.arms.take (i + 1)).map (Ar.dec kind)).find? Ar.due = some z ∧ p = some ⟨b, 0, none⟩ ∧ Ex = [Th.var b z.encR]), ?_, ?_⟩
    rotate_left
    · rintro p2 a2 l2 c2 h2 ⟨gl, sl, Ex, p', e, wf2, m2, hp2⟩
      simp at e
      obtain ⟨rfl, rfl, rfl, rfl⟩ := e
      exact ⟨a.l - (i + 1), by simp only [lessN]; omega, i + 1, gl, sl, Ex, _, by rw [addW_small (by omega) (by omega)]; rfl, by omega, rfl, wf2, m2, hp2⟩
    obtain ⟨i1, i2⟩ := oa.slT.get Ar.wR hx (j := 0) (m := 5) (by omega)
    refine ⟨rfl, rfl, a.a, a.l, a.c, ⟨rfl, b1.one rfl⟩, ⟨i1, by simp only [inR]; omega⟩, x.on, x.nth, x.pw, x.fa, x.fl, x.fc, _, ⟨rfl, i2.trans rfl⟩, ?_⟩
    intro h2 e2
    obtain ⟨m2, wf2, n2⟩ := m1.newVar wf1 e2
    obtain ⟨h3, e3, m3, wf3⟩ := Many.fill (A := []) (vs := x.encR) wf2 m2 rfl rfl
    have b3 := Many.var (A := []) m3
    refine ⟨rfl, h3, e3, fun vals hz => [.int .i64 i] = vals ∧ Wf hz ∧ Many hz (Th.var hh.next (x.dec kind).encR :: Th.own Ar.encR 5 gl sl (((D.arms.take i).map (Ar.dec kind)).filter nd) :: (rthings r D gd gw ga R Q dd w a ++ (Ex ++ Rest))), ?_, ?_⟩
    · refine ⟨x.on, x.nth, x.pw, x.fa, x.fl, x.fc, x.nth - x.left, ⟨rfl, (b3.cells (o := 0) (n := 5) (Nat.le_of_ble_eq_true rfl)).trans rfl⟩, (c105 h3 x.on x.nth x.pw x.fa x.fl x.fc (x.nth - x.left) kind).wf fun v h4 wf4 _ ⟨e4, k4⟩ => ⟨_, e4, ?_⟩⟩
      have m4 := m3.kept k4
      have b4 := Many.var (A := []) m4
      by_cases hc : countsD x.on kind = true
      · rw [if_pos hc]
        obtain ⟨h5, e5, m5, wf5⟩ := Many.set (A := []) (o := 4) (v := .int .i64 (addW .i64 (x.nth - x.left) 1)) wf4 m4 (by simp [Ar.encR]) rfl
        refine ⟨rfl, x.nth - x.left, ⟨rfl, b4.one rfl⟩, rfl, rfl, h5, e5, rfl, wf5, ?_⟩
        have hd : x.dec kind = { x with left := x.left - 1 } := by rw [Ar.dec_yes hc, subW_small (by omega) (by omega)]
        have hcell : (x.encR).set 4 (.int .i64 (addW .i64 (x.nth - x.left) 1)) = (x.dec kind).encR := by
          rw [hd, addW_small (by omega) (by omega)]
          simp only [Ar.encR, List.set_cons_succ, List.set_cons_zero]
          rw [show x.nth - x.left + 1 = x.nth - (x.left - 1) by omega]
        rw [hcell] at m5
        exact m5
      · rw [if_neg hc]
        have hd : x.dec kind = x := Ar.dec_no hc
        rw [hd]
        exact ⟨rfl, wf4, m4⟩
    rintro ni h4 ⟨e, wf4, m4⟩
    have b4 := Many.var (A := []) m4
    have hon : (x.dec kind).on = x.on := by unfold Ar.dec; split <;> rfl
    have hnth : (x.dec kind).nth = x.nth := by unfold Ar.dec; split <;> rfl
    have hpw : (x.dec kind).pw = x.pw := by unfold Ar.dec; split <;> rfl
    have hlf : countsD x.on kind = true ∧ (x.dec kind).left = x.left - 1 ∨ countsD x.on kind = false ∧ (x.dec kind).left = x.left := by
      by_cases hc : countsD x.on kind = true
      · left; refine ⟨hc, ?_⟩; rw [Ar.dec_yes hc, subW_small (by omega) (by omega)]
      · right; refine ⟨by simpa using hc, ?_⟩; rw [Ar.dec_no hc]
    generalize hy : x.dec kind = y at hpre m4 b4 hon hnth hpw hlf
    refine ⟨y.on, y.nth, y.pw, y.fa, y.fl, y.fc, y.nth - y.left, ⟨rfl, (b4.cells (o := 0) (n := 5) (Nat.le_of_ble_eq_true rfl)).trans rfl⟩, (c105 h4 y.on y.nth y.pw y.fa y.fl y.fc (y.nth - y.left) kind).wf fun v h5 wf5 _ ⟨e5, k5⟩ => ⟨_, e5, ?_⟩⟩
    have m5 := m4.kept k5
    have b5 := Many.var (A := []) m5
    refine ⟨fun _ => rfl, y.nth - y.left, fun _ => ⟨rfl, b5.one rfl⟩, fun _ => rfl, fun _ => rfl, y.nth, fun _ => ⟨rfl, b5.one rfl⟩, ?_⟩
    have hdue : y.due = true ↔ countsD y.on kind = true ∧ y.nth - y.left = y.nth := by
      unfold Ar.due
      rw [eqI_iff, hon]
      rcases hlf with ⟨q1, q2⟩ | ⟨q1, q2⟩
      · rw [q1, q2]; simp; omega
      · rw [q1]; simp; omega
    by_cases hd : y.due = true
    · rw [if_pos (by rw [and_iff, eqI_iff]; exact hdue.mp hd)]
      have hfil : ((D.arms.take (i + 1)).map (Ar.dec kind)).filter nd = ((D.arms.take i).map (Ar.dec kind)).filter nd := by rw [hpre, List.filter_append]; simp [nd, hd]
      rcases hp with ⟨q1, rfl, rfl⟩ | ⟨z, b, q1, rfl, rfl⟩
      · rw [if_pos (by rfl)]
        refine ⟨rfl, gl, sl, [Th.var hh.next y.encR], _, rfl, wf5, ?_, .inr ⟨y, hh.next, ?_, rfl, rfl⟩⟩
        · rw [hfil]
          exact m5.perm ((List.Perm.swap _ _ _).trans (List.Perm.cons _ List.perm_middle.symm))
        · rw [hpre, List.find?_append, q1]; simp [hd]
      · rw [if_neg (by simp [isN])]
        refine ⟨gl, sl, [Th.var b z.encR], _, rfl, wf5, ?_, .inr ⟨z, b, ?_, rfl, rfl⟩⟩
        · rw [hfil]; exact m5.sub (List.sublist_cons_self _ _)
        · rw [hpre, List.find?_append, q1]; rfl
    · have hd' : y.due = false := by simpa using hd
      rw [if_neg (by rw [and_iff, eqI_iff]; exact fun h => hd (hdue.mpr h))]
      have hfil : ((D.arms.take (i + 1)).map (Ar.dec kind)).filter nd = ((D.arms.take i).map (Ar.dec kind)).filter nd ++ [y] := by rw [hpre, List.filter_append]; simp [nd, hd']
      refine ⟨y.on, y.nth, y.pw, y.fa, y.fl, y.fc, y.nth - y.left, ⟨rfl, (b5.cells (o := 0) (n := 5) (Nat.le_of_ble_eq_true rfl)).trans rfl⟩, ?_⟩
      intro h6 e6
      have hsl : sl.l ≤ 64 := by
        have := (Many.own (A := [Th.var hh.next y.encR]) m5).2
        have h1 := List.length_filter_le nd ((D.arms.take i).map (Ar.dec kind))
        rw [List.length_map, List.length_take] at h1
        have : (((D.arms.take i).map (Ar.dec kind)).filter nd).length = sl.l := this
        omega
      obtain ⟨s', g', h7, e7, m7, hs', wf7⟩ := Many.push (A := [Th.var hh.next y.encR]) (x := y) wf5 m5 app112 e6 rfl rfl (room (by omega) (by omega))
      refine ⟨s'.a, s'.l, s'.c, h7, e7, g', s', Ex, _, rfl, wf7, ?_, ?_⟩
      · rw [hfil]; exact m7.sub (List.sublist_cons_self _ _)
      · rcases hp with ⟨q1, rfl, rfl⟩ | ⟨z, b, q1, rfl, rfl⟩
        · exact .inl ⟨by rw [hpre, List.find?_append, q1]; simp [hd'], rfl, rfl⟩
        · exact .inr ⟨z, b, by rw [hpre, List.find?_append, q1]; rfl, rfl, rfl⟩
  · rw [if_neg hlt]
    have hil : i = a.l := by rw [ltI_iff] at hlt; simp only [natI] at hlt; omega
    have ht : D.arms.take i = D.arms := List.take_of_length_le (by omega)
    rw [ht] at m1 hp
    obtain ⟨h2, e2, m2, wf2⟩ := Many.set (A := [Th.own Ar.encR 5 gl sl _]) (o := 4) (v := sl.v) wf1 m1 (by simp [rcells]) rfl
    refine ⟨rfl, rfl, rfl, h2, e2, gl, sl, Ex, ?_, ?_⟩
    · have m3 : Many h2 (Th.own Ar.encR 5 gl sl ((D.arms.map (Ar.dec kind)).filter nd) :: ([Th.var r (rcells { D with arms := (D.arms.map (Ar.dec kind)).filter nd } dd w sl), Th.own encS 1 gd dd D.dur, Th.own Wt.encR 3 gw w D.waits] ++ (Th.fates R Q :: (Ex ++ Rest)))) :=
        m2.sub (List.Sublist.cons_cons _ (List.Sublist.cons_cons _ (List.Sublist.cons_cons _ (List.Sublist.cons_cons _ (List.Sublist.cons _ (List.Sublist.refl _))))))
      exact m3.perm List.perm_middle.symm
    · rcases hp with ⟨q1, rfl, q3⟩ | ⟨z, b, q1, rfl, q3⟩
      · exact .inl ⟨q1, rfl, q3⟩
      · exact .inr ⟨z, b, q1, rfl, q3⟩
end
end Go.Proofs.Ytfkhjbfddeahaaa.kc

/- The document's disk: Read, Write, Grow, Crash. -/
set_option linter.unusedVariables false
set_option linter.unusedSimpArgs false
namespace Go.Proofs.Ytfkhjbfddeahaaa.kc
open Go Go.Cn Go.Proofs Go.Proofs.Ytfkhjbfddeahaaa.vc

/-- The last write that waits for a page. -/
def seenBack (W : List Wt) (no : Int) : Nat → Option ByteArray
  | 0 => none
  | n + 1 => match W[n]? with
    | some x => if ¬ x.act = 2 ∧ x.page = no then some x.data else seenBack W no n
    | none => seenBack W no n
def seenR (D : Dk) (no : Nat) : ByteArray := (seenBack D.waits no D.waits.length).getD ((D.dur[no]?).getD (zeros D.bytes.toNat))

/-- What is seen is what the image and the waiting things tell. -/
structure Coh (D : Dk) : Prop where
  wz : ∀ x ∈ D.waits, (x.act = 1 ∧ x.pages = 0 ∧ 0 ≤ x.page ∧ x.page < D.seen.length) ∨ (x.act = 2 ∧ x.page = 0 ∧ 0 ≤ x.pages ∧ x.pages ≤ D.seen.length)
  size : szN D.waits D.dur.length D.waits.length = D.seen.length
  seen : ∀ no, no < D.seen.length → D.seen[no]? = some (seenR D no)
  arms : ∀ x ∈ D.arms, x.sound
  fates : ∀ x ∈ D.arms, ∀ f ∈ x.fates, 0 ≤ f ∧ f ≤ 255

theorem dec_fk (kind : Int) (x : Ar) : (x.dec kind).fk = x.fk := by obtain ⟨a, b, c, d⟩ := x.dec_fa kind; unfold Ar.fk; rw [a, b, c, d]
theorem filter_all {A : List Ar} (h : A.find? Ar.due = none) : A.filter nd = A := by
  rw [List.filter_eq_self]
  intro y hy
  have := List.find?_eq_none.mp h y hy
  simp [nd] at this ⊢; exact this

section
variable {h : Hp} {r : Nat} {D : Dk} {Rest : List Th}

theorem c100 (x : RD r D Rest h) (hb : 0 ≤ D.bytes ∧ D.bytes ≤ 1048576) (hl : D.waits.length ≤ 8589934592) {no : Int} (hno : 0 ≤ no) : C 100 [.pointer (some ⟨r, 0, none⟩), .int .i64 no] h fun v h' => v = .string (seenR D no.toNat) ∧ Kept h h' := by
  refine SCalls_of_vw fol (pf := pf) (shp := shp100) (f := 100) (fn := Try.f100) (by kernel_rfl) (c := Try.f100.body.getD .skip) (by kernel_rfl) (by kernel_rfl) fun wf => ?_
  rw [vc100]
  obtain ⟨gd, gw, ga, R, Q, dd, w, a, hQ, m0⟩ := x
  have b0 := Many.var (A := []) m0
  have od := Many.own (A := [Th.var r _]) m0
  have ow := Many.own (A := [Th.var r _, Th.own encS 1 gd dd D.dur]) m0
  have hdl : D.dur.length = dd.l := od.2
  have hwl : D.waits.length = w.l := ow.2
  have hno' : ((no.toNat : Nat) : Int) = no := by omega
  refine ⟨rfl, rfl, w.a, w.l, w.c, ⟨rfl, b0.one rfl⟩, fun vals m hh => ∃ j : Nat, [.int .i64 ((j : Int) - 1)] = vals ∧ j ≤ w.l ∧ j = m ∧ h = hh ∧ seenBack D.waits no D.waits.length = seenBack D.waits no j, ⟨_, w.l, by rw [subW_small (by simp only [natI]; omega) (by simp only [natI]; omega)]; rfl, Nat.le_refl _, rfl, rfl, by rw [hwl]⟩, ?_⟩
  rintro n m hh ⟨j, e, hj, rfl, rfl, hsb⟩
  simp only [List.cons.injEq, Value.int.injEq, true_and, and_true] at e
  subst e
  by_cases hlt : geI ((j : Int) - 1) 0 = true
  · rw [if_pos hlt]
    have hlt : 1 ≤ j := by rw [geI_iff] at hlt; omega
    obtain ⟨i, rfl⟩ : ∃ i, j = i + 1 := ⟨j - 1, by omega⟩
    have ei : (((i + 1 : Nat) : Int) - 1) = (i : Int) := by omega
    rw [ei]
    have hz : D.waits[i]? = some (D.waits[i]'(by omega)) := List.getElem?_eq_getElem _
    generalize D.waits[i]'(by omega) = z at hz
    have hin : inR (i : Int) w.l := by simp only [inR]; omega
    obtain ⟨i1, i2⟩ := ow.slT.get Wt.wR hz (j := 0) (m := 1) (by omega)
    obtain ⟨_, i3⟩ := ow.slT.get Wt.wR hz (j := 1) (m := 1) (by omega)
    obtain ⟨_, i4⟩ := ow.slT.get Wt.wR hz (j := 2) (m := 1) (by omega)
    have hs : seenBack D.waits no (i + 1) = if ¬ z.act = 2 ∧ z.page = no then some z.data else seenBack D.waits no i := by rw [seenBack, hz]
    refine ⟨rfl, rfl, w.a, w.l, w.c, ⟨rfl, b0.one rfl⟩, ⟨i1, hin⟩, rfl, decide (z.act = 2), ⟨rfl, i2.trans rfl⟩, fun _ => rfl, fun _ => rfl, w.a, w.l, w.c, fun _ => ⟨rfl, b0.one rfl⟩, fun _ => ⟨i1, hin⟩, fun _ => rfl, (if z.act = 2 then z.pages else z.page), fun _ => ⟨rfl, i3.trans rfl⟩, ?_⟩
    by_cases hm : ¬ z.act = 2 ∧ z.page = no
    · rw [if_pos (by rw [and_iff, notB_iff, decide_eq_false_iff_not, eqI_iff, if_neg hm.1]; exact hm)]
      refine ⟨rfl, rfl, w.a, w.l, w.c, ⟨rfl, b0.one rfl⟩, ⟨i1, hin⟩, rfl, z.data, ⟨rfl, i4.trans rfl⟩, ?_, Keep.refl _ _⟩
      unfold seenR
      rw [hno', hsb, hs, if_pos hm]; rfl
    · rw [if_neg (by rw [and_iff, notB_iff, decide_eq_false_iff_not, eqI_iff]; rintro ⟨h1, h2⟩; rw [if_neg h1] at h2; exact hm ⟨h1, h2⟩)]
      exact ⟨i, by simp only [lessN]; omega, i, by rw [subW_small (by omega) (by omega)], by omega, rfl, rfl, by rw [hsb, hs, if_neg hm]⟩
  · rw [if_neg hlt]
    have hj0 : j = 0 := by rw [geI_iff] at hlt; omega
    subst hj0
    have hsn : seenR D no.toNat = (D.dur[no.toNat]?).getD (zeros D.bytes.toNat) := by unfold seenR; rw [hno', hsb]; rfl
    refine ⟨rfl, rfl, dd.a, dd.l, dd.c, ⟨rfl, b0.one rfl⟩, ?_⟩
    by_cases hd : ltI no (natI dd.l) = true
    · rw [if_pos hd]
      have hd : no < dd.l := by rw [ltI_iff] at hd; simp only [natI] at hd; omega
      have hz : D.dur[no.toNat]? = some (D.dur[no.toNat]'(by omega)) := List.getElem?_eq_getElem _
      generalize D.dur[no.toNat]'(by omega) = z at hz
      obtain ⟨i1, i2⟩ := od.slT.get encS_w hz (j := 0) (m := 1) (by omega)
      exact ⟨rfl, rfl, dd.a, dd.l, dd.c, ⟨rfl, b0.one rfl⟩, ⟨i1, by simp only [inR]; omega⟩, z, ⟨rfl, i2.trans rfl⟩, by rw [hsn, hz]; rfl, Keep.refl _ _⟩
    · rw [if_neg hd]
      have hd : ¬ no < dd.l := by rw [ltI_iff] at hd; simp only [natI] at hd; omega
      refine ⟨rfl, rfl, D.bytes, ⟨rfl, b0.one rfl⟩, (c104 h hb).mono fun v h' ⟨e, k'⟩ => ⟨_, e, ?_, k'⟩⟩
      rw [hsn, List.getElem?_eq_none (by omega)]; rfl

/-- Read. -/
theorem c75 {k M N : Nat} (x : RD r D Rest h) (fit : D.fit k M N) (hN : N ≤ 8589934592) (coh : Coh D) {no : Int} (hno : 0 ≤ no ∧ no < 4294967296) :
    C 75 [.pointer (some ⟨r, 0, none⟩), .int .u32 no] h fun v h' => v = .tuple #[.string (readD D no).1, .int .i64 (readD D no).2] ∧ Kept h h' := by
  refine SCalls_of_vw fol (pf := pf) (shp := shp75) (f := 75) (fn := Try.f75) (by kernel_rfl) (c := Try.f75.body.getD .skip) (by kernel_rfl) (by kernel_rfl) fun wf => ?_
  rw [vc75]
  have x0 := x
  obtain ⟨gd, gw, ga, R, Q, dd, w, a, hQ, m0⟩ := x
  have b0 := Many.var (A := []) m0
  have hW := fit.waits
  have hM := fit.ok.m1
  have hsM := fit.ok.seenL
  have hk1 := fit.ok.k1
  have hby := fit.ok.by_
  refine ⟨rfl, rfl, !D.off, ⟨rfl, b0.one rfl⟩, ?_⟩
  by_cases ho : D.off = true
  · rw [if_pos (by simp [ho, notB])]
    have : readD D no = (⟨#[]⟩, 7) := by unfold readD; rw [if_pos ho]
    rw [this]; exact ⟨rfl, Keep.refl _ _⟩
  rw [if_neg (by simp [notB]; simpa using ho)]
  refine (c71r x0 (by omega)).mono fun v h' ⟨e, e'⟩ => ⟨_, e, ?_⟩
  subst e'
  rw [coh.size, toW_u64 (by omega) (by omega), toW_u64 (by omega) (by omega)]
  by_cases hb : no < D.seen.length
  · rw [if_neg (by rw [geI_iff]; omega), toW_i64 (by omega) (by omega)]
    refine (c100 x0 (by omega) (by omega) hno.1).mono fun v h2 ⟨e2, k2⟩ => ⟨_, e2, ?_, k2⟩
    have : readD D no = (seenR D no.toNat, 0) := by unfold readD; rw [if_neg ho, coh.seen _ (by omega)]
    rw [this]
  · rw [if_pos (by rw [geI_iff]; omega)]
    have : readD D no = (⟨#[]⟩, 41) := by unfold readD; rw [if_neg ho, List.getElem?_eq_none (by omega)]
    rw [this]; exact ⟨rfl, Keep.refl _ _⟩

/-- Crash. -/
theorem c82 {k M N : Nat} (x : RD r D Rest h) (fit : D.fit k M N) (hN : N ≤ 8589934592) {T : Th} (hT : T ∈ Rest) {fa : Option Addr} {fl fc : Nat} {F : List Int} (hF : ∀ hh, T.P hh → ∃ G, SlT encF 1 hh G fa fl fc F) (hf : ∀ f ∈ F, 0 ≤ f ∧ f ≤ 255) (hfl : F.length ≤ 8589934592) :
    C 82 [.pointer (some ⟨r, 0, none⟩), .slice fa fl fc] h fun v h' => v = .int .i64 (crashD D F).2 ∧ RD r (crashD D F).1 Rest h' := by
  refine SCalls_of_vw fol (pf := pf) (shp := shp82) (f := 82) (fn := Try.f82) (by kernel_rfl) (c := Try.f82.body.getD .skip) (by kernel_rfl) (by kernel_rfl) fun wf => ?_
  rw [vc82]
  have x0 := x
  obtain ⟨gd, gw, ga, R, Q, dd, w, a, hQ, m0⟩ := x
  have b0 := Many.var (A := []) m0
  refine ⟨rfl, rfl, !D.off, ⟨rfl, b0.one rfl⟩, ?_⟩
  by_cases ho : D.off = true
  · rw [if_pos (by simp [ho, notB])]
    have : crashD D F = (D, 7) := by unfold crashD; rw [if_pos ho]
    rw [this]; exact ⟨rfl, x0⟩
  rw [if_neg (by simp [notB]; simpa using ho)]
  have : crashD D F = (goesD D F, 0) := by unfold crashD; rw [if_neg ho]
  rw [this]
  exact (c102 m0 fit.ok (T := T) (List.mem_cons_of_mem _ hT) hF hf hfl (by have := fit.waits; omega)).mono fun v h2 ⟨e, gd', dd', m⟩ => ⟨e, rfl, gd', none, none, R, Q, dd', ⟨none, 0, 0⟩, ⟨none, 0, 0⟩, by simp [goesD], m⟩

/-- Write. -/
theorem c76 {k M N : Nat} (x : RD r D Rest h) (fit : D.fit k M N) (hN : N ≤ 8589934500) (coh : Coh D) {no : Int} (hno : 0 ≤ no ∧ no < 4294967296) {data : ByteArray} :
    C 76 [.pointer (some ⟨r, 0, none⟩), .int .u32 no, .string data] h fun v h' => v = .int .i64 (writeD D no data).2 ∧ RD r (writeD D no data).1 Rest h' := by
  refine SCalls_of_vw fol (pf := pf) (shp := shp76) (f := 76) (fn := Try.f76) (by kernel_rfl) (c := Try.f76.body.getD .skip) (by kernel_rfl) (by kernel_rfl) fun wf => ?_
  rw [vc76]
  have x0 := x
  obtain ⟨gd, gw, ga, R, Q, dd, w, a, hQ, m0⟩ := x
  have b0 := Many.var (A := []) m0
  have hW := fit.waits
  have hM := fit.ok.m1
  have hsM := fit.ok.seenL
  have hk1 := fit.ok.k1
  have hby := fit.ok.by_
  refine ⟨rfl, rfl, !D.off, ⟨rfl, b0.one rfl⟩, ?_⟩
  by_cases ho : D.off = true
  · rw [if_pos (by simp [ho, notB])]
    have : writeD D no data = (D, 7) := by unfold writeD; rw [if_pos ho]
    rw [this]; exact ⟨rfl, x0⟩
  rw [if_neg (by simp [notB]; simpa using ho)]
  refine (c71r x0 (by omega)).mono fun v h' ⟨e, e'⟩ => ⟨_, e, ?_⟩
  subst e'
  rw [coh.size, toW_u64 (by omega) (by omega), toW_u64 (by omega) (by omega)]
  by_cases hb : no < D.seen.length
  rotate_left
  · rw [if_pos (by rw [geI_iff]; omega)]
    have : writeD D no data = (D, 41) := by unfold writeD; rw [if_neg ho, if_pos hb]
    rw [this]; exact ⟨rfl, x0⟩
  rw [if_neg (by rw [geI_iff]; omega)]
  refine ⟨rfl, rfl, D.bytes, ⟨rfl, b0.one rfl⟩, ?_⟩
  by_cases hs : (data.size : Int) = D.bytes
  rotate_left
  · rw [if_pos (by rw [neI_iff]; exact hs)]
    have : writeD D no data = (D, 2) := by unfold writeD; rw [if_neg ho, if_neg (not_not_intro hb), if_pos hs]
    rw [this]; exact ⟨rfl, x0⟩
  rw [if_neg (by rw [neI_iff]; exact not_not_intro hs)]
  have hwD : writeD D no data = if ¬ (actD D 1 6 [⟨1, no, 0, data⟩]).2 = 0 then actD D 1 6 [⟨1, no, 0, data⟩] else
      ({ D with arms := D.arms.map (Ar.dec 1), waits := D.waits ++ [⟨1, no, 0, data⟩], seen := D.seen.set no.toNat data, wr := addW .i64 D.wr 1 }, 0) := by
    unfold writeD; rw [if_neg ho, if_neg (not_not_intro hb), if_neg (not_not_intro hs)]
  have hgood : ∀ y ∈ [Wt.mk 1 no 0 data], y.good k M := by
    intro y hy; simp at hy; subst hy
    exact .inl ⟨rfl, hno.1, by simp only; omega, by simp only; omega⟩
  have hQ' : ∀ y ∈ (D.arms.map (Ar.dec 1)).filter nd, y.fk ∈ Q := fun y hy => by
    obtain ⟨z, hz, rfl⟩ := List.mem_map.mp (List.mem_filter.mp hy).1
    rw [dec_fk]; exact hQ z hz
  have encW1 : (Wt.mk 1 no 0 data).encR = [.bool false, .int .i64 (toW .i64 no), .string data] := by
    rw [toW_i64 (by omega) (by omega)]; simp [Wt.encR]
  refine (c101 m0 coh.arms fit.arms 1).wf fun v h2 wf2 _ ⟨ga2, a2, Ex, m2, hq⟩ => ?_
  have ow2 := Many.own (A := [Th.var r _, Th.own encS 1 gd dd D.dur]) m2
  have hwl : D.waits.length = w.l := ow2.2
  have b2 := Many.var (A := []) m2
  have drop : ∀ {hz : Hp} {D' : Dk} {gd gw ga : Option Nat} {dd w a : Sv}, Many hz (rthings r D' gd gw ga R Q dd w a ++ (Ex ++ Rest)) → Many hz (rthings r D' gd gw ga R Q dd w a ++ Rest) := fun m => m.sub (List.Sublist.append (List.Sublist.refl _) (List.sublist_append_right _ _))
  rcases hq with ⟨hfd, rfl, hEx⟩ | ⟨z, b, hfd, rfl, hEx⟩
  · have hact : actD D 1 6 [⟨1, no, 0, data⟩] = ({ D with arms := D.arms.map (Ar.dec 1), waits := D.waits ++ [⟨1, no, 0, data⟩] }, 0) := by unfold actD; rw [hfd]
    refine ⟨none, rfl, fun h => by simp [isN, notB] at h, fun h => by simp [isN, notB] at h, false, fun h => by simp [isN, notB] at h, ?_⟩
    rw [if_neg (by simp [isN, notB, sel])]
    refine ⟨rfl, rfl, w.a, w.l, w.c, ⟨rfl, b2.one rfl⟩, ?_⟩
    intro h3 e3
    rw [← encW1] at e3
    obtain ⟨s4, g4, h4, e4, m4, hs4, wf4⟩ := Many.push (A := [Th.var r _, Th.own encS 1 gd dd D.dur]) (x := ⟨1, no, 0, data⟩) wf2 m2 app111 e3 rfl rfl (room (by omega) (by omega))
    obtain ⟨h5, e5, m5, wf5⟩ := Many.set (A := []) (o := 3) (v := s4.v) wf4 m4 (by simp [rcells]) rfl
    have b5 := Many.var (A := []) m5
    obtain ⟨h6, e6, m6, wf6⟩ := Many.set (A := []) (o := 8) (v := .int .i64 (addW .i64 D.wr 1)) wf5 m5 (by simp [rcells]) rfl
    refine ⟨s4.a, s4.l, s4.c, h4, e4, rfl, rfl, rfl, h5, e5, ?_⟩
    rw [if_neg (by simp [isN, notB])]
    refine ⟨rfl, rfl, rfl, D.wr, ⟨rfl, b5.one rfl⟩, rfl, rfl, rfl, rfl, h6, e6, ?_⟩
    rw [hwD, if_neg (by rw [hact]; simp)]
    have m6' : Many h6 (rthings r { D with arms := (D.arms.map (Ar.dec 1)).filter nd, waits := D.waits ++ [⟨1, no, 0, data⟩], wr := addW .i64 D.wr 1 } gd g4 ga2 R Q dd s4 a2 ++ (Ex ++ Rest)) := m6
    have m7 := drop m6'
    rw [filter_all hfd] at m7 hQ'
    exact ⟨rfl, gd, g4, ga2, R, Q, dd, s4, a2, hQ', m7⟩
  · subst hEx
    have hzm : z ∈ D.arms.map (Ar.dec 1) := List.mem_of_find?_eq_some hfd
    obtain ⟨z0, hz0, hzz⟩ := List.mem_map.mp hzm
    have hzQ : z.fk ∈ Q := by rw [← hzz, dec_fk]; exact hQ z0 hz0
    have hzf : z.fates = z0.fates := by rw [← hzz]; exact (z0.dec_fa 1).2.2.2
    have loc2 : Blk h2 b (some b) z.encR := Many.var (A := rthings r _ gd gw ga2 R Q dd w a2) m2
    have n0 : notB (isN (some (Addr.mk b 0 none))) = true := rfl
    refine ⟨_, rfl, fun _ => rfl, fun _ => rfl, z.pw, fun _ => ⟨rfl, loc2.one rfl⟩, ?_⟩
    by_cases hp : z.pw = true
    rotate_left
    · have hp' : z.pw = false := by simpa using hp
      rw [if_pos (by rw [hp']; rfl)]
      have hact : actD D 1 6 [⟨1, no, 0, data⟩] = ({ D with arms := (D.arms.map (Ar.dec 1)).filter nd }, 6) := by unfold actD; rw [hfd]; simp only; rw [if_neg hp]
      rw [hwD, if_pos (by rw [hact]; simp), hact]
      exact ⟨rfl, gd, gw, ga2, R, Q, dd, w, a2, hQ', drop m2⟩
    rw [if_neg (by rw [hp]; simp [isN, notB, sel])]
    refine ⟨rfl, rfl, w.a, w.l, w.c, ⟨rfl, b2.one rfl⟩, ?_⟩
    intro h3 e3
    rw [← encW1] at e3
    obtain ⟨s4, g4, h4, e4, m4, hs4, wf4⟩ := Many.push (A := [Th.var r _, Th.own encS 1 gd dd D.dur]) (x := ⟨1, no, 0, data⟩) wf2 m2 app111 e3 rfl rfl (room (by omega) (by omega))
    obtain ⟨h5, e5, m5, wf5⟩ := Many.set (A := []) (o := 3) (v := s4.v) wf4 m4 (by simp [rcells]) rfl
    have m5' : Many h5 (rthings r { D with arms := (D.arms.map (Ar.dec 1)).filter nd, waits := D.waits ++ [⟨1, no, 0, data⟩] } gd g4 ga2 R Q dd s4 a2 ++ ([Th.var b z.encR] ++ Rest)) := m5
    have loc5 : Blk h5 b (some b) z.encR := Many.var (A := rthings r _ gd g4 ga2 R Q dd s4 a2) m5'
    refine ⟨s4.a, s4.l, s4.c, h4, e4, rfl, rfl, rfl, h5, e5, ?_⟩
    rw [if_pos n0]
    refine ⟨rfl, rfl, z.fa, z.fl, z.fc, ⟨rfl, loc5.one rfl⟩, ?_⟩
    have ok2 : Dk.ok k M { D with arms := (D.arms.map (Ar.dec 1)).filter nd, waits := D.waits ++ [⟨1, no, 0, data⟩] } := ⟨fit.ok.by_, fit.ok.k0, fit.ok.k1, fit.ok.m1, fit.ok.most, fit.ok.seenS, fit.ok.durS, fit.ok.seenL, fit.ok.durL, fun y hy => by
      rcases List.mem_append.mp hy with hy | hy
      · exact fit.ok.waits y hy
      · exact hgood y hy⟩
    have hact : actD D 1 6 [⟨1, no, 0, data⟩] = (goesD { D with arms := (D.arms.map (Ar.dec 1)).filter nd, waits := D.waits ++ [⟨1, no, 0, data⟩] } z.fates, 7) := by unfold actD; rw [hfd]; simp only; rw [if_pos hp]
    rw [hwD, if_pos (by rw [hact]; simp), hact]
    refine (c102 (F := z.fates) (Rest := [Th.var b z.encR] ++ Rest) m5' ok2 (T := Th.fates R Q) (List.mem_cons_self ..) (fun hh hP => by obtain ⟨G, _, q⟩ := hP _ hzQ; exact ⟨G, q⟩) (by rw [hzf]; exact coh.fates z0 hz0) (by rw [hzf]; exact fit.fates z0 hz0) (by simp; omega)).mono fun v h6 ⟨e6, gd', dd', m6⟩ => ⟨e6, rfl, gd', none, none, R, Q, dd', ⟨none, 0, 0⟩, ⟨none, 0, 0⟩, by simp [goesD], ?_⟩
    exact m6.sub (List.Sublist.append (List.Sublist.refl _) (List.sublist_cons_self _ _))
end
end Go.Proofs.Ytfkhjbfddeahaaa.kc

/- The document's disk: Grow, Sync, Waits. -/
set_option linter.unusedVariables false
set_option linter.unusedSimpArgs false
namespace Go.Proofs.Ytfkhjbfddeahaaa.kc
open Go Go.Cn Go.Proofs Go.Proofs.Ytfkhjbfddeahaaa.vc

/-- A list is copied. -/
theorem Many.clone {h : Hp} (wf : Wf h) {L : List Th} (m : Many h L) {α : Type} {enc : α → List Value} {w bytes : Nat} {t xt elem : TypeId} (ht : AppT Try.prog t xt elem w bytes) (hb : bytes ≤ 4096) (hc : ∀ x, (enc x).all isCell = true) {G : Option Nat} {a : Option Addr} {l c : Nat} {l1 : List α}
    (s : SlT enc w h G a l c l1) (hl : l1.length ≤ 8589934592) : ∃ s' g' h', cappend Try.prog t xt (.slice none 0 0) (.slice a l c) h = some (.slice s'.a s'.l s'.c, h') ∧ Many h' (Th.own enc w g' s' l1 :: L) ∧ s'.l = l ∧ Kept h h' ∧ (∀ y, g' = some y → h.next ≤ y) ∧ Wf h' := by
  have hcell : (l1.flatMap enc).all isCell = true := by
    simp only [List.all_eq_true, List.mem_flatMap]
    rintro v ⟨x, _, hv⟩
    exact List.all_eq_true.mp (hc x) v hv
  have hll := s.len
  obtain ⟨a', c', g', h', e1, o1, nw, k2, wf2⟩ := Ow.append wf ht (Ow.nil h w) (dataOf_sl s.sl) s.sl.len hcell (room (by omega) hb)
  simp only [Nat.zero_add, List.nil_append] at e1 o1
  have hg : ∀ y, g' = some y → h.next ≤ y := fun y hy => by
    rcases nw with rfl | ⟨z, rfl, hz⟩
    · simp at hy
    · simp at hy; omega
  have k : Kept h h' := ⟨k2.next, k2.ro, fun b cs t g hb _ => k2.rw b cs t g hb (by simp)⟩
  exact ⟨⟨a', l, c'⟩, g', h', e1, m.add k ⟨o1, hll⟩ (Th.own_stable _ _ _ _ _) (fun _ hy => hy) hg (fun y hy => .inl (hg y hy)) (o1.glt wf2), rfl, k, hg, wf2⟩

section
variable {h : Hp} {r : Nat} {D : Dk} {Rest : List Th}

/-- Grow. -/
theorem c77 {k M N : Nat} (x : RD r D Rest h) (fit : D.fit k M N) (hN : N ≤ 8589934500) (coh : Coh D) {n : Int} (hn : n < 9223372036854775808) :
    C 77 [.pointer (some ⟨r, 0, none⟩), .int .i64 n] h fun v h' => v = .int .i64 (growD D n).2 ∧ RD r (growD D n).1 Rest h' := by
  refine SCalls_of_vw fol (pf := pf) (shp := shp77) (f := 77) (fn := Try.f77) (by kernel_rfl) (c := Try.f77.body.getD .skip) (by kernel_rfl) (by kernel_rfl) fun wf => ?_
  rw [vc77]
  have x0 := x
  obtain ⟨gd, gw, ga, R, Q, dd, w, a, hQ, m0⟩ := x
  have b0 := Many.var (A := []) m0
  have hW := fit.waits
  have hM := fit.ok.m1
  have hsM := fit.ok.seenL
  have hk1 := fit.ok.k1
  have hby := fit.ok.by_
  have hmost := fit.ok.most
  refine ⟨rfl, rfl, !D.off, ⟨rfl, b0.one rfl⟩, ?_⟩
  by_cases ho : D.off = true
  · rw [if_pos (by simp [ho, notB])]
    have : growD D n = (D, 7) := by unfold growD; rw [if_pos ho]
    rw [this]; exact ⟨rfl, x0⟩
  rw [if_neg (by simp [notB]; simpa using ho)]
  by_cases hb : n < 1
  · rw [if_pos (by rw [ltI_iff]; omega)]
    have : growD D n = (D, 2) := by unfold growD; rw [if_neg ho, if_pos hb]
    rw [this]; exact ⟨rfl, x0⟩
  rw [if_neg (by rw [ltI_iff]; omega)]
  refine ⟨rfl, rfl, D.most, ⟨rfl, b0.one rfl⟩, ?_⟩
  refine (c71r x0 (by omega)).mono fun v h' ⟨e, e'⟩ => ⟨_, e, ⟨rfl, by rw [e']; exact b0.one rfl⟩, ?_⟩
  subst e'
  rw [coh.size, subW_small (by omega) (by omega)]
  by_cases hs : n > D.most - D.seen.length
  · rw [if_pos (by rw [gtI_iff]; exact hs)]
    have : growD D n = (D, 5) := by unfold growD; rw [if_neg ho, if_neg hb, if_pos hs]
    rw [this]; exact ⟨rfl, x0⟩
  rw [if_neg (by rw [gtI_iff]; exact hs)]
  obtain ⟨X, hX⟩ : ∃ X : Wt, X = ⟨2, 0, D.seen.length + n, ⟨#[]⟩⟩ := ⟨_, rfl⟩
  have hwD : growD D n = if ¬ (actD D 2 5 [X]).2 = 0 then actD D 2 5 [X] else
      ({ D with arms := D.arms.map (Ar.dec 2), waits := D.waits ++ [X], seen := stretchL D.bytes D.seen (D.seen.length + n), gr := addW .i64 D.gr 1 }, 0) := by
    unfold growD; rw [if_neg ho, if_neg hb, if_neg hs, ← hX]
  have hgood : ∀ y ∈ [X], y.good k M := by
    intro y hy; simp at hy; subst hy; subst hX
    exact .inr ⟨rfl, by simp only; omega, by simp only; omega⟩
  have hQ' : ∀ y ∈ (D.arms.map (Ar.dec 2)).filter nd, y.fk ∈ Q := fun y hy => by
    obtain ⟨z, hz, rfl⟩ := List.mem_map.mp (List.mem_filter.mp hy).1
    rw [dec_fk]; exact hQ z hz
  have encW1 : X.encR = [.bool true, .int .i64 (addW .i64 D.seen.length n), .string ⟨#[]⟩] := by
    subst hX; rw [addW_small (by omega) (by omega)]; simp [Wt.encR]

  refine (c101 m0 coh.arms fit.arms 2).wf fun v h2 wf2 _ ⟨ga2, a2, Ex, m2, hq⟩ => ?_
  have ow2 := Many.own (A := [Th.var r _, Th.own encS 1 gd dd D.dur]) m2
  have hwl : D.waits.length = w.l := ow2.2
  have b2 := Many.var (A := []) m2
  have x2 : RD r { D with arms := (D.arms.map (Ar.dec 2)).filter nd } (Ex ++ Rest) h2 := ⟨gd, gw, ga2, R, Q, dd, w, a2, hQ', m2⟩
  have drop : ∀ {hz : Hp} {D' : Dk} {gd gw ga : Option Nat} {dd w a : Sv}, Many hz (rthings r D' gd gw ga R Q dd w a ++ (Ex ++ Rest)) → Many hz (rthings r D' gd gw ga R Q dd w a ++ Rest) := fun m => m.sub (List.Sublist.append (List.Sublist.refl _) (List.sublist_append_right _ _))
  rcases hq with ⟨hfd, rfl, hEx⟩ | ⟨z, b, hfd, rfl, hEx⟩
  · have hact : actD D 2 5 [X] = ({ D with arms := D.arms.map (Ar.dec 2), waits := D.waits ++ [X] }, 0) := by unfold actD; rw [hfd]
    refine ⟨none, rfl, fun h => by simp [isN, notB] at h, fun h => by simp [isN, notB] at h, false, fun h => by simp [isN, notB] at h, ?_⟩
    rw [if_neg (by simp [isN, notB, sel])]
    refine ⟨rfl, rfl, w.a, w.l, w.c, ⟨rfl, b2.one rfl⟩, ?_⟩
    refine (c71r x2 (by simp only; omega)).mono fun v h' ⟨e, e'⟩ => ⟨_, e, ⟨rfl, by rw [e']; exact b2.one rfl⟩, ?_⟩
    subst e'
    simp only
    rw [coh.size]
    intro h3 e3
    rw [← encW1] at e3
    refine ⟨⟨rfl, ((new_blk wf2 e3).2.1.blk b2).one rfl⟩, ?_⟩
    obtain ⟨s4, g4, h4, e4, m4, hs4, wf4⟩ := Many.push (A := [Th.var r _, Th.own encS 1 gd dd D.dur]) (x := X) wf2 m2 app111 e3 rfl rfl (room (by omega) (by omega))
    obtain ⟨h5, e5, m5, wf5⟩ := Many.set (A := []) (o := 3) (v := s4.v) wf4 m4 (by simp [rcells]) rfl
    have b5 := Many.var (A := []) m5
    obtain ⟨h6, e6, m6, wf6⟩ := Many.set (A := []) (o := 9) (v := .int .i64 (addW .i64 D.gr 1)) wf5 m5 (by simp [rcells]) rfl
    refine ⟨s4.a, s4.l, s4.c, h4, e4, rfl, rfl, rfl, h5, e5, ?_⟩
    rw [if_neg (by simp [isN, notB])]
    refine ⟨rfl, rfl, rfl, D.gr, ⟨rfl, b5.one rfl⟩, rfl, rfl, rfl, rfl, h6, e6, ?_⟩
    rw [hwD, if_neg (by rw [hact]; simp)]
    have m6' : Many h6 (rthings r { D with arms := (D.arms.map (Ar.dec 2)).filter nd, waits := D.waits ++ [X], gr := addW .i64 D.gr 1 } gd g4 ga2 R Q dd s4 a2 ++ (Ex ++ Rest)) := m6
    have m7 := drop m6'
    rw [filter_all hfd] at m7 hQ'
    exact ⟨rfl, gd, g4, ga2, R, Q, dd, s4, a2, hQ', m7⟩
  · subst hEx
    have hzm : z ∈ D.arms.map (Ar.dec 2) := List.mem_of_find?_eq_some hfd
    obtain ⟨z0, hz0, hzz⟩ := List.mem_map.mp hzm
    have hzQ : z.fk ∈ Q := by rw [← hzz, dec_fk]; exact hQ z0 hz0
    have hzf : z.fates = z0.fates := by rw [← hzz]; exact (z0.dec_fa 2).2.2.2
    have loc2 : Blk h2 b (some b) z.encR := Many.var (A := rthings r _ gd gw ga2 R Q dd w a2) m2
    have n0 : notB (isN (some (Addr.mk b 0 none))) = true := rfl
    refine ⟨_, rfl, fun _ => rfl, fun _ => rfl, z.pw, fun _ => ⟨rfl, loc2.one rfl⟩, ?_⟩
    by_cases hp : z.pw = true
    rotate_left
    · have hp' : z.pw = false := by simpa using hp
      rw [if_pos (by rw [hp']; rfl)]
      have hact : actD D 2 5 [X] = ({ D with arms := (D.arms.map (Ar.dec 2)).filter nd }, 5) := by unfold actD; rw [hfd]; simp only; rw [if_neg hp]
      rw [hwD, if_pos (by rw [hact]; simp), hact]
      exact ⟨rfl, gd, gw, ga2, R, Q, dd, w, a2, hQ', drop m2⟩
    rw [if_neg (by rw [hp]; simp [isN, notB, sel])]
    refine ⟨rfl, rfl, w.a, w.l, w.c, ⟨rfl, b2.one rfl⟩, ?_⟩
    refine (c71r x2 (by simp only; omega)).mono fun v h' ⟨e, e'⟩ => ⟨_, e, ⟨rfl, by rw [e']; exact b2.one rfl⟩, ?_⟩
    subst e'
    simp only
    rw [coh.size]
    intro h3 e3
    rw [← encW1] at e3
    refine ⟨⟨rfl, ((new_blk wf2 e3).2.1.blk b2).one rfl⟩, ?_⟩
    obtain ⟨s4, g4, h4, e4, m4, hs4, wf4⟩ := Many.push (A := [Th.var r _, Th.own encS 1 gd dd D.dur]) (x := X) wf2 m2 app111 e3 rfl rfl (room (by omega) (by omega))
    obtain ⟨h5, e5, m5, wf5⟩ := Many.set (A := []) (o := 3) (v := s4.v) wf4 m4 (by simp [rcells]) rfl
    have m5' : Many h5 (rthings r { D with arms := (D.arms.map (Ar.dec 2)).filter nd, waits := D.waits ++ [X] } gd g4 ga2 R Q dd s4 a2 ++ ([Th.var b z.encR] ++ Rest)) := m5
    have loc5 : Blk h5 b (some b) z.encR := Many.var (A := rthings r _ gd g4 ga2 R Q dd s4 a2) m5'
    refine ⟨s4.a, s4.l, s4.c, h4, e4, rfl, rfl, rfl, h5, e5, ?_⟩
    rw [if_pos n0]
    refine ⟨rfl, rfl, z.fa, z.fl, z.fc, ⟨rfl, loc5.one rfl⟩, ?_⟩
    have ok2 : Dk.ok k M { D with arms := (D.arms.map (Ar.dec 2)).filter nd, waits := D.waits ++ [X] } := ⟨fit.ok.by_, fit.ok.k0, fit.ok.k1, fit.ok.m1, fit.ok.most, fit.ok.seenS, fit.ok.durS, fit.ok.seenL, fit.ok.durL, fun y hy => by
      rcases List.mem_append.mp hy with hy | hy
      · exact fit.ok.waits y hy
      · exact hgood y hy⟩
    have hact : actD D 2 5 [X] = (goesD { D with arms := (D.arms.map (Ar.dec 2)).filter nd, waits := D.waits ++ [X] } z.fates, 7) := by unfold actD; rw [hfd]; simp only; rw [if_pos hp]
    rw [hwD, if_pos (by rw [hact]; simp), hact]
    refine (c102 (F := z.fates) (Rest := [Th.var b z.encR] ++ Rest) m5' ok2 (T := Th.fates R Q) (List.mem_cons_self ..) (fun hh hP => by obtain ⟨G, _, q⟩ := hP _ hzQ; exact ⟨G, q⟩) (by rw [hzf]; exact coh.fates z0 hz0) (by rw [hzf]; exact fit.fates z0 hz0) (by simp; omega)).mono fun v h6 ⟨e6, gd', dd', m6⟩ => ⟨e6, rfl, gd', none, none, R, Q, dd', ⟨none, 0, 0⟩, ⟨none, 0, 0⟩, by simp [goesD], ?_⟩
    exact m6.sub (List.Sublist.append (List.Sublist.refl _) (List.sublist_cons_self _ _))

/-- Sync. -/
theorem c78 {k M N : Nat} (x : RD r D Rest h) (fit : D.fit k M N) (hN : N ≤ 8589934500) (coh : Coh D) :
    C 78 [.pointer (some ⟨r, 0, none⟩)] h fun v h' => v = .int .i64 (syncD D).2 ∧ RD r (syncD D).1 Rest h' := by
  refine SCalls_of_vw fol (pf := pf) (shp := shp78) (f := 78) (fn := Try.f78) (by kernel_rfl) (c := Try.f78.body.getD .skip) (by kernel_rfl) (by kernel_rfl) fun wf => ?_
  rw [vc78]
  have x0 := x
  obtain ⟨gd, gw, ga, R, Q, dd, w, a, hQ, m0⟩ := x
  have b0 := Many.var (A := []) m0
  have hW := fit.waits
  have hM := fit.ok.m1
  have hsM := fit.ok.seenL
  have hk1 := fit.ok.k1
  have hby := fit.ok.by_
  refine ⟨rfl, rfl, !D.off, ⟨rfl, b0.one rfl⟩, ?_⟩
  by_cases ho : D.off = true
  · rw [if_pos (by simp [ho, notB])]
    have : syncD D = (D, 7) := by unfold syncD; rw [if_pos ho]
    rw [this]; exact ⟨rfl, x0⟩
  rw [if_neg (by simp [notB]; simpa using ho)]
  have hwD : syncD D = if ¬ (actD D 3 6 []).2 = 0 then actD D 3 6 [] else
      ({ D with arms := D.arms.map (Ar.dec 3), waits := [], dur := D.seen, sy := addW .i64 D.sy 1 }, 0) := by
    unfold syncD; rw [if_neg ho]
  have hQ' : ∀ y ∈ (D.arms.map (Ar.dec 3)).filter nd, y.fk ∈ Q := fun y hy => by
    obtain ⟨z, hz, rfl⟩ := List.mem_map.mp (List.mem_filter.mp hy).1
    rw [dec_fk]; exact hQ z hz
  refine (c101 m0 coh.arms fit.arms 3).wf fun v h2 wf2 _ ⟨ga2, a2, Ex, m2, hq⟩ => ?_
  have b2 := Many.var (A := []) m2
  rcases hq with ⟨hfd, rfl, hEx⟩ | ⟨z, b, hfd, rfl, hEx⟩
  · subst hEx
    have hact : actD D 3 6 [] = ({ D with arms := D.arms.map (Ar.dec 3) }, 0) := by unfold actD; rw [hfd]; simp
    have x2 : RD r { D with arms := (D.arms.map (Ar.dec 3)).filter nd } Rest h2 := ⟨gd, gw, ga2, R, Q, dd, w, a2, hQ', m2⟩
    refine ⟨none, rfl, fun h => by simp [isN, notB] at h, fun h => by simp [isN, notB] at h, false, fun h => by simp [isN, notB] at h, ?_⟩
    rw [if_neg (by simp [isN, notB, sel]), if_neg (by simp [isN, notB])]
    refine (c71r x2 (by simp only; omega)).mono fun v h' ⟨e, e'⟩ => ⟨_, e, ?_⟩
    subst e'
    simp only
    rw [coh.size]
    have m2' : Many h' (Th.own encS 1 none ⟨none, 0, 0⟩ [] :: (rthings r { D with arms := (D.arms.map (Ar.dec 3)).filter nd } gd gw ga2 R Q dd w a2 ++ Rest)) :=
      m2.add (Keep.refl _ _) OwT.nil (Th.own_stable _ _ _ _ _) (fun _ hy => hy) (fun y hy => by have hy : none = some y := hy; simp at hy) (fun y hy => by have hy : none = some y := hy; simp at hy) (fun y hy => by have hy : none = some y := hy; simp at hy)
    refine ⟨fun vals m hh => ∃ (i : Nat) (gl : Option Nat) (sl : Sv), [sl.v, .int .i64 i] = vals ∧ i ≤ D.seen.length ∧ m = D.seen.length - i ∧ Wf hh ∧ Many hh (Th.own encS 1 gl sl (D.seen.take i) :: (rthings r { D with arms := (D.arms.map (Ar.dec 3)).filter nd } gd gw ga2 R Q dd w a2 ++ Rest)),
      ⟨D.seen.length, 0, none, ⟨none, 0, 0⟩, rfl, Nat.zero_le _, rfl, wf2, by simpa using m2'⟩, ?_⟩
    rintro a1 l1 c1 n m hh ⟨i, gl, sl, e, hi, rfl, wf1, m1⟩
    simp at e
    obtain ⟨⟨rfl, rfl, rfl⟩, rfl⟩ := e
    have hsl : (D.seen.take i).length = sl.l := (Many.own (A := []) m1).2
    rw [List.length_take, Nat.min_eq_left hi] at hsl
    by_cases hlt : ltI (i : Int) (D.seen.length : Int) = true
    · rw [if_pos hlt]
      have hlt : i < D.seen.length := by rw [ltI_iff] at hlt; omega
      have x1 : RD r { D with arms := (D.arms.map (Ar.dec 3)).filter nd } (Th.own encS 1 gl sl (D.seen.take i) :: Rest) hh := ⟨gd, gw, ga2, R, Q, dd, w, a2, hQ', m1.perm List.perm_middle.symm⟩
      refine (c100 x1 (by simp only; omega) (by simp only; omega) (by omega)).wf fun v h3 wf3 _ ⟨e3, k3⟩ => ⟨_, e3, ?_⟩
      intro h4 e4
      have m3 := m1.kept k3
      obtain ⟨s4, g4, h5, e5, m5, hs4, wf5⟩ := Many.push (A := []) (x := seenR D i) wf3 m3 app40 e4 rfl rfl (room (by omega) (by omega))
      refine ⟨s4.a, s4.l, s4.c, h5, e5, _, ?_, i + 1, g4, s4, by rw [addW_small (by omega) (by omega)]; rfl, by omega, rfl, wf5, ?_⟩
      · simp only [lessN]; omega
      · have : D.seen.take (i + 1) = D.seen.take i ++ [seenR D i] := by rw [List.take_add_one, coh.seen i hlt]; rfl
        rw [this]; exact m5
    · rw [if_neg hlt]
      have hil : i = D.seen.length := by rw [ltI_iff] at hlt; omega
      have ht : D.seen.take i = D.seen := List.take_of_length_le (by omega)
      rw [ht] at m1
      obtain ⟨h3, e3, m3, wf3⟩ := Many.set (A := [Th.own encS 1 gl sl _]) (o := 2) (v := sl.v) wf1 m1 (by simp [rcells]) rfl
      obtain ⟨h4, e4, m4, wf4⟩ := Many.set (A := [Th.own encS 1 gl sl _]) (o := 3) (v := .slice none 0 0) wf3 m3 (by simp [rcells]) rfl
      have b4 := Many.var (A := [Th.own encS 1 gl sl _]) m4
      obtain ⟨h5, e5, m5, wf5⟩ := Many.set (A := [Th.own encS 1 gl sl _]) (o := 10) (v := .int .i64 (addW .i64 D.sy 1)) wf4 m4 (by simp [rcells]) rfl
      refine ⟨rfl, rfl, rfl, h3, e3, rfl, rfl, rfl, h4, e4, rfl, rfl, rfl, D.sy, ⟨rfl, b4.one rfl⟩, rfl, rfl, rfl, rfl, h5, e5, ?_⟩
      rw [hwD, if_neg (by rw [hact]; simp)]
      have m6 := Many.drop (A := [Th.own encS 1 gl sl D.seen, Th.var r _, Th.own encS 1 gd dd _]) m5
      have m7 : Many h5 (Th.own encS 1 gl sl D.seen :: ([Th.var r (rcells { D with arms := D.arms.map (Ar.dec 3), waits := [], dur := D.seen, sy := addW .i64 D.sy 1 } sl ⟨none, 0, 0⟩ a2)] ++ (Th.own Wt.encR 3 none ⟨none, 0, 0⟩ [] :: Th.own Ar.encR 5 ga2 a2 (D.arms.map (Ar.dec 3)) :: Th.fates R Q :: Rest))) := by
        rw [← filter_all hfd]
        exact m6.sub (List.Sublist.cons_cons _ (List.Sublist.cons_cons _ (List.Sublist.cons _ (List.Sublist.refl _))))
      rw [filter_all hfd] at hQ'
      exact ⟨rfl, gl, none, ga2, R, Q, sl, ⟨none, 0, 0⟩, a2, hQ', m7.perm List.perm_middle.symm⟩
  · subst hEx
    have hzm : z ∈ D.arms.map (Ar.dec 3) := List.mem_of_find?_eq_some hfd
    obtain ⟨z0, hz0, hzz⟩ := List.mem_map.mp hzm
    have hzQ : z.fk ∈ Q := by rw [← hzz, dec_fk]; exact hQ z0 hz0
    have hzf : z.fates = z0.fates := by rw [← hzz]; exact (z0.dec_fa 3).2.2.2
    have loc2 : Blk h2 b (some b) z.encR := Many.var (A := rthings r _ gd gw ga2 R Q dd w a2) m2
    have n0 : notB (isN (some (Addr.mk b 0 none))) = true := rfl
    refine ⟨_, rfl, fun _ => rfl, fun _ => rfl, z.pw, fun _ => ⟨rfl, loc2.one rfl⟩, ?_⟩
    by_cases hp : z.pw = true
    rotate_left
    · have hp' : z.pw = false := by simpa using hp
      rw [if_pos (by rw [hp']; rfl)]
      have hact : actD D 3 6 [] = ({ D with arms := (D.arms.map (Ar.dec 3)).filter nd }, 6) := by unfold actD; rw [hfd]; simp only; rw [if_neg hp]
      rw [hwD, if_pos (by rw [hact]; simp), hact]
      exact ⟨rfl, gd, gw, ga2, R, Q, dd, w, a2, hQ', m2.sub (List.Sublist.append (List.Sublist.refl _) (List.sublist_append_right _ _))⟩
    rw [if_neg (by rw [hp]; simp [isN, notB, sel]), if_pos n0]
    refine ⟨rfl, rfl, z.fa, z.fl, z.fc, ⟨rfl, loc2.one rfl⟩, ?_⟩
    have ok2 : Dk.ok k M { D with arms := (D.arms.map (Ar.dec 3)).filter nd } := ⟨fit.ok.by_, fit.ok.k0, fit.ok.k1, fit.ok.m1, fit.ok.most, fit.ok.seenS, fit.ok.durS, fit.ok.seenL, fit.ok.durL, fit.ok.waits⟩
    have hact : actD D 3 6 [] = (goesD { D with arms := (D.arms.map (Ar.dec 3)).filter nd } z.fates, 7) := by unfold actD; rw [hfd]; simp only; rw [if_pos hp]; simp
    rw [hwD, if_pos (by rw [hact]; simp), hact]
    refine (c102 (F := z.fates) (Rest := [Th.var b z.encR] ++ Rest) m2 ok2 (T := Th.fates R Q) (List.mem_cons_self ..) (fun hh hP => by obtain ⟨G, _, q⟩ := hP _ hzQ; exact ⟨G, q⟩) (by rw [hzf]; exact coh.fates z0 hz0) (by rw [hzf]; exact fit.fates z0 hz0) (by simp; omega)).mono fun v h6 ⟨e6, gd', dd', m6⟩ => ⟨e6, rfl, gd', none, none, R, Q, dd', ⟨none, 0, 0⟩, ⟨none, 0, 0⟩, by simp [goesD], ?_⟩
    exact m6.sub (List.Sublist.append (List.Sublist.refl _) (List.sublist_cons_self _ _))
end
end Go.Proofs.Ytfkhjbfddeahaaa.kc

/- The document's disk: Waits, Fork, Arm. -/
set_option linter.unusedVariables false
set_option linter.unusedSimpArgs false
namespace Go.Proofs.Ytfkhjbfddeahaaa.kc
open Go Go.Cn Go.Proofs Go.Proofs.Ytfkhjbfddeahaaa.vc

theorem Many.nilOwn {h : Hp} {L : List Th} (m : Many h L) {α : Type} (enc : α → List Value) (w : Nat) : Many h (Th.own enc w none ⟨none, 0, 0⟩ [] :: L) :=
  m.add (Keep.refl _ _) OwT.nil (Th.own_stable _ _ _ _ _) (fun _ hy => hy) (fun y hy => by have hy : none = some y := hy; simp at hy) (fun y hy => by have hy : none = some y := hy; simp at hy) (fun y hy => by have hy : none = some y := hy; simp at hy)

/-- Of two things that are apart neither writes to what the other leans on. -/
theorem pair_of {L : List Th} (hs : L.Pairwise fun x y => Out x.W y.F ∧ Out y.W x.F) {x y : Th} (hx : x ∈ L) (hy : y ∈ L) (hne : x ≠ y) : Out x.W y.F := by
  induction L with
  | nil => cases hx
  | cons z L ih =>
    rw [List.pairwise_cons] at hs
    rcases List.mem_cons.mp hx with e1 | h1
    · rcases List.mem_cons.mp hy with e2 | h2
      · exact absurd (e1.trans e2.symm) hne
      · rw [e1]; exact (hs.1 y h2).1
    · rcases List.mem_cons.mp hy with e2 | h2
      · rw [e2]; exact (hs.1 x h1).2
      · exact ih hs.2 h1 h2

theorem toW_u32 {n : Int} (h0 : 0 ≤ n) (h1 : n < 4294967296) : toW .u32 n = n := by
  unfold toW IntKind.wrap
  simp [IntKind.bits, IntKind.signed]
  omega

theorem Wt.cR (x : Wt) : x.encR.all isCell = true := rfl
theorem Ar.cR (x : Ar) : x.encR.all isCell = true := rfl
theorem encW_c (x : Int × Int × Int) : (encW x).all isCell = true := rfl

section
variable {h : Hp} {r : Nat} {D : Dk} {Rest : List Th}

/-- Waits. -/
theorem c103 {k M N : Nat} (x : RD r D Rest h) (fit : D.fit k M N) (hN : N ≤ 8589934500) (coh : Coh D) :
    C 103 [.pointer (some ⟨r, 0, none⟩)] h fun v h' => ∃ g s, v = Sv.v s ∧ RD r D (Th.own encW 3 g s (D.waits.map Wt.told) :: Rest) h' ∧ Wf h' := by
  refine SCalls_of_vw fol (pf := pf) (shp := shp103) (f := 103) (fn := Try.f103) (by kernel_rfl) (c := Try.f103.body.getD .skip) (by kernel_rfl) (by kernel_rfl) fun wf => ?_
  rw [vc103]
  obtain ⟨gd, gw, ga, R, Q, dd, w, a, hQ, m0⟩ := x
  have hW := fit.waits
  have hM := fit.ok.m1
  have hsM := fit.ok.seenL
  have hwl : D.waits.length = w.l := (Many.own (A := [Th.var r _, Th.own encS 1 gd dd D.dur]) m0).2
  refine ⟨fun vals m hh => ∃ (i : Nat) (gl : Option Nat) (sl : Sv), [sl.v, .int .i64 i] = vals ∧ i ≤ w.l ∧ m = w.l - i ∧ Wf hh ∧ Many hh (Th.own encW 3 gl sl ((D.waits.take i).map Wt.told) :: (rthings r D gd gw ga R Q dd w a ++ Rest)),
    ⟨w.l, 0, none, ⟨none, 0, 0⟩, rfl, Nat.zero_le _, rfl, wf, by simpa using m0.nilOwn encW 3⟩, ?_⟩
  rintro a1 l1 c1 n m hh ⟨i, gl, sl, e, hi, rfl, wf1, m1⟩
  simp at e
  obtain ⟨⟨rfl, rfl, rfl⟩, rfl⟩ := e
  have b1 := Many.var (A := [Th.own encW 3 gl sl _]) m1
  have ow := Many.own (A := [Th.own encW 3 gl sl _, Th.var r _, Th.own encS 1 gd dd D.dur]) m1
  have hsl : ((D.waits.take i).map Wt.told).length = sl.l := (Many.own (A := []) m1).2
  rw [List.length_map, List.length_take, Nat.min_eq_left (by omega)] at hsl
  refine ⟨rfl, rfl, w.a, w.l, w.c, ⟨rfl, b1.one rfl⟩, ?_⟩
  by_cases hlt : ltI (i : Int) (natI w.l) = true
  · rw [if_pos hlt]
    have hlt : i < w.l := by rw [ltI_iff] at hlt; simp only [natI] at hlt; omega
    have hz : D.waits[i]? = some (D.waits[i]'(by omega)) := List.getElem?_eq_getElem _
    generalize D.waits[i]'(by omega) = z at hz
    have hzw := coh.wz z (List.mem_of_getElem? hz)
    obtain ⟨i1, i2⟩ := ow.slT.get Wt.wR hz (j := 0) (m := 3) (by omega)
    have htake : (D.waits.take (i + 1)).map Wt.told = (D.waits.take i).map Wt.told ++ [z.told] := by rw [List.take_add_one, hz]; simp
    refine ⟨rfl, rfl, w.a, w.l, w.c, ⟨rfl, b1.one rfl⟩, ⟨i1, by simp only [inR]; omega⟩, decide (z.act = 2), (if z.act = 2 then z.pages else z.page), z.data, ⟨rfl, i2.trans rfl⟩, ?_⟩
    intro h2 e2
    obtain ⟨m2, wf2, n2⟩ := m1.newVar wf1 e2
    obtain ⟨h3, e3, m3, wf3⟩ := Many.fill (A := []) (vs := z.encR) wf2 m2 rfl rfl
    have b3 := Many.var (A := []) m3
    refine ⟨rfl, h3, e3, rfl, _, ⟨rfl, b3.one rfl⟩, ?_⟩
    by_cases hg : z.act = 2
    · rw [if_pos (decide_eq_true hg)]
      refine ⟨rfl, z.pages, ⟨rfl, b3.one (by simp [Wt.encR, hg])⟩, ?_⟩
      intro h4 e4
      have e5 : h4 = h3.alloc (encW z.told) 60 := by
        rw [e4]; unfold Wt.told encW
        rcases hzw with ⟨q1, _⟩ | ⟨q1, q2, _⟩
        · omega
        · rw [q1, q2]; rfl
      obtain ⟨s4, g4, h5, e6, m5, hs4, wf5⟩ := Many.push (A := [Th.var hh.next z.encR]) (x := z.told) wf3 m3 app51 e5 rfl rfl (room (by omega) (by omega))
      refine ⟨s4.a, s4.l, s4.c, h5, e6, _, ?_, i + 1, g4, s4, by rw [addW_small (by omega) (by omega)]; rfl, by omega, rfl, wf5, ?_⟩
      · simp only [lessN]; omega
      · rw [htake]; exact m5.sub (List.sublist_cons_self _ _)
    · rw [if_neg (by rw [decide_eq_true_eq]; exact hg)]
      refine ⟨rfl, z.page, ⟨rfl, b3.one (by simp [Wt.encR, hg])⟩, ?_⟩
      intro h4 e4
      have e5 : h4 = h3.alloc (encW z.told) 60 := by
        rw [e4]; unfold Wt.told encW
        rcases hzw with ⟨q1, q2, q3, q4⟩ | ⟨q1, _⟩
        · rw [q1, q2, toW_u32 (by omega) (by omega)]; rfl
        · omega
      obtain ⟨s4, g4, h5, e6, m5, hs4, wf5⟩ := Many.push (A := [Th.var hh.next z.encR]) (x := z.told) wf3 m3 app51 e5 rfl rfl (room (by omega) (by omega))
      refine ⟨s4.a, s4.l, s4.c, h5, e6, _, ?_, i + 1, g4, s4, by rw [addW_small (by omega) (by omega)]; rfl, by omega, rfl, wf5, ?_⟩
      · simp only [lessN]; omega
      · rw [htake]; exact m5.sub (List.sublist_cons_self _ _)
  · rw [if_neg hlt]
    have hil : i = w.l := by rw [ltI_iff] at hlt; simp only [natI] at hlt; omega
    have ht : D.waits.take i = D.waits := List.take_of_length_le (by omega)
    rw [ht] at m1
    exact ⟨gl, sl, rfl, ⟨gd, gw, ga, R, Q, dd, w, a, hQ, m1.perm List.perm_middle.symm⟩, wf1⟩

/-- Fork. -/
theorem c88 {k M N : Nat} (x : RD r D Rest h) (fit : D.fit k M N) (hN : N ≤ 8589934500) :
    C 88 [.pointer (some ⟨r, 0, none⟩)] h fun v h' => ∃ q gd gw ga R Q dd w a gd' gw' ga' dd' w' a', v = .pointer (some ⟨q, 0, none⟩) ∧ (∀ x ∈ D.arms, x.fk ∈ Q) ∧ Many h' (rthings q D gd' gw' ga' R Q dd' w' a' ++ (rthings r D gd gw ga R Q dd w a ++ Rest)) ∧ Wf h' := by
  refine SCalls_of_vw fol (pf := pf) (shp := shp88) (f := 88) (fn := Try.f88) (by kernel_rfl) (c := Try.f88.body.getD .skip) (by kernel_rfl) (by kernel_rfl) fun wf => ?_
  rw [vc88]
  obtain ⟨gd, gw, ga, R, Q, dd, w, a, hQ, m0⟩ := x
  have hW := fit.waits
  have hM := fit.ok.m1
  have hdM := fit.ok.durL
  have hA := fit.arms
  have b0 := Many.var (A := []) m0
  refine ⟨rfl, D.bytes, D.most, dd.a, dd.l, dd.c, w.a, w.l, w.c, a.a, a.l, a.c, !D.off, D.life, D.taken, D.wr, D.gr, D.sy, ⟨rfl, (b0.cells (o := 0) (n := 11) (Nat.le_of_ble_eq_true rfl)).trans rfl⟩, ?_⟩
  intro h1 e1
  obtain ⟨m1, wf1, n1⟩ := m0.newVar wf e1
  obtain ⟨h2, e2, m2, wf2⟩ := Many.fill (A := []) (vs := rcells D dd w a) wf1 m1 rfl rfl
  generalize hq : h.next = q at *
  have b2 := Many.var (A := [Th.var q _]) m2
  have o2 := Many.own (A := [Th.var q _, Th.var r _]) m2
  refine ⟨rfl, h2, e2, rfl, rfl, dd.a, dd.l, dd.c, ⟨rfl, b2.one rfl⟩, ?_⟩
  obtain ⟨dd', gd', h3, e3, m3, hs3, _, _, wf3⟩ := m2.clone wf2 app40 (by omega) encS_c o2.slT (by omega)
  obtain ⟨h4, e4, m4, wf4⟩ := Many.set (A := [Th.own encS 1 gd' dd' _]) (o := 2) (v := dd'.v) wf3 m3 (by simp [rcells]) rfl
  have b4 := Many.var (A := [Th.own encS 1 gd' dd' _, Th.var q _]) m4
  have o4 := Many.own (A := [Th.own encS 1 gd' dd' _, Th.var q _, Th.var r _, Th.own encS 1 gd dd _]) m4
  refine ⟨dd'.a, dd'.l, dd'.c, h3, e3, rfl, rfl, h4, e4, rfl, rfl, w.a, w.l, w.c, ⟨rfl, b4.one rfl⟩, ?_⟩
  obtain ⟨w', gw', h5, e5, m5, hs5, _, _, wf5⟩ := m4.clone wf4 app111 (by omega) Wt.cR o4.slT (by omega)
  obtain ⟨h6, e6, m6, wf6⟩ := Many.set (A := [Th.own Wt.encR 3 gw' w' _, Th.own encS 1 gd' dd' _]) (o := 3) (v := w'.v) wf5 m5 (by simp [rcells]) rfl
  have b6 := Many.var (A := [Th.own Wt.encR 3 gw' w' _, Th.own encS 1 gd' dd' _, Th.var q _]) m6
  have o6 := Many.own (A := [Th.own Wt.encR 3 gw' w' _, Th.own encS 1 gd' dd' _, Th.var q _, Th.var r _, Th.own encS 1 gd dd _, Th.own Wt.encR 3 gw w _]) m6
  refine ⟨w'.a, w'.l, w'.c, h5, e5, rfl, rfl, h6, e6, rfl, rfl, a.a, a.l, a.c, ⟨rfl, b6.one rfl⟩, ?_⟩
  obtain ⟨a', ga', h7, e7, m7, hs7, _, _, wf7⟩ := m6.clone wf6 app112 (by omega) Ar.cR o6.slT (by omega)
  obtain ⟨h8, e8, m8, wf8⟩ := Many.set (A := [Th.own Ar.encR 5 ga' a' _, Th.own Wt.encR 3 gw' w' _, Th.own encS 1 gd' dd' _]) (o := 4) (v := a'.v) wf7 m7 (by simp [rcells]) rfl
  refine ⟨a'.a, a'.l, a'.c, h7, e7, rfl, rfl, h8, e8, q, gd, gw, ga, R, Q, dd, w, a, gd', gw', ga', dd', w', a', rfl, hQ, ?_, wf8⟩
  have hF := m8.at_ (Th.fates R Q) (by simp [rthings])
  have m9 : Many h8 (Th.fates R Q :: ([Th.own Ar.encR 5 ga' a' D.arms, Th.own Wt.encR 3 gw' w' D.waits, Th.own encS 1 gd' dd' D.dur, Th.var q (rcells D dd' w' a')] ++ (rthings r D gd gw ga R Q dd w a ++ Rest))) := by
    have m8' : Many h8 ([Th.own Ar.encR 5 ga' a' D.arms, Th.own Wt.encR 3 gw' w' D.waits, Th.own encS 1 gd' dd' D.dur, Th.var q (rcells D dd' w' a')] ++ (rthings r D gd gw ga R Q dd w a ++ Rest)) := m8
    refine ⟨fun x hx => ?_, List.pairwise_cons.mpr ⟨fun x hx => ⟨fun y hy => by have hy : False := hy; exact hy.elim, ?_⟩, m8'.sep⟩⟩
    · rcases List.mem_cons.mp hx with rfl | hx
      · exact hF
      · exact m8'.at_ x hx
    · -- nobody writes to what the fates lie in
      intro y hy hR
      have hsep := m8'.sep
      have hmem : Th.fates R Q ∈ [Th.own Ar.encR 5 ga' a' D.arms, Th.own Wt.encR 3 gw' w' D.waits, Th.own encS 1 gd' dd' D.dur, Th.var q (rcells D dd' w' a')] ++ (rthings r D gd gw ga R Q dd w a ++ Rest) := by simp [rthings]
      by_cases hx2 : x = Th.fates R Q
      · subst hx2; exact hy
      · exact pair_of hsep hx hmem hx2 y hy hR
  refine m9.perm ?_
  show ([Th.fates R Q, Th.own Ar.encR 5 ga' a' D.arms, Th.own Wt.encR 3 gw' w' D.waits, Th.own encS 1 gd' dd' D.dur, Th.var q (rcells D dd' w' a')] ++ (rthings r D gd gw ga R Q dd w a ++ Rest)).Perm (rthings q D gd' gw' ga' R Q dd' w' a' ++ (rthings r D gd gw ga R Q dd w a ++ Rest))
  refine List.Perm.append_right _ ?_
  exact (List.reverse_perm [Th.var q (rcells D dd' w' a'), Th.own encS 1 gd' dd' D.dur, Th.own Wt.encR 3 gw' w' D.waits, Th.own Ar.encR 5 ga' a' D.arms, Th.fates R Q])
end
end Go.Proofs.Ytfkhjbfddeahaaa.kc

/- Contracts: Arm. -/
set_option linter.unusedVariables false
set_option linter.unusedSimpArgs false
namespace Go.Proofs.Ytfkhjbfddeahaaa.kc
open Go Go.Cn Go.Proofs Go.Proofs.Ytfkhjbfddeahaaa.vc

def Ar.enc4 (x : Ar) : List Value := [.int .u8 x.on, .int .i64 x.nth, .bool x.pw, .slice x.fa x.fl x.fc]
theorem Ar.w4 (x : Ar) : x.enc4.length = 4 := rfl
def Ar.bad (x : Ar) : Bool := sel (gtI x.on 3) true (ltI x.nth 1)
def Ar.key (x : Ar) : Int × Int × Bool × List Int × Int := (x.on, x.nth, x.pw, x.fates, x.left)
def Ar.key' (x : Ar) : Int × Int × Bool × List Int × Int := (x.on, x.nth, x.pw, x.fates, x.nth)

def armE (D : Dk) (Ls : List Ar) : Int := if D.off = true then 7 else if Ls.any Ar.bad = true then 2 else if D.arms.length + Ls.length > 64 then 4 else 0
def ArmTo (D : Dk) (Ls : List Ar) (D' : Dk) : Prop := (armE D Ls ≠ 0 ∧ D' = D) ∨ (armE D Ls = 0 ∧ ∃ N : List Ar, N.map Ar.key = Ls.map Ar.key' ∧ D' = { D with arms := D.arms ++ N })

section
variable {h : Hp} {d g0 : Nat} {gs gd gw ga : Option Nat} {R : Nat → Prop} {D : Dk} {s dd w a : Sv}

theorem c44 {k M N : Nat} (x : DX h d g0 gs gd gw ga R D s dd w a) (fit : D.fit k M N) {G : Option Nat} {aa : Option Addr} {al ac : Nat} {Ls : List Ar} (sa : SlT Ar.enc4 4 h G aa al ac Ls) (hG : ∀ y, G = some y → ¬ own g0 gs gd gw ga y)
    (hF : ∀ z ∈ Ls, ∃ Gz, (∀ y, Gz = some y → ¬ own g0 gs gd gw ga y) ∧ SlT encF 1 h Gz z.fa z.fl z.fc z.fates) (hl : al ≤ 1048576) (hfl : ∀ z ∈ Ls, z.fates.length ≤ 8589934592) :
    C 44 [.pointer (some ⟨d, 0, none⟩), .slice aa al ac] h fun v h' => v = .int .i64 (armE D Ls) ∧ ∃ D', ArmTo D Ls D' ∧ Nx h d g0 gs gd gw ga R D' h' := by
  refine SCalls_of_vw fol (pf := pf) (shp := shp44) (f := 44) (fn := Try.f44) (by kernel_rfl) (c := Try.f44.body.getD .skip) (by kernel_rfl) (by kernel_rfl) fun wf => ?_
  rw [vc44]
  have hal := sa.len
  refine (c62 x fit.ok.pos).mono fun v h' ⟨e, e'⟩ => ⟨_, e, ?_⟩
  subst e'
  by_cases ho : D.off = true
  · rw [if_pos ho, if_pos (by rfl)]
    have : armE D Ls = 7 := by unfold armE; rw [if_pos ho]
    rw [this]; exact ⟨rfl, D, .inl ⟨by rw [this]; omega, rfl⟩, x.nx⟩
  rw [if_neg ho, if_neg (by rw [neI_iff]; simp)]
  refine ⟨fun vals m hh => ∃ i : Nat, [.int .i64 i] = vals ∧ i ≤ al ∧ m = al - i ∧ Wf hh ∧ Kept h' hh ∧ (Ls.take i).any Ar.bad = false, ⟨al, 0, rfl, Nat.zero_le _, rfl, wf, Keep.refl _ _, by simp⟩, ?_⟩
  rintro n m hh ⟨i, e, hi, rfl, wf1, k1, hno⟩
  simp at e; subst e
  have s1 := sa.keep k1 fun _ _ hf => hf
  split
  · rename_i hlt
    have hlt : i < al := by rw [ltI_iff] at hlt; simp only [natI] at hlt; omega
    have hz : Ls[i]? = some (Ls[i]'(by omega)) := List.getElem?_eq_getElem _
    generalize Ls[i]'(by omega) = z at hz
    obtain ⟨i1, i2⟩ := s1.get Ar.w4 hz (j := 0) (m := 4) (by omega)
    refine ⟨⟨i1, by simp only [inR]; omega⟩, z.on, z.nth, z.pw, z.fa, z.fl, z.fc, ⟨rfl, i2.trans rfl⟩, ?_⟩
    intro h2 e2
    obtain ⟨b2, k2, n2, wf2⟩ := new_blk wf1 e2
    obtain ⟨h3, e3, b3, k3, _, n3, wf3⟩ := set_blk wf2 b2 k2 wf1 (Nat.le_refl _) (vs := z.enc4) rfl rfl
    refine ⟨rfl, h3, e3, rfl, z.on, ⟨rfl, b3.one rfl⟩, fun _ => rfl, z.nth, fun _ => ⟨rfl, b3.one rfl⟩, ?_⟩
    have k13 := k1.trans wf k3 fun _ _ hf => hf
    by_cases hb : z.bad = true
    · rw [if_pos (show sel (gtI z.on 3) true (ltI z.nth 1) = true from hb)]
      have : armE D Ls = 2 := by unfold armE; rw [if_neg ho, if_pos (List.any_eq_true.mpr ⟨z, List.mem_of_getElem? hz, hb⟩)]
      rw [this]
      exact ⟨rfl, D, .inl ⟨by rw [this]; omega, rfl⟩, Nx.after wf k13 (x.kept k13).nx⟩
    · rw [if_neg (show ¬ sel (gtI z.on 3) true (ltI z.nth 1) = true from hb)]
      refine ⟨al - (i + 1), by simp only [lessN]; omega, i + 1, by rw [addW_small (by omega) (by omega)]; rfl, by omega, rfl, wf3, k13, ?_⟩
      rw [List.take_add_one, hz, List.any_append, hno]; simpa using hb
  · rename_i hlt
    have hil : i = al := by rw [ltI_iff] at hlt; simp only [natI] at hlt; omega
    have ht : Ls.take i = Ls := List.take_of_length_le (by omega)
    rw [ht] at hno
    have x1 := x.kept k1
    have hal' := x1.arms.2
    have hA := fit.arms
    refine ⟨rfl, rfl, a.a, a.l, a.c, ⟨rfl, x1.blk.one rfl⟩, ?_⟩
    rw [addW_small (by simp only [natI]; omega) (by simp only [natI]; omega)]
    by_cases h64 : D.arms.length + Ls.length > 64
    · rw [if_pos (by rw [gtI_iff]; simp only [natI]; omega)]
      have : armE D Ls = 4 := by unfold armE; rw [if_neg ho, if_neg (by rw [hno]; simp), if_pos h64]
      rw [this]
      exact ⟨rfl, D, .inl ⟨by rw [this]; omega, rfl⟩, Nx.after wf k1 x1.nx⟩
    rw [if_neg (by rw [gtI_iff]; simp only [natI]; omega)]
    have hE : armE D Ls = 0 := by unfold armE; rw [if_neg ho, if_neg (by rw [hno]; simp), if_neg h64]
    obtain ⟨l0, l1, l2, l3, l4⟩ := x.lts wf
    refine ⟨fun vals m hh => ∃ (i : Nat) (ga' : Option Nat) (R' : Nat → Prop) (a' : Sv) (N : List Ar), [.int .i64 i] = vals ∧ i ≤ al ∧ m = al - i ∧ Wf hh ∧ DX hh d g0 gs gd gw ga' R' { D with arms := D.arms ++ N } s dd w a' ∧ N.map Ar.key = (Ls.take i).map Ar.key' ∧ Nw h' ga' ga ∧ (∀ y, R' y → R y ∨ h'.next ≤ y) ∧ Keep (own g0 gs gd gw ga) h' hh,
      ⟨al, 0, ga, R, a, [], rfl, Nat.zero_le _, rfl, wf1, by simpa using x1, by simp, Nw.same, fun _ hy => .inl hy, k1.mono wf fun _ _ hf => hf.elim⟩, ?_⟩
    clear hlt ht hi hno
    rintro n m h5 ⟨i, ga', R', a', N, e, hi, rfl, wf5, x5, hN, nw5, hR5, k5⟩
    simp at e; subst e
    have hNl : N.length = i := by have := congrArg List.length hN; simp at this; omega
    have s5 := sa.keep k5 hG
    split
    · rename_i hlt
      have hlt : i < al := by rw [ltI_iff] at hlt; simp only [natI] at hlt; omega
      have hz : Ls[i]? = some (Ls[i]'(by omega)) := List.getElem?_eq_getElem _
      generalize Ls[i]'(by omega) = z at hz
      have hzm := List.mem_of_getElem? hz
      obtain ⟨Gz, hGz, sz⟩ := hF z hzm
      obtain ⟨i1, i2⟩ := s5.get Ar.w4 hz (j := 0) (m := 4) (by omega)
      refine ⟨⟨i1, by simp only [inR]; omega⟩, z.on, z.nth, z.pw, z.fa, z.fl, z.fc, ⟨rfl, i2.trans rfl⟩, ?_⟩
      intro h6 e6
      obtain ⟨b6, k6, n6, wf6⟩ := new_blk wf5 e6
      obtain ⟨h7, e7, b7, k7, _, n7, wf7⟩ := set_blk wf6 b6 k6 wf5 (Nat.le_refl _) (vs := z.enc4) rfl rfl
      have sz7 := (sz.keep k5 hGz).keep k7 fun _ _ hf => hf
      refine ⟨rfl, h7, e7, rfl, z.fa, z.fl, z.fc, ⟨rfl, b7.one rfl⟩, ?_⟩
      refine (c72 sz7 (by rw [← sz7.len]; exact hfl z hzm)).wf fun v h8 wf8 _ ⟨s8, g8, e8, o8, m8, k8⟩ => ⟨s8.a, s8.l, s8.c, e8, rfl, rfl, ?_⟩
      have b8 : Blk h8 h5.next (some h5.next) z.enc4 := k8.blk b7
      obtain ⟨h9, e9, b9, k9, n9, w9⟩ := b8.set (o := 3) (v := s8.v) (by simp [Ar.enc4]) rfl
      have wf9 := w9 wf8
      have k59 : Kept h5 h9 := (k7.trans wf5 k8 fun _ _ hf => hf).trans wf5 k9 fun y hy he => by omega
      have x9 := x5.kept k59
      refine ⟨h9, e9, rfl, rfl, a'.a, a'.l, a'.c, ⟨rfl, x9.blk.one rfl⟩, z.on, z.nth, z.pw, s8.a, s8.l, s8.c, ⟨rfl, (b9.cells (o := 0) (n := 4) (Nat.le_of_ble_eq_true rfl)).trans rfl⟩, rfl, z.nth, ⟨rfl, b9.one rfl⟩, ?_⟩
      intro h10 e10
      obtain ⟨b10, k10, n10, wf10⟩ := new_blk wf9 e10
      have x10 := x9.kept k10
      refine ⟨⟨rfl, x10.blk.one rfl⟩, ?_⟩
      have hal9 : (D.arms ++ N).length = a'.l := x9.arms.2
      rw [List.length_append] at hal9
      obtain ⟨a11, c11, g11, h11, e11, o11, nw11, k11, wf11⟩ := Ow.append1 wf9 app99 x9.arms.1 e10 rfl rfl (room (by omega) (by omega))
      have b11 : Blk h11 d (some g0) (dcells { D with arms := D.arms ++ N } s dd w a') := k11.blk x9.blk fun y hy he => x9.a4 y hy he
      obtain ⟨h12, e12, b12, k12, n12, w12⟩ := b11.set (o := 7) (v := .slice a11 (a'.l + 1) c11) (by simp [dcells]) rfl
      refine ⟨a11, _, c11, h11, e11, rfl, rfl, rfl, h12, e12, al - (i + 1), by simp only [lessN]; omega, ?_⟩
      have q57 := k7.next
      have q78 := k8.next
      have q89 := k9.next
      have hg8 : ∀ y, g8 = some y → h7.next ≤ y ∧ y < h8.next := fun y hy => by
        refine ⟨?_, o8.1.glt wf8 y hy⟩
        rcases m8 with rfl | ⟨z, rfl, hz⟩
        · simp at hy
        · simp at hy; omega
      have hg11 : ∀ y, g11 = some y → ga' = some y ∨ h9.next ≤ y := fun y hy => by
        rcases nw11 with rfl | ⟨z, rfl, hz⟩
        · exact .inl hy
        · simp at hy; subst hy; exact .inr hz
      obtain ⟨_, _, _, _, la5⟩ := x5.lts wf5
      have o8' : SlT encF 1 h11 g8 s8.a s8.l s8.c z.fates := ((o8.keep k9 fun y hy he => by have := (hg8 y hy).1; omega).keep k11 fun y hy he => by have := la5 y he; have := (hg8 y hy).1; omega).slT
      have x12 : DX h12 d g0 gs gd gw g11 (fun y => R' y ∨ g8 = some y) { D with arms := D.arms ++ N ++ [⟨z.on, z.nth, z.pw, s8.a, s8.l, s8.c, z.nth, z.fates⟩] } s dd w ⟨a11, a'.l + 1, c11⟩ := by
        have k5_11 : Keep (fun y => ga' = some y) h5 h11 := (k59.mono wf5 (S' := fun y => ga' = some y) fun _ _ hf => hf.elim).trans wf5 k11 fun _ _ hy => hy
        refine x5.setArms wf5 (h1 := h11) (h2 := h12) (ga' := g11) (L := D.arms ++ N ++ [⟨z.on, z.nth, z.pw, s8.a, s8.l, s8.c, z.nth, z.fates⟩]) (R' := fun y => R' y ∨ g8 = some y) k5_11 (a' := ⟨a11, a'.l + 1, c11⟩) ⟨?_, ?_⟩ ?_ k12 b12 (fun y hy => ?_) (fun y hy => ?_)
        · have : (D.arms ++ N ++ [Ar.mk z.on z.nth z.pw s8.a s8.l s8.c z.nth z.fates]).flatMap Ar.enc = (D.arms ++ N).flatMap Ar.enc ++ [.int .u8 z.on, .int .i64 z.nth, .bool z.pw, .slice s8.a s8.l s8.c, .int .i64 z.nth] := by
            rw [List.flatMap_append]; simp [Ar.enc]
          rw [this]; exact o11
        · rw [List.length_append, List.length_append]; simp; omega
        · rcases nw11 with rfl | ⟨z, rfl, hz⟩
          · exact Nw.same
          · exact .inr (.inr ⟨z, rfl, by omega⟩)
        · rcases hy with hy | hy
          · refine ⟨.inl hy, Nat.lt_of_lt_of_le (x5.rlt y hy) k5_11.next, fun he => ?_⟩
            rcases hg11 y he with h1 | h1
            · exact (x5.ro y hy).2.2.2.2 h1
            · have := x5.rlt y hy; omega
          · obtain ⟨q1, q2⟩ := hg8 y hy
            refine ⟨.inr (by omega), by have := k11.next; omega, fun he => ?_⟩
            rcases hg11 y he with h1 | h1
            · have := la5 y h1; omega
            · omega
        · rcases List.mem_append.mp hy with hy | hy
          · obtain ⟨Gy, hGy, sy⟩ := x5.fates y hy
            exact ⟨Gy, fun z hz => .inl (hGy z hz), sy.keep k5_11 fun z hz he => (x5.ro z (hGy z hz)).2.2.2.2 he⟩
          · simp at hy; subst hy
            exact ⟨g8, fun z hz => .inr hz, o8'⟩
      have x12' : DX h12 d g0 gs gd gw g11 (fun y => R' y ∨ g8 = some y) { D with arms := D.arms ++ (N ++ [⟨z.on, z.nth, z.pw, s8.a, s8.l, s8.c, z.nth, z.fates⟩]) } s dd w ⟨a11, a'.l + 1, c11⟩ := by rw [← List.append_assoc]; exact x12
      refine ⟨i + 1, g11, _, _, _, by rw [addW_small (by omega) (by omega)]; rfl, by omega, rfl, w12 wf11, x12', ?_, ?_, fun y hy => ?_, ?_⟩
      · rw [List.take_add_one, hz]; simp [hN, Ar.key, Ar.key']
      · rcases nw11 with rfl | ⟨z, rfl, hz⟩
        · exact nw5
        · exact .inr (.inr ⟨z, rfl, by have := k5.next; omega⟩)
      · rcases hy with hy | hy
        · exact hR5 y hy
        · have := (hg8 y hy).1; have := k5.next; exact .inr (by omega)
      · refine ((k5.trans wf k59 fun _ _ hf => hf.elim).trans wf k11 fun y hy he => ?_).trans wf k12 fun y hy he => .inl he
        rcases nw5 with rfl | rfl | ⟨z, rfl, hz⟩
        · exact .inr (.inr (.inr (.inr he)))
        · simp at he
        · simp at he; omega
    · rename_i hlt
      have hil : i = al := by rw [ltI_iff] at hlt; simp only [natI] at hlt; omega
      have ht : Ls.take i = Ls := List.take_of_length_le (by omega)
      rw [ht] at hN
      rw [hE]
      exact ⟨rfl, _, .inr ⟨hE, N, hN, rfl⟩, gs, gd, gw, ga', R', s, dd, w, a', x5, Nw.same, Nw.same, Nw.same, nw5, hR5, k5⟩
end
end Go.Proofs.Ytfkhjbfddeahaaa.kc

/- The laws' arguments: steps of a script, fates, pages. -/
set_option linter.unusedVariables false
set_option linter.unusedSimpArgs false
namespace Go.Proofs.Ytfkhjbfddeahaaa.kc
open Go Go.Cn Go.Proofs Go.Proofs.Ytfkhjbfddeahaaa.vc

theorem cells47 : Try.prog.cellsOf 47 = 9 := by kernel_rfl
theorem cells57 : Try.prog.cellsOf 57 = 1 := by kernel_rfl
theorem cells9 : Try.prog.cellsOf 9 = 1 := by kernel_rfl

def Stp.encS (x : {s : Stp // s.ok}) : List Value := x.1.enc

theorem fine_step {h : Hp} {N n : Nat} {cs : List Value} (hg : Fine Try.prog h N n 47 cs) : ∃ x : {s : Stp // s.ok}, cs = Stp.encS x := by
  obtain ⟨m, rfl, c0, r0, rfl, g0, c1, r1, rfl, g1, c2, r2, rfl, g2, c3, r3, rfl, g3, c4, r4, rfl, g4, c5, r5, rfl, g5, c6, r6, rfl, g6, rfl⟩ := hg.struct Try.underlying47
  obtain ⟨dO, rfl, _⟩ := g0.int Try.underlying3
  obtain ⟨wh, rfl, _⟩ := g1.int Try.underlying3
  obtain ⟨no, rfl, hno⟩ := g2.int Try.underlying42
  obtain ⟨n, rfl, hn⟩ := g3.int Try.underlying3
  obtain ⟨m', rfl, d0, q0, rfl, f0, d1, q1, rfl, f1, d2, q2, rfl, f2, rfl⟩ := g4.struct Try.underlying44
  obtain ⟨len, rfl, _⟩ := f0.int Try.underlying3
  obtain ⟨b, rfl, _⟩ := f1.int Try.underlying5
  obtain ⟨st, rfl, _⟩ := f2.int Try.underlying5
  obtain ⟨aa, al, ac, _, rfl, _⟩ := g5.slice (enc := fun x : List Value => x) Try.underlying45 (rfl : Try.prog.cellsOf 77 = Try.prog.cellsOf 77) fun _ cs _ => ⟨cs, rfl⟩
  obtain ⟨fa, fl, fc, _, rfl, _⟩ := g6.slice (enc := fun x : List Value => x) Try.underlying36 (rfl : Try.prog.cellsOf 57 = Try.prog.cellsOf 57) fun _ cs _ => ⟨cs, rfl⟩
  simp only [Lit.wf, Bool.and_eq_true, decide_eq_true_eq] at hno hn
  have e1 : IntKind.u32.min = 0 := rfl
  have e2 : IntKind.u32.max = 4294967295 := rfl
  have e3 : IntKind.i64.min = -9223372036854775808 := rfl
  have e4 : IntKind.i64.max = 9223372036854775807 := rfl
  rw [e1, e2] at hno
  rw [e3, e4] at hn
  exact ⟨⟨⟨dO, wh, no, n, len, b, st, aa, al, ac, fa, fl, fc⟩, ⟨hno.1, by simp only; omega, hn.1, by simp only; omega⟩⟩, rfl⟩

theorem SlT.map {α β : Type} {enc : β → List Value} {f : α → β} {w : Nat} {h : Hp} {g : Option Nat} {a : Option Addr} {l c : Nat} {L : List α} (s : SlT (fun x => enc (f x)) w h g a l c L) : SlT enc w h g a l c (L.map f) :=
  ⟨by rw [List.flatMap_map]; exact s.sl, by rw [List.length_map]; exact s.len⟩

theorem fine_steps {h : Hp} {N n : Nat} {cs : List Value} (hg : Fine Try.prog h N n 35 cs) : ∃ a l c L, cs = [.slice a l c] ∧ c ≤ N ∧ SlT Stp.enc 9 h none a l c L ∧ ∀ s ∈ L, s.ok := by
  obtain ⟨a, l, c, L, rfl, hc, s⟩ := hg.slice (enc := Stp.encS) Try.underlying35 cells47 fun _ _ => fine_step
  refine ⟨a, l, c, L.map Subtype.val, rfl, hc, SlT.map s, fun x hx => ?_⟩
  obtain ⟨y, _, rfl⟩ := List.mem_map.mp hx
  exact y.2

theorem fine_pages {h : Hp} {N n : Nat} {cs : List Value} (hg : Fine Try.prog h N n 40 cs) : ∃ a l c L, cs = [.slice a l c] ∧ c ≤ N ∧ SlT encS 1 h none a l c L :=
  hg.slice (enc := encS) Try.underlying40 cells9 fun _ _ g => by
    obtain ⟨s, rfl, _⟩ := g.string Try.underlying9
    exact ⟨s, rfl⟩

theorem fine_fates {h : Hp} {N n : Nat} {cs : List Value} (hg : Fine Try.prog h N n 36 cs) : ∃ a l c L, cs = [.slice a l c] ∧ c ≤ N ∧ SlT encF 1 h none a l c L ∧ ∀ f ∈ L, 0 ≤ f ∧ f ≤ 255 := by
  obtain ⟨a, l, c, L, rfl, hc, s⟩ := hg.slice (enc := fun x : {f : Int // 0 ≤ f ∧ f ≤ 255} => encF x.1) Try.underlying36 cells57 fun _ _ g => by
    obtain ⟨f, rfl, hf⟩ := g.int Try.underlying57
    simp only [Lit.wf, Bool.and_eq_true, decide_eq_true_eq] at hf
    exact ⟨⟨f, hf⟩, rfl⟩
  refine ⟨a, l, c, L.map Subtype.val, rfl, hc, SlT.map s, fun x hx => ?_⟩
  obtain ⟨y, _, rfl⟩ := List.mem_map.mp hx
  exact y.2
end Go.Proofs.Ytfkhjbfddeahaaa.kc

/- An arm: the plain law; helpers of DiskArms. -/
set_option linter.unusedVariables false
set_option linter.unusedSimpArgs false
namespace Go.Proofs.Ytfkhjbfddeahaaa.kc
open Go Go.Cn Go.Proofs Go.Proofs.Ytfkhjbfddeahaaa.vc

/-- A disk with one arm. -/
def armed1 (F : Dk) (x : Ar) : Dk := { F with arms := [x] }
def Ar.less (x : Ar) : Ar := { x with left := subW .i64 x.left 1 }

theorem Dk.noArms {F : Dk} (c : F.arms = []) : { F with arms := [] } = F := by cases F; simp at c; subst c; rfl

theorem act_armed {F : Dk} {x : Ar} (c : F.arms = []) (hon : x.on = 0) (kind refused : Int) (adds : List Wt) :
    actD (armed1 F x) kind refused adds = if x.less.left = 0 then (if x.pw = true then (goesD { F with waits := F.waits ++ adds } x.fates, 7) else (F, refused)) else (armed1 { F with waits := F.waits ++ adds } x.less, 0) := by
  have hd : x.dec kind = x.less := by unfold Ar.dec; rw [if_pos (by rw [or_iff, eqI_iff]; exact .inl hon)]; rfl
  have hm : (armed1 F x).arms.map (Ar.dec kind) = [x.less] := by simp [armed1, hd]
  unfold actD
  rw [hm]
  by_cases hl : x.less.left = 0
  · have hdue : x.less.due = true := eqI_iff.mpr hl
    have hf : [x.less].find? Ar.due = some x.less := by simp [hdue]
    have hn : [x.less].filter nd = [] := by simp [nd, hdue]
    rw [hf, if_pos hl]
    simp only [hn]
    have hp : x.less.pw = x.pw := rfl
    have hfa : x.less.fates = x.fates := rfl
    rw [hp, hfa]
    split
    · have : ({ armed1 F x with arms := [], waits := (armed1 F x).waits ++ adds } : Dk) = { F with waits := F.waits ++ adds } := by simp [armed1, c]
      rw [this]
    · have : ({ armed1 F x with arms := [] } : Dk) = F := by simp only [armed1]; exact Dk.noArms c
      rw [this]
  · have hdue : x.less.due = false := by rw [Bool.eq_false_iff]; intro h; exact hl (eqI_iff.mp h)
    have hf : [x.less].find? Ar.due = none := by simp [hdue]
    rw [hf, if_neg hl]
    rfl

/-- What one step does to a calm disk, and to the same disk with an arm. -/
structure Stepped (F : Dk) (x : Ar) (s : Stp) (F' : Dk) (adds : List Wt) : Prop where
  free : playD F s = (F', true)
  sync : s.dO = 3 → adds = []
  else_ : s.dO ≠ 3 → F'.waits = F.waits ++ adds ∧ F'.dur = F.dur
  bytes : F'.bytes = F.bytes
  taken : F'.taken = F.taken
  arm : playD (armed1 F x) s = if x.less.left = 0 then (if x.pw = true then (goesD { F with waits := F.waits ++ adds } x.fates, false) else (F, false)) else (armed1 F' x.less, true)

theorem play_armed {F : Dk} {x : Ar} (c : Calm F) (hon : x.on = 0) {s : Stp} (hdo : s.dO = 1 ∨ s.dO = 2 ∨ s.dO = 3) :
    (playD F s = (F, false) ∧ playD (armed1 F x) s = (armed1 F x, false)) ∨ ∃ F' adds, Stepped F x s F' adds := by
  have ho : ¬ F.off = true := by rw [c.on]; simp
  have ho' : ¬ (armed1 F x).off = true := ho
  have e00 : eqI (0 : Int) 0 = true := rfl
  have ne : ∀ n : Int, n ≠ 0 → eqI n 0 = false := fun n h => by rw [Bool.eq_false_iff]; intro h2; exact h (eqI_iff.mp h2)
  rcases hdo with h1 | h2 | h3
  · generalize hn : remW s.no 8 = no
    generalize hd : textB s.b s.st (textN s.len 1024) = data
    have pf : ∀ D, playD D s = ((writeD D no data).1, eqI (writeD D no data).2 0) := fun D => by unfold playD; rw [if_pos h1, hn, hd]
    rw [pf, pf]
    by_cases hb : no < F.seen.length
    rotate_left
    · left
      have w1 : writeD F no data = (F, 41) := by unfold writeD; rw [if_neg ho, if_pos hb]
      have hb' : ¬ no < (armed1 F x).seen.length := hb
      have w2 : writeD (armed1 F x) no data = (armed1 F x, 41) := by unfold writeD; rw [if_neg ho', if_pos hb']
      rw [w1, w2, ne 41 (by omega)]; exact ⟨rfl, rfl⟩
    have hb' : no < (armed1 F x).seen.length := hb
    by_cases hs : (data.size : Int) = F.bytes
    rotate_left
    · left
      have w1 : writeD F no data = (F, 2) := by unfold writeD; rw [if_neg ho, if_neg (not_not_intro hb), if_pos hs]
      have hs' : ¬ (data.size : Int) = (armed1 F x).bytes := hs
      have w2 : writeD (armed1 F x) no data = (armed1 F x, 2) := by unfold writeD; rw [if_neg ho', if_neg (not_not_intro hb'), if_pos hs']
      rw [w1, w2, ne 2 (by omega)]; exact ⟨rfl, rfl⟩
    right
    have w1 : writeD F no data = ({ F with arms := F.arms.map (Ar.dec 1), waits := F.waits ++ [⟨1, no, 0, data⟩], seen := F.seen.set no.toNat data, wr := addW .i64 F.wr 1 }, 0) := by
      unfold writeD
      rw [if_neg ho, if_neg (not_not_intro hb), if_neg (not_not_intro hs), if_neg (by rw [actD_calm c.arms]; simp)]
    have hA : F.arms.map (Ar.dec 1) = [] := by rw [c.arms]; rfl
    refine ⟨{ F with arms := F.arms.map (Ar.dec 1), waits := F.waits ++ [⟨1, no, 0, data⟩], seen := F.seen.set no.toNat data, wr := addW .i64 F.wr 1 }, [⟨1, no, 0, data⟩], by rw [pf, w1, e00], fun h => by omega, fun _ => ⟨rfl, rfl⟩, rfl, rfl, ?_⟩
    have ha := act_armed c.arms hon 1 6 [⟨1, no, 0, data⟩] (F := F)
    rw [pf]
    have w2 : writeD (armed1 F x) no data = if ¬ (actD (armed1 F x) 1 6 [⟨1, no, 0, data⟩]).2 = 0 then actD (armed1 F x) 1 6 [⟨1, no, 0, data⟩] else
        ({ armed1 F x with arms := (armed1 F x).arms.map (Ar.dec 1), waits := (armed1 F x).waits ++ [⟨1, no, 0, data⟩], seen := (armed1 F x).seen.set no.toNat data, wr := addW .i64 (armed1 F x).wr 1 }, 0) := by
      have hs' : (data.size : Int) = (armed1 F x).bytes := hs
      unfold writeD
      rw [if_neg ho', if_neg (not_not_intro hb'), if_neg (not_not_intro hs')]
    rw [w2, ha]
    have hd : x.dec 1 = x.less := by unfold Ar.dec; rw [if_pos (by rw [or_iff, eqI_iff]; exact .inl hon)]; rfl
    by_cases hl : x.less.left = 0
    · simp only [if_pos hl]
      by_cases hp : x.pw = true
      · simp only [if_pos hp]; rw [if_pos (by simp)]; rfl
      · simp only [if_neg hp]; rw [if_pos (by simp)]; rfl
    · simp only [if_neg hl]
      rw [if_neg (by simp)]
      simp [armed1, hd, eqI]
  · have pf : ∀ D, playD D s = ((growD D s.n).1, eqI (growD D s.n).2 0) := fun D => by unfold playD; rw [if_neg (by omega), if_pos h2]
    rw [pf, pf]
    by_cases hb : s.n < 1
    · left
      have w1 : growD F s.n = (F, 2) := by unfold growD; rw [if_neg ho, if_pos hb]
      have w2 : growD (armed1 F x) s.n = (armed1 F x, 2) := by unfold growD; rw [if_neg ho', if_pos hb]
      rw [w1, w2, ne 2 (by omega)]; exact ⟨rfl, rfl⟩
    by_cases hs : s.n > F.most - F.seen.length
    · left
      have w1 : growD F s.n = (F, 5) := by unfold growD; rw [if_neg ho, if_neg hb, if_pos hs]
      have hs' : s.n > (armed1 F x).most - (armed1 F x).seen.length := hs
      have w2 : growD (armed1 F x) s.n = (armed1 F x, 5) := by unfold growD; rw [if_neg ho', if_neg hb, if_pos hs']
      rw [w1, w2, ne 5 (by omega)]; exact ⟨rfl, rfl⟩
    right
    have w1 : growD F s.n = ({ F with arms := F.arms.map (Ar.dec 2), waits := F.waits ++ [⟨2, 0, F.seen.length + s.n, ⟨#[]⟩⟩], seen := stretchL F.bytes F.seen (F.seen.length + s.n), gr := addW .i64 F.gr 1 }, 0) := by
      unfold growD
      rw [if_neg ho, if_neg hb, if_neg hs, if_neg (by rw [actD_calm c.arms]; simp)]
    have hA : F.arms.map (Ar.dec 2) = [] := by rw [c.arms]; rfl
    refine ⟨{ F with arms := F.arms.map (Ar.dec 2), waits := F.waits ++ [⟨2, 0, F.seen.length + s.n, ⟨#[]⟩⟩], seen := stretchL F.bytes F.seen (F.seen.length + s.n), gr := addW .i64 F.gr 1 }, [⟨2, 0, F.seen.length + s.n, ⟨#[]⟩⟩], by rw [pf, w1, e00], fun h => by omega, fun _ => ⟨rfl, rfl⟩, rfl, rfl, ?_⟩
    have ha := act_armed c.arms hon 2 5 [⟨2, 0, F.seen.length + s.n, ⟨#[]⟩⟩] (F := F)
    rw [pf]
    have w2 : growD (armed1 F x) s.n = if ¬ (actD (armed1 F x) 2 5 [⟨2, 0, F.seen.length + s.n, ⟨#[]⟩⟩]).2 = 0 then actD (armed1 F x) 2 5 [⟨2, 0, F.seen.length + s.n, ⟨#[]⟩⟩] else
        ({ armed1 F x with arms := (armed1 F x).arms.map (Ar.dec 2), waits := (armed1 F x).waits ++ [⟨2, 0, F.seen.length + s.n, ⟨#[]⟩⟩], seen := stretchL (armed1 F x).bytes (armed1 F x).seen (F.seen.length + s.n), gr := addW .i64 (armed1 F x).gr 1 }, 0) := by
      have hs' : ¬ s.n > (armed1 F x).most - (armed1 F x).seen.length := hs
      unfold growD
      rw [if_neg ho', if_neg hb, if_neg hs']
      rfl
    rw [w2, ha]
    have hd : x.dec 2 = x.less := by unfold Ar.dec; rw [if_pos (by rw [or_iff, eqI_iff]; exact .inl hon)]; rfl
    by_cases hl : x.less.left = 0
    · simp only [if_pos hl]
      by_cases hp : x.pw = true
      · simp only [if_pos hp]; rw [if_pos (by simp)]; rfl
      · simp only [if_neg hp]; rw [if_pos (by simp)]; rfl
    · simp only [if_neg hl]
      rw [if_neg (by simp)]
      simp [armed1, hd, eqI]
  · have pf : ∀ D, playD D s = ((syncD D).1, eqI (syncD D).2 0) := fun D => by unfold playD; rw [if_neg (by omega), if_neg (by omega), if_pos h3]
    right
    have w1 : syncD F = ({ F with arms := F.arms.map (Ar.dec 3), waits := [], dur := F.seen, sy := addW .i64 F.sy 1 }, 0) := by
      unfold syncD
      rw [if_neg ho, if_neg (by rw [actD_calm c.arms]; simp)]
    refine ⟨{ F with arms := F.arms.map (Ar.dec 3), waits := [], dur := F.seen, sy := addW .i64 F.sy 1 }, [], by rw [pf, w1, e00], fun _ => rfl, fun h => absurd h3 h, rfl, rfl, ?_⟩
    have ha := act_armed c.arms hon 3 6 [] (F := F)
    rw [pf]
    have w2 : syncD (armed1 F x) = if ¬ (actD (armed1 F x) 3 6 []).2 = 0 then actD (armed1 F x) 3 6 [] else
        ({ armed1 F x with arms := (armed1 F x).arms.map (Ar.dec 3), waits := [], dur := (armed1 F x).seen, sy := addW .i64 (armed1 F x).sy 1 }, 0) := by
      unfold syncD
      rw [if_neg ho']
    rw [w2, ha]
    have hd : x.dec 3 = x.less := by unfold Ar.dec; rw [if_pos (by rw [or_iff, eqI_iff]; exact .inl hon)]; rfl
    by_cases hl : x.less.left = 0
    · simp only [if_pos hl]
      by_cases hp : x.pw = true
      · simp only [if_pos hp]; rw [if_pos (by simp)]; rfl
      · simp only [if_neg hp]; rw [if_pos (by simp)]; rfl
    · simp only [if_neg hl]
      rw [if_neg (by simp)]
      simp [armed1, hd, eqI]

theorem Nx.op {h h' : Hp} {d g0 : Nat} {gs gd gw ga : Option Nat} {W R : Nat → Prop} {D' : Dk} (n : Nx h d g0 gs gd gw ga R D' h') (hW : ∀ y, W y ↔ own g0 gs gd gw ga y) : Op h d W R D' h' := by
  obtain ⟨gs', gd', gw', ga', R', s', dd', w', a', x', n1, n2, n3, n4, r, k⟩ := n
  refine ⟨_, R', DAt.of x', fun y hy => ?_, r, ⟨k.next, k.ro, fun b cs t g hb hg => k.rw b cs t g hb fun ho => hg ((hW g).mpr ho)⟩⟩
  rcases own_nw n1 n2 n3 n4 hy with hy | hy
  · exact .inl ((hW y).mpr hy)
  · exact .inr hy

theorem DAt.arm {h : Hp} {d : Nat} {W R : Nat → Prop} {D : Dk} {k M N : Nat} (x : DAt h d W R D) (fit : D.fit k M N) {G : Option Nat} {aa : Option Addr} {al ac : Nat} {Ls : List Ar} (sa : SlT Ar.enc4 4 h G aa al ac Ls) (hG : ∀ y, G = some y → ¬ W y)
    (hF : ∀ z ∈ Ls, ∃ Gz, (∀ y, Gz = some y → ¬ W y) ∧ SlT encF 1 h Gz z.fa z.fl z.fc z.fates) (hl : al ≤ 1048576) (hfl : ∀ z ∈ Ls, z.fates.length ≤ 8589934592) :
    C 44 [.pointer (some ⟨d, 0, none⟩), .slice aa al ac] h fun v h' => v = .int .i64 (armE D Ls) ∧ ∃ D', ArmTo D Ls D' ∧ Op h d W R D' h' := by
  obtain ⟨g0, gs, gd, gw, ga, s, dd, w, a, x, hW⟩ := x
  exact (c44 x fit sa (fun y hy ho => hG y hy ((hW y).mpr ho)) (fun z hz => by
    obtain ⟨Gz, q1, q2⟩ := hF z hz
    exact ⟨Gz, fun y hy ho => q1 y hy ((hW y).mpr ho), q2⟩) hl hfl).mono fun v h' ⟨e, D', ha, nx⟩ => ⟨e, D', ha, nx.op hW⟩

section
variable {h : Hp} {F1 F2 : FuncId} {d e : Nat} {L : List ByteArray}
/-- Two lists are told, and they are alike. -/
theorem two_alike (wf : Wf h) (c1 : ∀ {hh}, Kept h hh → C F1 [.pointer (some ⟨d, 0, none⟩)] hh (Cloned encS 1 hh L)) (c2 : ∀ {hh}, Kept h hh → C F2 [.pointer (some ⟨e, 0, none⟩)] hh (Cloned encS 1 hh L)) (hl : L.length ≤ 8589934592) {Z : Bool → Hp → Prop} (rest : ∀ h', Wf h' → Kept h h' → Z true h') :
    C F1 [.pointer (some ⟨d, 0, none⟩)] h fun v h' => ∃ a l c, v = Value.slice a l c ∧ C F2 [.pointer (some ⟨e, 0, none⟩)] h' fun v h' => ∃ a' l' c', v = Value.slice a' l' c' ∧ C 33 [Value.slice a l c, Value.slice a' l' c'] h' fun v h' => ∃ b, v = Value.bool b ∧ Z b h' := by
  refine (c1 (Keep.refl _ _)).wf fun v h1 wf1 _ ⟨s1, g1, e1, o1, _, k1⟩ => ⟨_, _, _, e1, ?_⟩
  refine (c2 k1).wf fun v h2 wf2 _ ⟨s2, g2, e2, o2, _, k2⟩ => ⟨_, _, _, e2, ?_⟩
  have o1' := o1.keep k2 fun _ _ hf => hf
  refine (c33 o1'.slT o2.slT (by rw [← o1'.2]; exact hl)).wf fun v h3 wf3 _ ⟨e3, e3'⟩ => ⟨_, e3, ?_⟩
  subst e3'
  simp only [decide_true]
  exact rest _ wf3 (k1.trans wf k2 fun _ _ hf => hf)

/-- The same, under a guard that holds. -/
theorem two_alike_if (wf : Wf h) {b : Bool} (hb : b = true) (c1 : ∀ {hh}, Kept h hh → C F1 [.pointer (some ⟨d, 0, none⟩)] hh (Cloned encS 1 hh L)) (c2 : ∀ {hh}, Kept h hh → C F2 [.pointer (some ⟨e, 0, none⟩)] hh (Cloned encS 1 hh L)) (hl : L.length ≤ 8589934592) {Z : Bool → Hp → Prop} (rest : ∀ h', Wf h' → Kept h h' → Z true h') :
    ∃ Q : Value → Hp → Prop, (b = true → C F1 [.pointer (some ⟨d, 0, none⟩)] h fun v h' => ∃ a l c, v = Value.slice a l c ∧ Q (Value.slice a l c) h') ∧ (b = false → ∃ a l c, Q (Value.slice a l c) h) ∧ ∀ a l c h', Q (Value.slice a l c) h' →
      ∃ Q : Value → Hp → Prop, (b = true → C F2 [.pointer (some ⟨e, 0, none⟩)] h' fun v h' => ∃ a l c, v = Value.slice a l c ∧ Q (Value.slice a l c) h') ∧ (b = false → ∃ a l c, Q (Value.slice a l c) h') ∧ ∀ a' l' c' h', Q (Value.slice a' l' c') h' →
        ∃ Q : Value → Hp → Prop, (b = true → C 33 [Value.slice a l c, Value.slice a' l' c'] h' fun v h' => ∃ b, v = Value.bool b ∧ Q (Value.bool b) h') ∧ (b = false → ∃ b, Q (Value.bool b) h') ∧ ∀ b' h', Q (Value.bool b') h' → Z b' h' := by
  subst hb
  refine ⟨fun v hh => (∃ s g, v = Sv.v s ∧ OwT encS 1 hh g s L) ∧ Wf hh ∧ Kept h hh, fun _ => ?_, fun hf => by simp at hf, ?_⟩
  · exact (c1 (Keep.refl _ _)).wf fun v h1 wf1 _ ⟨s', g', e, o, _, k'⟩ => ⟨_, _, _, e, ⟨s', g', rfl, o⟩, wf1, k'⟩
  rintro a l c h1 ⟨⟨s1, g1, e1, o1⟩, wf1, k1⟩
  simp at e1
  obtain ⟨rfl, rfl, rfl⟩ := e1
  refine ⟨fun v hh => (∃ s g, v = Sv.v s ∧ OwT encS 1 hh g s L) ∧ Wf hh ∧ Kept h1 hh, fun _ => ?_, fun hf => by simp at hf, ?_⟩
  · exact (c2 k1).wf fun v h2 wf2 _ ⟨s', g', e, o, _, k'⟩ => ⟨_, _, _, e, ⟨s', g', rfl, o⟩, wf2, k'⟩
  rintro a l c h2 ⟨⟨s2, g2, e2, o2⟩, wf2, k2⟩
  simp at e2
  obtain ⟨rfl, rfl, rfl⟩ := e2
  have o1' := o1.keep k2 fun _ _ hf => hf
  refine ⟨fun v hh => v = .bool true ∧ hh = h2, fun _ => ?_, fun hf => by simp at hf, ?_⟩
  · refine (c33 o1'.slT o2.slT (by rw [← o1'.2]; exact hl)).mono fun v hh ⟨e, e'⟩ => ⟨_, e, ?_, e'⟩
    simp
  rintro b' h3 ⟨e, rfl⟩
  simp at e; subst e
  exact rest _ wf2 (k1.trans wf k2 fun _ _ hf => hf)
end

theorem armed1_fit {k M N : Nat} {F : Dk} {x : Ar} (o : F.fit k M N) (hf : x.fates.length ≤ 8589934592) : (armed1 F x).fit k M N :=
  ⟨⟨o.ok.by_, o.ok.k0, o.ok.k1, o.ok.m1, o.ok.most, o.ok.seenS, o.ok.durS, o.ok.seenL, o.ok.durL, o.ok.waits⟩, by simp [armed1], by simpa [armed1] using hf, o.waits⟩

/-- The disk at which an arm was struck. -/
theorem struck_fit {k M N : Nat} {F F' : Dk} {x : Ar} {s : Stp} {adds : List Wt} (o : F.fit k M N) (so : s.ok) (hx : x.fates.length ≤ 8589934592) (st : Stepped F x s F' adds) (hl : x.less.left = 0) : (if x.pw = true then goesD { F with waits := F.waits ++ adds } x.fates else F).fit k M (N + 1) := by
  have := playD_fit (armed1_fit o hx) so
  rw [st.arm, if_pos hl] at this
  split
  · rename_i h; rw [if_pos h] at this; exact this
  · rename_i h; rw [if_neg h] at this; exact this
end Go.Proofs.Ytfkhjbfddeahaaa.kc

/- The document's disk: Arm. -/
set_option linter.unusedVariables false
set_option linter.unusedSimpArgs false
namespace Go.Proofs.Ytfkhjbfddeahaaa.kc
open Go Go.Cn Go.Proofs Go.Proofs.Ytfkhjbfddeahaaa.vc

/-- Arms that are handed in, with their fates. -/
def Th.args (aa : Option Addr) (al ac : Nat) (Ls : List Ar) : Th := ⟨fun h => SlT Ar.enc4 4 h none aa al ac Ls ∧ ∀ z ∈ Ls, SlT encF 1 h none z.fa z.fl z.fc z.fates, fun _ => False, fun _ => False⟩
theorem Th.args_stable (aa : Option Addr) (al ac : Nat) (Ls : List Ar) : (Th.args aa al ac Ls).stable := fun k _ o => ⟨o.1.keep k (by simp), fun z hz => (o.2 z hz).keep k (by simp)⟩
/-- What nobody writes to. -/
theorem Many.addRo {h : Hp} {L : List Th} (m : Many h L) {t : Th} (hP : t.P h) (hs : t.stable) (hW : ∀ y, ¬ t.W y) (hF : ∀ y, ¬ t.F y) : Many h (t :: L) :=
  m.add (Keep.refl _ _) hP hs (fun y hy => (hW y hy).elim) (fun y hy => (hW y hy).elim) (fun y hy => (hF y hy).elim) (fun y hy => (hF y hy).elim)

/-- A list of fates is handed over. -/
theorem Many.absorb {h : Hp} {L : List Th} {g : Option Nat} {s : Sv} {F : List Int} {R : Nat → Prop} {Q : List Fk} (m : Many h (Th.own encF 1 g s F :: Th.fates R Q :: L)) :
    Many h (Th.fates (fun y => R y ∨ g = some y) ((s.a, s.l, s.c, F) :: Q) :: L) := by
  have o := (m.at_ (Th.own encF 1 g s F) (by simp)).1
  have of := (m.at_ (Th.fates R Q) (by simp)).1
  have lo := (m.at_ (Th.own encF 1 g s F) (by simp)).2.2.2
  have lf := (m.at_ (Th.fates R Q) (by simp)).2.2.2
  have hs := m.sep
  rw [List.pairwise_cons, List.pairwise_cons] at hs
  obtain ⟨s1, s2, s3⟩ := hs
  refine ⟨fun x hx => ?_, List.pairwise_cons.mpr ⟨fun x hx => ⟨fun y hy => by have hy : False := hy; exact hy.elim, fun y hy hR => ?_⟩, s3⟩⟩
  · rcases List.mem_cons.mp hx with rfl | hx
    · refine ⟨fun z hz => ?_, Th.fates_stable _ _, fun y hy => by have hy : False := hy; exact hy.elim, fun y hy => ?_⟩
      · rcases List.mem_cons.mp hz with rfl | hz
        · exact ⟨g, fun y hy => .inr hy, OwT.slT o⟩
        · obtain ⟨G, hG, q⟩ := of z hz
          exact ⟨G, fun y hy => .inl (hG y hy), q⟩
      · rcases hy with hy | hy
        · exact lf y hy
        · exact lo y hy
    · exact m.at_ x (List.mem_cons_of_mem _ (List.mem_cons_of_mem _ hx))
  · rcases hR with hR | hR
    · exact (s2 x hx).2 y hy hR
    · exact (s1 x (List.mem_cons_of_mem _ hx)).2 y hy hR

section
variable {h : Hp} {r : Nat} {D : Dk} {Rest : List Th}

/-- Arm. -/
theorem c80 {k M N : Nat} (x : RD r D Rest h) (fit : D.fit k M N) {aa : Option Addr} {al ac : Nat} {Ls : List Ar} (hT : Th.args aa al ac Ls ∈ Rest) (hl : Ls.length ≤ 1048576) (hfl : ∀ z ∈ Ls, z.fates.length ≤ 8589934592) :
    C 80 [.pointer (some ⟨r, 0, none⟩), .slice aa al ac] h fun v h' => v = .int .i64 (armE D Ls) ∧ ∃ D', ArmTo D Ls D' ∧ RD r D' Rest h' := by
  refine SCalls_of_vw fol (pf := pf) (shp := shp80) (f := 80) (fn := Try.f80) (by kernel_rfl) (c := Try.f80.body.getD .skip) (by kernel_rfl) (by kernel_rfl) fun wf => ?_
  rw [vc80]
  have x0 := x
  obtain ⟨gd, gw, ga, R, Q, dd, w, a, hQ, m0⟩ := x
  have b0 := Many.var (A := []) m0
  have hA := fit.arms
  have tA : ∀ {A : List Th} {hh : Hp}, Many hh (A ++ Rest) → SlT Ar.enc4 4 hh none aa al ac Ls ∧ ∀ z ∈ Ls, SlT encF 1 hh none z.fa z.fl z.fc z.fates := fun m => (m.at_ _ (List.mem_append_right _ hT)).1
  have hal := (tA m0).1.len
  refine ⟨rfl, rfl, !D.off, ⟨rfl, b0.one rfl⟩, ?_⟩
  by_cases ho : D.off = true
  · rw [if_pos (by simp [ho, notB])]
    have : armE D Ls = 7 := by unfold armE; rw [if_pos ho]
    rw [this]; exact ⟨rfl, D, .inl ⟨by rw [this]; omega, rfl⟩, x0⟩
  rw [if_neg (by simp [notB]; simpa using ho)]
  refine ⟨fun vals m hh => ∃ i : Nat, [.int .i64 i] = vals ∧ i ≤ al ∧ m = al - i ∧ h = hh ∧ (Ls.take i).any Ar.bad = false, ⟨al, 0, rfl, Nat.zero_le _, rfl, rfl, by simp⟩, ?_⟩
  rintro n m hh ⟨i, e, hi, rfl, rfl, hno⟩
  simp at e; subst e
  by_cases hlt : ltI (i : Int) (natI al) = true
  · rw [if_pos hlt]
    have hlt : i < al := by rw [ltI_iff] at hlt; simp only [natI] at hlt; omega
    have hz : Ls[i]? = some (Ls[i]'(by omega)) := List.getElem?_eq_getElem _
    generalize Ls[i]'(by omega) = z at hz
    obtain ⟨i1, i2⟩ := (tA m0).1.get Ar.w4 hz (j := 0) (m := 1) (by omega)
    obtain ⟨_, i3⟩ := (tA m0).1.get Ar.w4 hz (j := 1) (m := 1) (by omega)
    have hin : inR (i : Int) al := by simp only [inR]; omega
    refine ⟨⟨i1, hin⟩, rfl, z.on, ⟨rfl, i2.trans rfl⟩, fun _ => ⟨i1, hin⟩, fun _ => rfl, z.nth, fun _ => ⟨rfl, i3.trans rfl⟩, ?_⟩
    by_cases hb : z.bad = true
    · rw [if_pos (show sel (gtI z.on 3) true (ltI z.nth 1) = true from hb)]
      have : armE D Ls = 2 := by unfold armE; rw [if_neg ho, if_pos (List.any_eq_true.mpr ⟨z, List.mem_of_getElem? hz, hb⟩)]
      rw [this]
      exact ⟨rfl, D, .inl ⟨by rw [this]; omega, rfl⟩, x0⟩
    · rw [if_neg (show ¬ sel (gtI z.on 3) true (ltI z.nth 1) = true from hb)]
      refine ⟨al - (i + 1), by simp only [lessN]; omega, i + 1, by rw [addW_small (by omega) (by omega)]; rfl, by omega, rfl, rfl, ?_⟩
      rw [List.take_add_one, hz, List.any_append, hno]; simpa using hb
  rw [if_neg hlt]
  have hil : i = al := by rw [ltI_iff] at hlt; simp only [natI] at hlt; omega
  have ht : Ls.take i = Ls := List.take_of_length_le (by omega)
  rw [ht] at hno
  have hal' : D.arms.length = a.l := (Many.own (A := [Th.var r _, Th.own encS 1 gd dd _, Th.own Wt.encR 3 gw w _]) m0).2
  refine ⟨rfl, rfl, a.a, a.l, a.c, ⟨rfl, b0.one rfl⟩, ?_⟩
  rw [addW_small (by simp only [natI]; omega) (by simp only [natI]; omega)]
  by_cases h64 : D.arms.length + Ls.length > 64
  · rw [if_pos (by rw [gtI_iff]; simp only [natI]; omega)]
    have : armE D Ls = 4 := by unfold armE; rw [if_neg ho, if_neg (by rw [hno]; simp), if_pos h64]
    rw [this]
    exact ⟨rfl, D, .inl ⟨by rw [this]; omega, rfl⟩, x0⟩
  rw [if_neg (by rw [gtI_iff]; simp only [natI]; omega)]
  have hE : armE D Ls = 0 := by unfold armE; rw [if_neg ho, if_neg (by rw [hno]; simp), if_neg h64]
  refine ⟨fun vals m hh => ∃ (i : Nat) (ga : Option Nat) (R : Nat → Prop) (Q : List Fk) (a : Sv) (N : List Ar), [.int .i64 i] = vals ∧ i ≤ al ∧ m = al - i ∧ Wf hh ∧ Many hh (rthings r { D with arms := D.arms ++ N } gd gw ga R Q dd w a ++ Rest) ∧ N.map Ar.key = (Ls.take i).map Ar.key' ∧ ∀ x ∈ D.arms ++ N, x.fk ∈ Q,
    ⟨al, 0, ga, R, Q, a, [], rfl, Nat.zero_le _, rfl, wf, by simpa using m0, by simp, by simpa using hQ⟩, ?_⟩
  clear hlt ht hi hno hil x0 hQ b0 m0 hal' hal
  rintro n m h5 ⟨i, ga, R, Q, a, N, e, hi, rfl, wf5, m5, hN, hQ⟩
  simp at e; subst e
  obtain ⟨sa, sf⟩ := tA m5
  have hal := sa.len
  have hNl : N.length = i := by have := congrArg List.length hN; simp at this; omega
  by_cases hlt : ltI (i : Int) (natI al) = true
  · rw [if_pos hlt]
    have hlt : i < al := by rw [ltI_iff] at hlt; simp only [natI] at hlt; omega
    have hz : Ls[i]? = some (Ls[i]'(by omega)) := List.getElem?_eq_getElem _
    generalize Ls[i]'(by omega) = z at hz
    have hzm := List.mem_of_getElem? hz
    obtain ⟨i1, i2⟩ := sa.get Ar.w4 hz (j := 0) (m := 4) (by omega)
    refine ⟨⟨i1, by simp only [inR]; omega⟩, z.on, z.nth, z.pw, z.fa, z.fl, z.fc, ⟨rfl, i2.trans rfl⟩, ?_⟩
    intro h6 e6
    obtain ⟨m6, wf6, n6⟩ := m5.newVar wf5 e6
    obtain ⟨h7, e7, m7, wf7⟩ := Many.fill (A := []) (vs := z.enc4) wf6 m6 rfl rfl
    have b7 := Many.var (A := []) m7
    generalize hq : h5.next = q at *
    refine ⟨rfl, h7, e7, rfl, z.fa, z.fl, z.fc, ⟨rfl, b7.one rfl⟩, ?_⟩
    obtain ⟨_, sf7⟩ := tA (A := Th.var q z.enc4 :: rthings r _ gd gw ga R Q dd w a) m7
    obtain ⟨s', g', h8, e8, m8, hs8, _, _, wf8⟩ := m7.clone wf7 app36 (by omega) encF_c (sf7 z hzm) (hfl z hzm)
    obtain ⟨y, hy⟩ : ∃ y : Ar, y = ⟨z.on, z.nth, z.pw, s'.a, s'.l, s'.c, z.nth, z.fates⟩ := ⟨_, rfl⟩
    obtain ⟨h9, e9, m9, wf9⟩ := Many.set (A := [Th.own encF 1 g' s' _]) (o := 3) (v := s'.v) wf8 m8 (by simp [Ar.enc4]) rfl
    have hy4 : (z.enc4).set 3 s'.v = y.enc4 := by subst hy; rfl
    rw [hy4] at m9
    have b9 := Many.var (A := [Th.own encF 1 g' s' _]) m9
    have br := Many.var (A := [Th.own encF 1 g' s' _, Th.var q _]) m9
    refine ⟨s'.a, s'.l, s'.c, h8, e8, rfl, rfl, h9, e9, rfl, rfl, a.a, a.l, a.c, ⟨rfl, br.one rfl⟩, y.on, y.nth, y.pw, y.fa, y.fl, y.fc, ⟨rfl, (b9.cells (o := 0) (n := 4) (Nat.le_of_ble_eq_true rfl)).trans rfl⟩, ?_⟩
    intro h10 e10
    have e10' : h10 = h9.alloc y.encR 153 := by
      rw [e10]; subst hy; simp [Ar.encR]
    have m9' : Many h9 ([Th.own encF 1 g' s' z.fates, Th.var q y.enc4, Th.var r (rcells { D with arms := D.arms ++ N } dd w a), Th.own encS 1 gd dd D.dur, Th.own Wt.encR 3 gw w D.waits] ++ Th.own Ar.encR 5 ga a (D.arms ++ N) :: (Th.fates R Q :: Rest)) := m9
    have oa := m9'.own
    have hal9 : (D.arms ++ N).length = a.l := oa.2
    rw [List.length_append] at hal9
    have br10 := (new_blk wf9 e10').2.1.blk br
    refine ⟨⟨rfl, br10.one rfl⟩, ?_⟩
    obtain ⟨a2, ga2, h11, e11, m11, hs11, wf11⟩ := m9'.push wf9 (x := y) app112 e10' rfl rfl (room (by omega) (by omega))
    obtain ⟨h12, e12, m12, wf12⟩ := Many.set (A := [Th.own encF 1 g' s' _, Th.var q _]) (o := 4) (v := a2.v) wf11 m11 (by simp [rcells]) rfl
    refine ⟨a2.a, a2.l, a2.c, h11, e11, rfl, rfl, rfl, h12, e12, al - (i + 1), by simp only [lessN]; omega, i + 1, ga2, (fun y => R y ∨ g' = some y), (s'.a, s'.l, s'.c, z.fates) :: Q, a2, N ++ [y], by rw [addW_small (by omega) (by omega)]; rfl, by omega, rfl, wf12, ?_, ?_, ?_⟩
    · have m13 : Many h12 (Th.own encF 1 g' s' z.fates :: ([Th.var r (rcells { D with arms := D.arms ++ N ++ [y] } dd w a2), Th.own encS 1 gd dd D.dur, Th.own Wt.encR 3 gw w D.waits, Th.own Ar.encR 5 ga2 a2 (D.arms ++ N ++ [y])] ++ (Th.fates R Q :: Rest))) :=
        m12.sub (List.Sublist.cons_cons _ (List.Sublist.cons _ (List.Sublist.refl _)))
      have m14 := (m13.perm (List.Perm.cons _ List.perm_middle)).absorb
      have m15 := m14.perm List.perm_middle.symm
      rw [List.append_assoc] at m15
      exact m15
    · rw [List.take_add_one, hz, List.map_append, hN]; subst hy; simp [Ar.key, Ar.key']
    · intro u hu
      rw [← List.append_assoc] at hu
      rcases List.mem_append.mp hu with hu | hu
      · exact List.mem_cons_of_mem _ (hQ u hu)
      · simp at hu; subst hu; subst hy; exact List.mem_cons_self ..
  · rw [if_neg hlt]
    have hil : i = al := by rw [ltI_iff] at hlt; simp only [natI] at hlt; omega
    have ht : Ls.take i = Ls := List.take_of_length_le (by omega)
    rw [ht] at hN
    exact ⟨by rw [hE], _, .inr ⟨hE, N, hN, rfl⟩, gd, gw, ga, R, Q, dd, w, a, hQ, m5⟩
end
end Go.Proofs.Ytfkhjbfddeahaaa.kc

/- The plain law of a disk: what is seen stays told by what waits; arms lie anywhere. -/
set_option linter.unusedVariables false
set_option linter.unusedSimpArgs false
namespace Go.Proofs.Ytfkhjbfddeahaaa.kc
open Go Go.Cn Go.Proofs Go.Proofs.Ytfkhjbfddeahaaa.vc

/-! ### what is seen -/
theorem szN_app (W : List Wt) (X : Wt) (d : Int) : ∀ n, n ≤ W.length → szN (W ++ [X]) d n = szN W d n
  | 0, _ => rfl
  | n + 1, h => by
    unfold szN
    rw [List.getElem?_append_left (by omega), szN_app W X d n (by omega)]
theorem seenBack_app (W : List Wt) (X : Wt) (no : Int) : ∀ n, n ≤ W.length → seenBack (W ++ [X]) no n = seenBack W no n
  | 0, _ => rfl
  | n + 1, h => by
    unfold seenBack
    rw [List.getElem?_append_left (by omega), seenBack_app W X no n (by omega)]
theorem seenBack_none {W : List Wt} {no : Int} (h : ∀ x ∈ W, x.act = 2 ∨ x.page ≠ no) : ∀ n, seenBack W no n = none
  | 0 => rfl
  | n + 1 => by
    unfold seenBack
    cases hx : W[n]? with
    | none => exact seenBack_none h n
    | some x =>
      simp only
      rw [if_neg (by rcases h x (List.mem_of_getElem? hx) with h1 | h1; exact fun h2 => h2.1 h1; exact fun h2 => h1 h2.2), seenBack_none h n]

/-- What is seen is told by what waits; nothing shrinks. -/
structure Cob (D : Dk) : Prop where
  coh : Coh D
  dl : D.dur.length ≤ D.seen.length

theorem Ar.dec_sound {x : Ar} (s : x.sound) {kind : Int} (hn : nd (x.dec kind) = true) : (x.dec kind).sound := by
  by_cases hc : countsD x.on kind = true
  · rw [Ar.dec_yes hc] at hn ⊢
    obtain ⟨s1, s2, s3⟩ := s
    rw [subW_small (by omega) (by omega)] at hn ⊢
    have : ¬ x.left - 1 = 0 := fun h => by simp [nd, Ar.due, eqI, h] at hn
    exact ⟨by simp only; omega, by simp only; omega, s3⟩
  · rw [Ar.dec_no hc]; exact s
theorem dec_arms {L : List Ar} (hs : ∀ x ∈ L, x.sound) (hf : ∀ x ∈ L, ∀ f ∈ x.fates, 0 ≤ f ∧ f ≤ 255) (kind : Int) :
    (∀ x ∈ (L.map (Ar.dec kind)).filter nd, x.sound) ∧ ∀ x ∈ (L.map (Ar.dec kind)).filter nd, ∀ f ∈ x.fates, 0 ≤ f ∧ f ≤ 255 := by
  refine ⟨fun x hx => ?_, fun x hx => ?_⟩
  · obtain ⟨h1, h2⟩ := List.mem_filter.mp hx
    obtain ⟨y, hy, rfl⟩ := List.mem_map.mp h1
    exact Ar.dec_sound (hs y hy) h2
  · obtain ⟨y, hy, rfl⟩ := List.mem_map.mp (List.mem_filter.mp hx).1
    rw [(y.dec_fa kind).2.2.2]; exact hf y hy

theorem goesD_cob (D : Dk) (F : List Int) : Cob (goesD D F) := by
  refine ⟨⟨by simp [goesD], rfl, fun no hno => ?_, by simp [goesD], by simp [goesD]⟩, Nat.le_refl _⟩
  have h1 : no < (goesD D F).dur.length := hno
  have : seenR (goesD D F) no = (goesD D F).dur[no] := by
    unfold seenR
    have : seenBack (goesD D F).waits (no : Int) (goesD D F).waits.length = none := rfl
    rw [this, Option.getD_none, List.getElem?_eq_getElem h1, Option.getD_some]
  rw [this]
  exact List.getElem?_eq_getElem (l := (goesD D F).dur) h1

theorem Cob.arms {D : Dk} (c : Cob D) {A : List Ar} (h1 : ∀ x ∈ A, x.sound) (h2 : ∀ x ∈ A, ∀ f ∈ x.fates, 0 ≤ f ∧ f ≤ 255) : Cob { D with arms := A } :=
  ⟨⟨c.coh.wz, c.coh.size, c.coh.seen, h1, h2⟩, c.dl⟩
theorem Cob.nums {D : Dk} (c : Cob D) (off : Bool) (life taken wr gr sy : Int) : Cob { D with off := off, life := life, taken := taken, wr := wr, gr := gr, sy := sy } :=
  ⟨⟨c.coh.wz, c.coh.size, c.coh.seen, c.coh.arms, c.coh.fates⟩, c.dl⟩

/-- An act that does not come to pass, or that ends the life. -/
theorem actD_cob {D : Dk} (c : Cob D) {kind refused : Int} {adds : List Wt} (hne : ¬ (actD D kind refused adds).2 = 0) : Cob (actD D kind refused adds).1 := by
  obtain ⟨a1, a2⟩ := dec_arms c.coh.arms c.coh.fates kind
  unfold actD at hne ⊢
  cases hf : (D.arms.map (Ar.dec kind)).find? Ar.due with
  | none => rw [hf] at hne; exact absurd rfl hne
  | some z =>
    simp only
    split
    · exact goesD_cob _ _
    · exact c.arms a1 a2
theorem actD_arms {D : Dk} (c : Cob D) {kind refused : Int} {adds : List Wt} (hr : refused ≠ 0) (h0 : (actD D kind refused adds).2 = 0) : (∀ x ∈ D.arms.map (Ar.dec kind), x.sound) ∧ ∀ x ∈ D.arms.map (Ar.dec kind), ∀ f ∈ x.fates, 0 ≤ f ∧ f ≤ 255 := by
  have hf : (D.arms.map (Ar.dec kind)).find? Ar.due = none := by
    unfold actD at h0
    cases hf : (D.arms.map (Ar.dec kind)).find? Ar.due with
    | none => rfl
    | some z =>
      rw [hf] at h0
      simp only at h0
      split at h0
      · exact absurd h0 (show ¬ ((7 : Int) = 0) by decide)
      · exact absurd h0 hr
  rw [← filter_all hf]
  exact dec_arms c.coh.arms c.coh.fates kind

theorem writeD_cob {D : Dk} (c : Cob D) {no : Int} (h0 : 0 ≤ no) (data : ByteArray) : Cob (writeD D no data).1 := by
  unfold writeD
  by_cases h1 : D.off = true
  · rw [if_pos h1]; exact c
  rw [if_neg h1]
  by_cases h2 : no < D.seen.length
  rotate_left
  · rw [if_pos h2]; exact c
  rw [if_neg (not_not_intro h2)]
  by_cases h3 : (data.size : Int) = D.bytes
  rotate_left
  · rw [if_pos h3]; exact c
  rw [if_neg (not_not_intro h3)]
  by_cases h4 : (actD D 1 6 [⟨1, no, 0, data⟩]).2 = 0
  rotate_left
  · rw [if_pos h4]; exact actD_cob c h4
  rw [if_neg (not_not_intro h4)]
  obtain ⟨a1, a2⟩ := actD_arms c (by decide) h4
  refine ⟨⟨fun x hx => ?_, ?_, fun i hi => ?_, a1, a2⟩, by simpa using c.dl⟩
  · rw [List.length_set]
    rcases List.mem_append.mp hx with hx | hx
    · exact c.coh.wz x hx
    · simp at hx; subst hx
      exact .inl ⟨rfl, rfl, h0, h2⟩
  · simp only [List.length_append, List.length_cons, List.length_nil, List.length_set, Nat.zero_add]
    rw [szN, List.getElem?_append_right (Nat.le_refl _), Nat.sub_self]
    simp only [List.getElem?_cons_zero]
    rw [if_neg (by decide), szN_app _ _ _ _ (Nat.le_refl _)]
    exact c.coh.size
  · simp only [List.length_set] at hi
    have hs : seenR { D with arms := D.arms.map (Ar.dec 1), waits := D.waits ++ [⟨1, no, 0, data⟩], seen := D.seen.set no.toNat data, wr := addW .i64 D.wr 1 } i = if no = (i : Int) then data else seenR D i := by
      unfold seenR
      simp only [List.length_append, List.length_cons, List.length_nil, Nat.zero_add]
      rw [seenBack, List.getElem?_append_right (Nat.le_refl _), Nat.sub_self]
      simp only [List.getElem?_cons_zero]
      by_cases hni : no = (i : Int)
      · rw [if_pos ⟨by decide, hni⟩, if_pos hni]; rfl
      · rw [if_neg (fun h => hni h.2), if_neg hni, seenBack_app _ _ _ _ (Nat.le_refl _)]
    rw [hs]
    simp only
    by_cases hni : no = (i : Int)
    · rw [if_pos hni]
      have : no.toNat = i := by omega
      rw [this, List.getElem?_set_self hi]
    · rw [if_neg hni, List.getElem?_set_ne (by omega)]
      exact c.coh.seen i hi

theorem growD_cob {D : Dk} (c : Cob D) (n : Int) : Cob (growD D n).1 := by
  unfold growD
  by_cases h1 : D.off = true
  · rw [if_pos h1]; exact c
  rw [if_neg h1]
  by_cases h2 : n < 1
  · rw [if_pos h2]; exact c
  rw [if_neg h2]
  by_cases h3 : n > D.most - D.seen.length
  · rw [if_pos h3]; exact c
  rw [if_neg h3]
  by_cases h4 : (actD D 2 5 [⟨2, 0, D.seen.length + n, ⟨#[]⟩⟩]).2 = 0
  rotate_left
  · rw [if_pos h4]; exact actD_cob c h4
  rw [if_neg (not_not_intro h4)]
  obtain ⟨a1, a2⟩ := actD_arms c (by decide) h4
  have hl : ((stretchL D.bytes D.seen (D.seen.length + n)).length : Int) = D.seen.length + n := by
    rw [stretch_len]; omega
  refine ⟨⟨fun x hx => ?_, ?_, fun i hi => ?_, a1, a2⟩, by have := c.dl; simp only; omega⟩
  · simp only
    rcases List.mem_append.mp hx with hx | hx
    · rcases c.coh.wz x hx with h | h
      · exact .inl ⟨h.1, h.2.1, h.2.2.1, by omega⟩
      · exact .inr ⟨h.1, h.2.1, h.2.2.1, by omega⟩
    · simp at hx; subst hx
      exact .inr ⟨rfl, rfl, by simp only; omega, by simp only; omega⟩
  · simp only [List.length_append, List.length_cons, List.length_nil, Nat.zero_add]
    rw [szN, List.getElem?_append_right (Nat.le_refl _), Nat.sub_self]
    simp only [List.getElem?_cons_zero]
    rw [if_pos trivial, hl]
  · simp only at hi ⊢
    have hs : seenR { D with arms := D.arms.map (Ar.dec 2), waits := D.waits ++ [⟨2, 0, D.seen.length + n, ⟨#[]⟩⟩], seen := stretchL D.bytes D.seen (D.seen.length + n), gr := addW .i64 D.gr 1 } i = seenR D i := by
      unfold seenR
      simp only [List.length_append, List.length_cons, List.length_nil, Nat.zero_add]
      rw [seenBack, List.getElem?_append_right (Nat.le_refl _), Nat.sub_self]
      simp only [List.getElem?_cons_zero]
      rw [if_neg (by simp), seenBack_app _ _ _ _ (Nat.le_refl _)]
    rw [hs]
    unfold stretchL at hi ⊢
    by_cases hlt : i < D.seen.length
    · rw [List.getElem?_append_left hlt]; exact c.coh.seen i hlt
    · rw [List.getElem?_append_right (by omega), List.getElem?_replicate, if_pos (by rw [List.length_append, List.length_replicate] at hi; omega)]
      unfold seenR
      rw [seenBack_none fun x hx => ?_, Option.getD_none, List.getElem?_eq_none (by have := c.dl; omega)]
      · rfl
      · rcases c.coh.wz x hx with h | h
        · exact .inr (by omega)
        · exact .inl h.1

theorem syncD_cob {D : Dk} (c : Cob D) : Cob (syncD D).1 := by
  unfold syncD
  by_cases h1 : D.off = true
  · rw [if_pos h1]; exact c
  rw [if_neg h1]
  by_cases h4 : (actD D 3 6 []).2 = 0
  rotate_left
  · rw [if_pos h4]; exact actD_cob c h4
  rw [if_neg (not_not_intro h4)]
  obtain ⟨a1, a2⟩ := actD_arms c (by decide) h4
  refine ⟨⟨by simp, rfl, fun i hi => ?_, a1, a2⟩, Nat.le_refl _⟩
  have hi : i < D.seen.length := hi
  have hs : seenR { D with arms := D.arms.map (Ar.dec 3), waits := [], dur := D.seen, sy := addW .i64 D.sy 1 } i = (D.seen[i]?).getD (zeros D.bytes.toNat) := rfl
  rw [hs]
  simp only
  rw [List.getElem?_eq_getElem hi, Option.getD_some]
theorem crashD_cob {D : Dk} (c : Cob D) (F : List Int) : Cob (crashD D F).1 := by
  unfold crashD
  split
  · exact c
  · exact goesD_cob D F
theorem wakeD_cob {D : Dk} (c : Cob D) : Cob (wakeD D).1 := by
  unfold wakeD
  split
  · exact c.nums _ _ _ _ _ _
  · exact c
theorem takeD_cob {D : Dk} (c : Cob D) : Cob (takeD D).1 := by
  unfold takeD
  split
  · exact c
  · exact c.nums _ _ _ _ _ _

/-- Arms that may be handed in. -/
structure Ar.given (x : Ar) : Prop where
  hi : x.nth < 9223372036854775808
  f : ∀ f ∈ x.fates, 0 ≤ f ∧ f ≤ 255
theorem armTo_cob {D D' : Dk} {Ls : List Ar} (c : Cob D) (g : ∀ x ∈ Ls, x.given) (t : ArmTo D Ls D') : Cob D' := by
  rcases t with ⟨_, rfl⟩ | ⟨h0, N, hN, rfl⟩
  · exact c
  · have hb : Ls.any Ar.bad = false := by
      unfold armE at h0
      split at h0
      · exact absurd h0 (by decide)
      · split at h0
        · exact absurd h0 (by decide)
        · rename_i h; simpa using h
    have key : ∀ x ∈ N, ∃ z ∈ Ls, x.key = z.key' := fun x hx => by
      have : x.key ∈ Ls.map Ar.key' := by rw [← hN]; exact List.mem_map_of_mem hx
      obtain ⟨z, hz, e⟩ := List.mem_map.mp this
      exact ⟨z, hz, e.symm⟩
    refine c.arms (fun x hx => ?_) fun x hx => ?_
    · rcases List.mem_append.mp hx with hx | hx
      · exact c.coh.arms x hx
      · obtain ⟨z, hz, e⟩ := key x hx
        simp only [Ar.key, Ar.key', Prod.mk.injEq] at e
        obtain ⟨e1, e2, e3, e4, e5⟩ := e
        have hzb : z.bad = false := by
          have := List.any_eq_false.mp hb z hz
          simpa using this
        have hn : ¬ z.nth < 1 := fun h => by
          unfold Ar.bad at hzb
          have : ltI z.nth 1 = true := ltI_iff.mpr h
          rw [this] at hzb
          cases hg : gtI z.on 3 <;> rw [hg] at hzb <;> simp [sel] at hzb
        have := (g z hz).hi
        exact ⟨by omega, by omega, by omega⟩
    · rcases List.mem_append.mp hx with hx | hx
      · exact c.coh.fates x hx
      · obtain ⟨z, hz, e⟩ := key x hx
        simp only [Ar.key, Ar.key', Prod.mk.injEq] at e
        rw [e.2.2.2.1]; exact (g z hz).f

/-! ### arms lie anywhere -/
def Ar.bare (x : Ar) : Ar := { x with fa := none, fl := 0, fc := 0 }
def bareD (D : Dk) : Dk := { D with arms := D.arms.map Ar.bare }
/-- The same disk, but for where its arms' fates lie. -/
def Alike (P R : Dk) : Prop := bareD P = bareD R

theorem bare_dec (kind : Int) (x : Ar) : x.bare.dec kind = (x.dec kind).bare := by
  by_cases h : countsD x.on kind = true
  · rw [Ar.dec_yes h, Ar.dec_yes (x := x.bare) h]; rfl
  · rw [Ar.dec_no h, Ar.dec_no (x := x.bare) h]
theorem bare_map (kind : Int) (L : List Ar) : (L.map Ar.bare).map (Ar.dec kind) = (L.map (Ar.dec kind)).map Ar.bare := by
  rw [List.map_map, List.map_map]; exact List.map_congr_left fun x _ => bare_dec kind x
theorem bare_find (L : List Ar) : (L.map Ar.bare).find? Ar.due = (L.find? Ar.due).map Ar.bare := by
  rw [List.find?_map]; rfl
theorem bare_filter (L : List Ar) : (L.map Ar.bare).filter nd = (L.filter nd).map Ar.bare := by
  rw [List.filter_map]; rfl

theorem actD_bare (D : Dk) (kind refused : Int) (adds : List Wt) : actD (bareD D) kind refused adds = (bareD (actD D kind refused adds).1, (actD D kind refused adds).2) := by
  unfold actD
  have e : (bareD D).arms = D.arms.map Ar.bare := rfl
  rw [e, bare_map, bare_find, bare_filter]
  cases hf : (D.arms.map (Ar.dec kind)).find? Ar.due with
  | none => rfl
  | some z =>
    simp only [Option.map_some]
    have : z.bare.pw = z.pw := rfl
    rw [this]
    split <;> rfl
theorem writeD_bare (D : Dk) (no : Int) (data : ByteArray) : writeD (bareD D) no data = (bareD (writeD D no data).1, (writeD D no data).2) := by
  unfold writeD
  rw [actD_bare]
  have e1 : (bareD D).off = D.off := rfl
  have e2 : (bareD D).seen = D.seen := rfl
  have e3 : (bareD D).bytes = D.bytes := rfl
  have e4 : (bareD D).arms = D.arms.map Ar.bare := rfl
  rw [e1, e2, e3, e4, bare_map]
  simp only
  repeat' split
  all_goals rfl
theorem growD_bare (D : Dk) (n : Int) : growD (bareD D) n = (bareD (growD D n).1, (growD D n).2) := by
  unfold growD
  have e2 : (bareD D).seen = D.seen := rfl
  rw [e2, actD_bare]
  have e1 : (bareD D).off = D.off := rfl
  have e3 : (bareD D).most = D.most := rfl
  have e4 : (bareD D).arms = D.arms.map Ar.bare := rfl
  rw [e1, e3, e4, bare_map]
  simp only
  repeat' split
  all_goals rfl
theorem syncD_bare (D : Dk) : syncD (bareD D) = (bareD (syncD D).1, (syncD D).2) := by
  unfold syncD
  rw [actD_bare]
  have e1 : (bareD D).off = D.off := rfl
  have e4 : (bareD D).arms = D.arms.map Ar.bare := rfl
  rw [e1, e4, bare_map]
  simp only
  repeat' split
  all_goals rfl
theorem crashD_bare (D : Dk) (F : List Int) : crashD (bareD D) F = (bareD (crashD D F).1, (crashD D F).2) := by
  unfold crashD
  have e1 : (bareD D).off = D.off := rfl
  rw [e1]
  split <;> rfl
theorem wakeD_bare (D : Dk) : wakeD (bareD D) = (bareD (wakeD D).1, (wakeD D).2) := by
  unfold wakeD
  have e1 : (bareD D).off = D.off := rfl
  rw [e1]
  split <;> rfl
theorem takeD_bare (D : Dk) : takeD (bareD D) = (bareD (takeD D).1, (takeD D).2) := by
  unfold takeD
  have e1 : (bareD D).off = D.off := rfl
  rw [e1]
  split <;> rfl
theorem readD_bare (D : Dk) (no : Int) : readD (bareD D) no = readD D no := rfl

theorem Alike.of {β : Type} {f : Dk → Dk × β} (hf : ∀ D, f (bareD D) = (bareD (f D).1, (f D).2)) {P R : Dk} (a : Alike P R) : Alike (f P).1 (f R).1 ∧ (f P).2 = (f R).2 := by
  have h1 := hf P
  have h2 := hf R
  have a' : bareD P = bareD R := a
  rw [a', h2] at h1
  simp only [Prod.mk.injEq] at h1
  exact ⟨h1.1.symm, h1.2.symm⟩
theorem key_bare {x y : Ar} (h : x.key = y.key) : x.bare = y.bare := by
  simp only [Ar.key, Prod.mk.injEq] at h
  obtain ⟨h1, h2, h3, h4, h5⟩ := h
  unfold Ar.bare
  rw [h1, h2, h3, h4, h5]
theorem keys_bare {L M : List Ar} (h : L.map Ar.key = M.map Ar.key) : L.map Ar.bare = M.map Ar.bare := by
  induction L generalizing M with
  | nil => cases M with
    | nil => rfl
    | cons y M => simp at h
  | cons x L ih => cases M with
    | nil => simp at h
    | cons y M =>
      simp only [List.map_cons, List.cons.injEq] at h ⊢
      exact ⟨key_bare h.1, ih h.2⟩
theorem armTo_alike {P R P' R' : Dk} {Ls : List Ar} (a : Alike P R) (p : ArmTo P Ls P') (r : ArmTo R Ls R') : Alike P' R' ∧ armE P Ls = armE R Ls := by
  have a0 : bareD P = bareD R := a
  have e1 : P.off = R.off := by have := congrArg Dk.off a0; exact this
  have e2 : P.arms.map Ar.bare = R.arms.map Ar.bare := by have := congrArg Dk.arms a0; exact this
  have e3 : P.arms.length = R.arms.length := by have := congrArg List.length e2; simpa using this
  have eE : armE P Ls = armE R Ls := by unfold armE; rw [e1, e3]
  refine ⟨?_, eE⟩
  rcases p with ⟨p0, rfl⟩ | ⟨p0, N, hN, rfl⟩
  · rcases r with ⟨r0, rfl⟩ | ⟨r0, _⟩
    · exact a
    · exact absurd (eE.trans r0) p0
  · rcases r with ⟨r0, _⟩ | ⟨r0, M, hM, rfl⟩
    · exact absurd (eE.symm.trans p0) r0
    · have : N.map Ar.bare = M.map Ar.bare := keys_bare (hN.trans hM.symm)
      have a' : bareD P = bareD R := a
      have h1 : bareD { P with arms := P.arms ++ N } = { bareD P with arms := (bareD P).arms ++ N.map Ar.bare } := by simp [bareD]
      have h2 : bareD { R with arms := R.arms ++ M } = { bareD R with arms := (bareD R).arms ++ M.map Ar.bare } := by simp [bareD]
      show bareD _ = bareD _
      rw [h1, h2, a', this]
end Go.Proofs.Ytfkhjbfddeahaaa.kc
