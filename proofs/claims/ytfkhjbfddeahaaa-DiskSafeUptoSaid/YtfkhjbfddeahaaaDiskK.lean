/- Contracts: Crash, Wake, Read, Take, the numbers; Waits, Image, Fork. -/
import Derived.Test.YtfkhjbfddeahaaaDiskJ
set_option linter.unusedVariables false
namespace Go.Proofs.Ytfkhjbfddeahaaa.kc
open Go Go.Cn Go.Proofs Go.Proofs.Ytfkhjbfddeahaaa.vc

section
variable {h : Hp} {d g0 : Nat} {gs gd gw ga : Option Nat} {R : Nat → Prop} {D : Dk} {s dd w a : Sv}

/-- Crash. -/
def crashD (D : Dk) (F : List Int) : Dk × Int := if D.off = true then (D, 7) else (goesD D F, 0)

theorem c32 {k M N : Nat} (x : DX h d g0 gs gd gw ga R D s dd w a) (fit : D.fit k M N) (hN : N ≤ 8589934592) {G : Option Nat} {fa : Option Addr} {fl fc : Nat} {F : List Int} (sf : SlT encF 1 h G fa fl fc F) (hG : ∀ y, G = some y → ¬ own g0 gs gd gw ga y ∧ y < h.next) (hfl : F.length ≤ 8589934592) :
    C 32 [.pointer (some ⟨d, 0, none⟩), .slice fa fl fc] h fun v h' => v = .int .i64 (crashD D F).2 ∧ Nx h d g0 gs gd gw ga R (crashD D F).1 h' := by
  refine SCalls_of_vw fol (pf := pf) (shp := shp32) (f := 32) (fn := Try.f32) (by kernel_rfl) (c := Try.f32.body.getD .skip) (by kernel_rfl) (by kernel_rfl) fun wf => ?_
  rw [vc32]
  refine (c62 x fit.ok.pos).mono fun v h' ⟨e, e'⟩ => ⟨_, e, ?_⟩
  subst e'
  by_cases ho : D.off = true
  · rw [if_pos ho, if_pos (by rfl)]
    have : crashD D F = (D, 7) := by unfold crashD; rw [if_pos ho]
    rw [this]; exact ⟨rfl, x.nx⟩
  rw [if_neg ho, if_neg (by rw [neI_iff]; simp)]
  have : crashD D F = (goesD D F, 0) := by unfold crashD; rw [if_neg ho]
  rw [this]
  exact (c63 x fit.ok sf hG (by rw [← sf.len]; exact hfl) (by have := fit.waits; omega)).mono fun v h2 ⟨e, nx⟩ => ⟨e, rfl, nx⟩

/-- Wake. -/
def wakeD (D : Dk) : Dk × Int := if D.off = true then ({ D with off := false, life := addW .i64 D.life 1 }, 0) else (D, 40)

theorem c36 (x : DX h d g0 gs gd gw ga R D s dd w a) (hb : 0 < D.bytes) : C 36 [.pointer (some ⟨d, 0, none⟩)] h fun v h' => v = .int .i64 (wakeD D).2 ∧ Nx h d g0 gs gd gw ga R (wakeD D).1 h' := by
  refine SCalls_of_vw fol (pf := pf) (shp := shp36) (f := 36) (fn := Try.f36) (by kernel_rfl) (c := Try.f36.body.getD .skip) (by kernel_rfl) (by kernel_rfl) fun wf => ?_
  rw [vc36]
  refine (c58 x hb).mono fun v h' ⟨e, e'⟩ => ⟨_, e, ?_⟩
  subst e'
  rw [if_neg (by simp [notB])]
  refine ⟨rfl, rfl, D.off, ⟨rfl, x.blk.one rfl⟩, ?_⟩
  by_cases ho : D.off = true
  rotate_left
  · rw [if_pos (by rw [notB_iff]; simpa using ho)]
    have : wakeD D = (D, 40) := by unfold wakeD; rw [if_neg ho]
    rw [this]; exact ⟨rfl, x.nx⟩
  rw [if_neg (by rw [ho]; simp [notB])]
  have : wakeD D = ({ D with off := false, life := addW .i64 D.life 1 }, 0) := by unfold wakeD; rw [if_pos ho]
  rw [this]
  obtain ⟨h1, e1, x1, k1, wf1⟩ := x.put wf (o := 5) (v := .bool false) (D' := { D with off := false }) (by omega) rfl rfl rfl rfl rfl rfl
  obtain ⟨h2, e2, x2, k2, wf2⟩ := x1.put wf1 (o := 8) (v := .int .i64 (addW .i64 D.life 1)) (D' := { D with off := false, life := addW .i64 D.life 1 }) (by omega) rfl rfl rfl rfl rfl rfl
  exact ⟨rfl, rfl, rfl, h1, e1, rfl, rfl, D.life, ⟨rfl, x1.blk.one rfl⟩, rfl, rfl, rfl, h2, e2, rfl, x.nx_own x2 (k1.trans wf k2 fun _ _ hy => hy)⟩

/-- Read. -/
def readD (D : Dk) (no : Int) : ByteArray × Int :=
  if D.off = true then (⟨#[]⟩, 7) else match D.seen[no.toNat]? with | some x => (x, 0) | none => (⟨#[]⟩, 41)

theorem c55 {k M : Nat} (x : DX h d g0 gs gd gw ga R D s dd w a) (ok : D.ok k M) {no : Int} (hno : 0 ≤ no ∧ no < 4294967296) :
    C 55 [.pointer (some ⟨d, 0, none⟩), .int .u32 no] h fun v h' => v = .tuple #[.string (readD D no).1, .int .i64 (readD D no).2] ∧ h' = h := by
  refine SCalls_of_vw fol (pf := pf) (shp := shp55) (f := 55) (fn := Try.f55) (by kernel_rfl) (c := Try.f55.body.getD .skip) (by kernel_rfl) (by kernel_rfl) fun wf => ?_
  rw [vc55]
  have hsl := x.seen.2
  have hm1 := ok.m1
  have hsM := ok.seenL
  refine (c62 x ok.pos).mono fun v h' ⟨e, e'⟩ => ⟨_, e, ?_⟩
  subst e'
  by_cases ho : D.off = true
  · rw [if_pos ho, if_pos (by rfl)]
    have : readD D no = (⟨#[]⟩, 7) := by unfold readD; rw [if_pos ho]
    rw [this]; exact ⟨rfl, rfl⟩
  rw [if_neg ho, if_neg (by rw [neI_iff]; simp)]
  refine ⟨rfl, rfl, (c92 x.blk (o := 0) rfl hno (by omega)).mono fun v h' ⟨e, e'⟩ => ⟨_, e, ?_⟩⟩
  subst e'
  by_cases hb : no < s.l
  rotate_left
  · rw [decide_eq_false hb, if_pos (by rfl)]
    have : readD D no = (⟨#[]⟩, 41) := by unfold readD; rw [if_neg ho, List.getElem?_eq_none (by omega)]
    rw [this]; exact ⟨rfl, rfl⟩
  rw [decide_eq_true hb, if_neg (by simp [notB])]
  have hz : D.seen[no.toNat]? = some (D.seen[no.toNat]'(by omega)) := List.getElem?_eq_getElem _
  generalize D.seen[no.toNat]'(by omega) = z at hz
  have : readD D no = (z, 0) := by unfold readD; rw [if_neg ho, hz]
  rw [this]
  obtain ⟨i1, i2⟩ := x.seen.slT.get encS_w hz (j := 0) (m := 1) (by omega)
  exact ⟨rfl, rfl, rfl, s.a, s.l, s.c, ⟨rfl, x.blk.one rfl⟩, ⟨i1, by simp only [inR]; omega⟩, z, ⟨rfl, i2.trans rfl⟩, rfl, rfl⟩

/-- Take. -/
def takeD (D : Dk) : Dk × Int × Int := if D.off = true then (D, 0, 7) else ({ D with taken := addW .i64 D.taken 1 }, addW .i64 D.taken 1, 0)

theorem c85 (x : DX h d g0 gs gd gw ga R D s dd w a) (hb : 0 < D.bytes) :
    C 85 [.pointer (some ⟨d, 0, none⟩)] h fun v h' => v = .tuple #[.int .i64 (takeD D).2.1, .int .i64 (takeD D).2.2] ∧ Nx h d g0 gs gd gw ga R (takeD D).1 h' := by
  refine SCalls_of_vw fol (pf := pf) (shp := shp85) (f := 85) (fn := Try.f85) (by kernel_rfl) (c := Try.f85.body.getD .skip) (by kernel_rfl) (by kernel_rfl) fun wf => ?_
  rw [vc85]
  refine (c62 x hb).mono fun v h' ⟨e, e'⟩ => ⟨_, e, ?_⟩
  subst e'
  by_cases ho : D.off = true
  · rw [if_pos ho, if_pos (by rfl)]
    have : takeD D = (D, 0, 7) := by unfold takeD; rw [if_pos ho]
    rw [this]; exact ⟨rfl, x.nx⟩
  rw [if_neg ho, if_neg (by rw [neI_iff]; simp)]
  have : takeD D = ({ D with taken := addW .i64 D.taken 1 }, addW .i64 D.taken 1, 0) := by unfold takeD; rw [if_neg ho]
  rw [this]
  obtain ⟨h1, e1, x1, k1, wf1⟩ := x.put wf (o := 9) (v := .int .i64 (addW .i64 D.taken 1)) (D' := { D with taken := addW .i64 D.taken 1 }) (by omega) rfl rfl rfl rfl rfl rfl
  exact ⟨rfl, rfl, D.taken, ⟨rfl, x.blk.one rfl⟩, rfl, rfl, rfl, h1, e1, rfl, rfl, _, ⟨rfl, x1.blk.one rfl⟩, rfl, x.nx_own x1 k1⟩

theorem c69 (x : DX h d g0 gs gd gw ga R D s dd w a) (hb : 0 < D.bytes) : C 69 [.pointer (some ⟨d, 0, none⟩)] h fun v h' => v = .int .i64 D.bytes ∧ h' = h := by
  refine SCalls_of_vw fol (pf := pf) (shp := shp69) (f := 69) (fn := Try.f69) (by kernel_rfl) (c := Try.f69.body.getD .skip) (by kernel_rfl) (by kernel_rfl) fun wf => ?_
  rw [vc69]
  refine (c58 x hb).mono fun v h' ⟨e, e'⟩ => ⟨_, e, ?_⟩
  subst e'
  rw [if_neg (by simp [notB])]
  exact ⟨rfl, rfl, rfl, _, ⟨rfl, x.blk.one rfl⟩, rfl, rfl⟩

theorem c70 (x : DX h d g0 gs gd gw ga R D s dd w a) (hb : 0 < D.bytes) : C 70 [.pointer (some ⟨d, 0, none⟩)] h fun v h' => v = .int .i64 D.most ∧ h' = h := by
  refine SCalls_of_vw fol (pf := pf) (shp := shp70) (f := 70) (fn := Try.f70) (by kernel_rfl) (c := Try.f70.body.getD .skip) (by kernel_rfl) (by kernel_rfl) fun wf => ?_
  rw [vc70]
  refine (c58 x hb).mono fun v h' ⟨e, e'⟩ => ⟨_, e, ?_⟩
  subst e'
  rw [if_neg (by simp [notB])]
  exact ⟨rfl, rfl, _, ⟨rfl, x.blk.one rfl⟩, rfl, rfl⟩

theorem c38 (x : DX h d g0 gs gd gw ga R D s dd w a) (hb : 0 < D.bytes) : C 38 [.pointer (some ⟨d, 0, none⟩)] h fun v h' => v = .bool (!D.off) ∧ h' = h := by
  refine SCalls_of_vw fol (pf := pf) (shp := shp38) (f := 38) (fn := Try.f38) (by kernel_rfl) (c := Try.f38.body.getD .skip) (by kernel_rfl) (by kernel_rfl) fun wf => ?_
  rw [vc38]
  refine (c58 x hb).mono fun v h' ⟨e, e'⟩ => ⟨_, e, ?_⟩
  subst e'
  refine ⟨fun _ => rfl, fun _ => rfl, _, fun _ => ⟨rfl, x.blk.one rfl⟩, ?_, rfl⟩
  cases D.off <;> rfl

theorem c56 (x : DX h d g0 gs gd gw ga R D s dd w a) (hb : 0 < D.bytes) : C 56 [.pointer (some ⟨d, 0, none⟩)] h fun v h' => v = .int .i64 D.life ∧ h' = h := by
  refine SCalls_of_vw fol (pf := pf) (shp := shp56) (f := 56) (fn := Try.f56) (by kernel_rfl) (c := Try.f56.body.getD .skip) (by kernel_rfl) (by kernel_rfl) fun wf => ?_
  rw [vc56]
  refine (c58 x hb).mono fun v h' ⟨e, e'⟩ => ⟨_, e, ?_⟩
  subst e'
  rw [if_neg (by simp [notB])]
  exact ⟨rfl, rfl, _, ⟨rfl, x.blk.one rfl⟩, rfl, rfl⟩

theorem c39 (x : DX h d g0 gs gd gw ga R D s dd w a) (hb : 0 < D.bytes) : C 39 [.pointer (some ⟨d, 0, none⟩)] h fun v h' => v = .int .i64 D.taken ∧ h' = h := by
  refine SCalls_of_vw fol (pf := pf) (shp := shp39) (f := 39) (fn := Try.f39) (by kernel_rfl) (c := Try.f39.body.getD .skip) (by kernel_rfl) (by kernel_rfl) fun wf => ?_
  rw [vc39]
  refine (c58 x hb).mono fun v h' ⟨e, e'⟩ => ⟨_, e, ?_⟩
  subst e'
  rw [if_neg (by simp [notB])]
  exact ⟨rfl, rfl, _, ⟨rfl, x.blk.one rfl⟩, rfl, rfl⟩

theorem c45 (x : DX h d g0 gs gd gw ga R D s dd w a) (hb : 0 < D.bytes) : C 45 [.pointer (some ⟨d, 0, none⟩)] h fun v h' => v = .int .i64 (natI D.arms.length) ∧ h' = h := by
  refine SCalls_of_vw fol (pf := pf) (shp := shp45) (f := 45) (fn := Try.f45) (by kernel_rfl) (c := Try.f45.body.getD .skip) (by kernel_rfl) (by kernel_rfl) fun wf => ?_
  rw [vc45]
  refine (c58 x hb).mono fun v h' ⟨e, e'⟩ => ⟨_, e, ?_⟩
  subst e'
  rw [if_neg (by simp [notB])]
  refine ⟨rfl, rfl, _, _, _, ⟨rfl, x.blk.one rfl⟩, ?_, rfl⟩
  rw [x.arms.2]

theorem c37 (x : DX h d g0 gs gd gw ga R D s dd w a) (hb : 0 < D.bytes) : C 37 [.pointer (some ⟨d, 0, none⟩)] h fun v h' => v = .agg #[.int .i64 D.wr, .int .i64 D.gr, .int .i64 D.sy] ∧ Kept h h' := by
  refine SCalls_of_vw fol (pf := pf) (shp := shp37) (f := 37) (fn := Try.f37) (by kernel_rfl) (c := Try.f37.body.getD .skip) (by kernel_rfl) (by kernel_rfl) fun wf => ?_
  rw [vc37]
  intro h1 e1
  obtain ⟨b1, k1, n1, wf1⟩ := new_blk wf e1
  have x1 := x.kept k1
  refine (c58 x1 hb).mono fun v h' ⟨e, e'⟩ => ⟨_, e, ?_⟩
  subst e'
  rw [if_neg (by simp [notB])]
  obtain ⟨h4, e4, b4, k4, _, n4, wf4⟩ := set_blk wf1 b1 k1 wf (Nat.le_refl _) (vs := [.int .i64 D.wr, .int .i64 D.gr, .int .i64 D.sy]) rfl rfl
  exact ⟨rfl, rfl, _, _, _, ⟨rfl, (x1.blk.cells (o := 10) (n := 3) (Nat.le_of_ble_eq_true rfl)).trans rfl⟩, rfl, h4, e4, _, _, _, ⟨rfl, (b4.cells (o := 0) (n := 3) (Nat.le_of_ble_eq_true rfl)).trans rfl⟩, rfl, k4⟩

/-- Image. -/
theorem c34 (x : DX h d g0 gs gd gw ga R D s dd w a) (hb : 0 < D.bytes) (hl : D.dur.length ≤ 8589934592) : C 34 [.pointer (some ⟨d, 0, none⟩)] h (Cloned encS 1 h D.dur) := by
  refine SCalls_of_vw fol (pf := pf) (shp := shp34) (f := 34) (fn := Try.f34) (by kernel_rfl) (c := Try.f34.body.getD .skip) (by kernel_rfl) (by kernel_rfl) fun wf => ?_
  rw [vc34]
  refine (c58 x hb).mono fun v h' ⟨e, e'⟩ => ⟨_, e, ?_⟩
  subst e'
  rw [if_neg (by simp [notB])]
  refine ⟨rfl, rfl, rfl, _, _, _, ⟨rfl, x.blk.one rfl⟩, ?_⟩
  refine (c59 x.dur.slT (by rw [← x.dur.2]; exact hl)).mono fun v h1 ⟨s', g', e, o, n, k⟩ => ⟨s'.a, s'.l, s'.c, e, s', g', rfl, o, n, k⟩

/-- What is told of what waits. -/
def Wt.told (x : Wt) : Int × Int × Int := (x.act, x.page, x.pages)
def encW (x : Int × Int × Int) : List Value := [.int .u8 x.1, .int .u32 x.2.1, .int .i64 x.2.2]
theorem encW_w (x : Int × Int × Int) : (encW x).length = 3 := rfl

theorem c30 (x : DX h d g0 gs gd gw ga R D s dd w a) (hb : 0 < D.bytes) (hl : D.waits.length ≤ 8589934592) : C 30 [.pointer (some ⟨d, 0, none⟩)] h (Cloned encW 3 h (D.waits.map Wt.told)) := by
  refine SCalls_of_vw fol (pf := pf) (shp := shp30) (f := 30) (fn := Try.f30) (by kernel_rfl) (c := Try.f30.body.getD .skip) (by kernel_rfl) (by kernel_rfl) fun wf => ?_
  rw [vc30]
  refine (c58 x hb).mono fun v h' ⟨e, e'⟩ => ⟨_, e, ?_⟩
  subst e'
  rw [if_neg (by simp [notB])]
  refine ⟨rfl, rfl, w.a, w.l, w.c, ⟨rfl, x.blk.one rfl⟩, ?_⟩
  have hwl := x.waits.2
  refine ⟨fun vals m hh => ∃ (i : Nat) (s' : Sv) (g' : Option Nat), [s'.v, .int .i64 i] = vals ∧ i ≤ w.l ∧ m = w.l - i ∧ Wf hh ∧ OwT encW 3 hh g' s' ((D.waits.take i).map Wt.told) ∧ (g' = none ∨ ∃ y, g' = some y ∧ h'.next ≤ y) ∧ Kept h' hh,
    ⟨w.l, 0, ⟨none, 0, 0⟩, none, rfl, Nat.zero_le _, rfl, wf, by simpa using OwT.nil (enc := encW) (w := 3), .inl rfl, Keep.refl _ _⟩, ?_⟩
  rintro a1 l1 c1 n m hh ⟨i, s', g', e, hi, rfl, wf1, o1, n1, k1⟩
  simp at e
  obtain ⟨⟨rfl, rfl, rfl⟩, rfl⟩ := e
  have hsl : s'.l = i := by rw [← o1.2]; simp; omega
  split
  · rename_i hlt
    have hlt : i < w.l := by rw [ltI_iff] at hlt; simp only [natI] at hlt; omega
    have hz : D.waits[i]? = some (D.waits[i]'(by omega)) := List.getElem?_eq_getElem _
    generalize D.waits[i]'(by omega) = z at hz
    obtain ⟨i1, i2⟩ := (x.waits.keep k1 fun _ _ hf => hf).slT.get Wt.w hz (j := 0) (m := 4) (by omega)
    have hin : inR (i : Int) w.l := by simp only [inR]; omega
    have next : addW .i64 (i : Int) 1 = ((i + 1 : Nat) : Int) := by rw [addW_small (by omega) (by omega)]; rfl
    refine ⟨⟨i1, hin⟩, z.act, z.page, z.pages, z.data, ⟨rfl, i2.trans rfl⟩, ?_⟩
    intro h2 e2
    obtain ⟨b2, k2, n2, wf2⟩ := new_blk wf1 e2
    obtain ⟨h3, e3, b3, k3, _, n3, wf3⟩ := set_blk wf2 b2 k2 wf1 (Nat.le_refl _) (vs := z.enc) rfl rfl
    refine ⟨rfl, h3, e3, rfl, z.act, z.page, z.pages, ⟨rfl, (b3.cells (o := 0) (n := 3) (Nat.le_of_ble_eq_true rfl)).trans rfl⟩, ?_⟩
    intro h4 e4
    obtain ⟨a5, c5, g5, h5, e5, o5, nw5, k5, wf5⟩ := Ow.append1 wf3 app51 (o1.1.keep k3 fun _ _ hf => hf) e4 rfl rfl (room (by omega) (by omega))
    refine ⟨a5, _, c5, h5, e5, w.l - (i + 1), by simp only [lessN]; omega, i + 1, ⟨a5, s'.l + 1, c5⟩, g5, by rw [next], by omega, rfl, wf5, ⟨?_, ?_⟩, ?_, ?_⟩
    · have : (D.waits.take (i + 1)).map Wt.told = (D.waits.take i).map Wt.told ++ [z.told] := by rw [List.take_add_one, hz]; simp
      rw [this, List.flatMap_append]
      exact o5
    · simp; omega
    · rcases nw5 with rfl | ⟨y, rfl, hy⟩
      · exact n1
      · exact .inr ⟨y, rfl, by have := k1.next; omega⟩
    · refine (k1.trans wf k3 fun _ _ hf => hf).trans wf k5 fun y hy he => ?_
      rcases n1 with rfl | ⟨z, rfl, hz⟩
      · simp at he
      · simp at he; omega
  · rename_i hlt
    have hil : i = w.l := by rw [ltI_iff] at hlt; simp only [natI] at hlt; omega
    have : D.waits.take i = D.waits := List.take_of_length_le (by omega)
    rw [this] at o1
    exact ⟨s', g', rfl, o1, n1, k1⟩

/-- Fork. -/
theorem c31 {k M N : Nat} (x : DX h d g0 gs gd gw ga R D s dd w a) (fit : D.fit k M N) (hN : N ≤ 8589934592) :
    C 31 [.pointer (some ⟨d, 0, none⟩)] h fun v h' => ∃ q p0 ps pd pw pa s' dd' w' a', v = .pointer (some ⟨q, 0, none⟩) ∧ DX h' q p0 ps pd pw pa R D s' dd' w' a' ∧ (∀ y, own p0 ps pd pw pa y → h.next ≤ y) ∧ Kept h h' := by
  refine SCalls_of_vw fol (pf := pf) (shp := shp31) (f := 31) (fn := Try.f31) (by kernel_rfl) (c := Try.f31.body.getD .skip) (by kernel_rfl) (by kernel_rfl) fun wf => ?_
  rw [vc31]
  have ok := fit.ok
  have hm1 := ok.m1
  have hsM := ok.seenL
  have hdM := ok.durL
  have hsl := x.seen.2
  have hdl := x.dur.2
  have hwl := x.waits.2
  have hal := x.arms.2
  have hW := fit.waits
  have hA := fit.arms
  refine (c58 x ok.pos).mono fun v h' ⟨e, e'⟩ => ⟨_, e, ?_⟩
  subst e'
  rw [if_neg (by simp [notB])]
  refine ⟨rfl, _, _, _, _, _, _, _, _, _, _, _, _, _, _, _, _, _, _, _, _, _, ⟨rfl, (x.blk.cells (o := 0) (n := 13) (Nat.le_of_ble_eq_true rfl)).trans rfl⟩, ?_⟩
  intro h1 e1
  obtain ⟨b1, k1, n1, wf1⟩ := new_blk wf e1
  obtain ⟨h2, e2, b2, k2, _, n2, wf2⟩ := set_blk wf1 b1 k1 wf (Nat.le_refl _) (vs := dcells D s dd w a) rfl rfl
  have x2 := x.kept k2
  refine ⟨rfl, h2, e2, rfl, rfl, rfl, _, _, _, ⟨rfl, x2.blk.one rfl⟩, ?_⟩
  refine (c59 x2.seen.slT (by omega)).wf fun v h3 wf3 _ ⟨s3, g3, e, o3, m3, k3⟩ => ⟨_, _, _, e, rfl, rfl, rfl, ?_⟩
  have g3lt := o3.1.glt wf3
  have hn12 : h2.next = h'.next + 1 := by omega
  have b3 : Blk h3 h'.next (some h'.next) (dcells D s dd w a) := k3.blk b2
  obtain ⟨h4, e4, b4, k4, n4, w4⟩ := b3.set (o := 1) (v := s3.v) (by simp [dcells]) rfl
  have wf4 := w4 wf3
  have k04 : Kept h' h4 := (k2.trans wf k3 fun _ _ hf => hf).trans wf k4 fun y hy he => by omega
  have x4 := x.kept k04
  refine ⟨h4, e4, rfl, rfl, rfl, _, _, _, ⟨rfl, x4.blk.one rfl⟩, ?_⟩
  refine (c59 x4.dur.slT (by omega)).wf fun v h5 wf5 _ ⟨s5, g5, e, o5, m5, k5⟩ => ⟨_, _, _, e, rfl, rfl, rfl, ?_⟩
  have g5lt := o5.1.glt wf5
  have b5 : Blk h5 h'.next (some h'.next) (dcells D s3 dd w a) := k5.blk b4
  obtain ⟨h6, e6, b6, k6, n6, w6⟩ := b5.set (o := 3) (v := s5.v) (by simp [dcells]) rfl
  have wf6 := w6 wf5
  have k06 : Kept h' h6 := (k04.trans wf k5 fun _ _ hf => hf).trans wf k6 fun y hy he => by omega
  have x6 := x.kept k06
  refine ⟨h6, e6, rfl, rfl, _, _, _, ⟨rfl, x6.blk.one rfl⟩, ?_⟩
  refine (c60 x6.waits.slT (by omega)).wf fun v h7 wf7 _ ⟨s7, g7, e, o7, m7, k7⟩ => ⟨_, _, _, e, rfl, rfl, ?_⟩
  have g7lt := o7.1.glt wf7
  have b7 : Blk h7 h'.next (some h'.next) (dcells D s3 s5 w a) := k7.blk b6
  obtain ⟨h8, e8, b8, k8, n8, w8⟩ := b7.set (o := 6) (v := s7.v) (by simp [dcells]) rfl
  have wf8 := w8 wf7
  have k08 : Kept h' h8 := (k06.trans wf k7 fun _ _ hf => hf).trans wf k8 fun y hy he => by omega
  have x8 := x.kept k08
  refine ⟨h8, e8, rfl, rfl, _, _, _, ⟨rfl, x8.blk.one rfl⟩, ?_⟩
  refine (c61 x8.arms.slT (by omega)).wf fun v h9 wf9 _ ⟨s9, g9, e, o9, m9, k9⟩ => ⟨_, _, _, e, rfl, rfl, ?_⟩
  have g9lt := o9.1.glt wf9
  have b9 : Blk h9 h'.next (some h'.next) (dcells D s3 s5 s7 a) := k9.blk b8
  obtain ⟨h10, e10, b10, k10, n10, w10⟩ := b9.set (o := 7) (v := s9.v) (by simp [dcells]) rfl
  have k010 : Kept h' h10 := (k08.trans wf k9 fun _ _ hf => hf).trans wf k10 fun y hy he => by omega
  have x10 := x.kept k010
  refine ⟨h10, e10, h'.next, h'.next, g3, g5, g7, g9, s3, s5, s7, s9, rfl, ?_, ?_, k010⟩
  · have q2 := k2.next
    have q3 := k3.next
    have q4 := k4.next
    have q5 := k5.next
    have q6 := k6.next
    have q7 := k7.next
    have q8 := k8.next
    have q9 := k9.next
    have q10 := k10.next
    have ne0 : ∀ {g : Option Nat} {n : Nat}, (g = none ∨ ∃ y, g = some y ∧ n ≤ y) → h'.next < n → ∀ y, g = some y → ¬ y = h'.next := by
      intro g n hg hn y hy he
      rcases hg with rfl | ⟨z, rfl, hz⟩
      · simp at hy
      · simp at hy; omega
    have lo : ∀ {g : Option Nat} {n : Nat}, (g = none ∨ ∃ y, g = some y ∧ n ≤ y) → ∀ y, g = some y → n ≤ y := by
      intro g n hg y hy
      rcases hg with rfl | ⟨z, rfl, hz⟩
      · simp at hy
      · simp at hy; omega
    have z3 := ne0 m3 (by omega)
    have z5 := ne0 m5 (by omega)
    have z7 := ne0 m7 (by omega)
    have z9 := ne0 m9 (by omega)
    have t5 := lo m5
    have t7 := lo m7
    have t9 := lo m9
    have t3 := lo m3
    have r3 : OwT encS 1 h10 g3 s3 D.seen := ((((((o3.keep k4 z3).keep k5 fun _ _ hf => hf).keep k6 z3).keep k7 fun _ _ hf => hf).keep k8 z3).keep k9 fun _ _ hf => hf).keep k10 z3
    have r5 : OwT encS 1 h10 g5 s5 D.dur := ((((o5.keep k6 z5).keep k7 fun _ _ hf => hf).keep k8 z5).keep k9 fun _ _ hf => hf).keep k10 z5
    have r7 : OwT Wt.enc 4 h10 g7 s7 D.waits := ((o7.keep k8 z7).keep k9 fun _ _ hf => hf).keep k10 z7
    have r9 : OwT Ar.enc 5 h10 g9 s9 D.arms := o9.keep k10 z9
    refine ⟨b10, r3, r5, r7, r9, x10.fates, ?_, ?_, ?_, ?_, ?_, ?_, ?_, ?_, ?_, ?_, ?_, x10.rlt⟩
    · intro y hy he; simp at hy; exact z3 y he hy.symm
    · intro y hy he; simp at hy; exact z5 y he hy.symm
    · intro y hy he; simp at hy; exact z7 y he hy.symm
    · intro y hy he; simp at hy; exact z9 y he hy.symm
    · intro y hy he; have := g3lt y hy; have := t5 y he; omega
    · intro y hy he; have := g3lt y hy; have := t7 y he; omega
    · intro y hy he; have := g3lt y hy; have := t9 y he; omega
    · intro y hy he; have := g5lt y hy; have := t7 y he; omega
    · intro y hy he; have := g5lt y hy; have := t9 y he; omega
    · intro y hy he; have := g7lt y hy; have := t9 y he; omega
    · intro y hy
      have := x.rlt y hy
      refine ⟨by omega, fun he => ?_, fun he => ?_, fun he => ?_, fun he => ?_⟩
      · have := t3 y he; omega
      · have := t5 y he; omega
      · have := t7 y he; omega
      · have := t9 y he; omega
  · have q2 := k2.next
    have q3 := k3.next
    have q4 := k4.next
    have q5 := k5.next
    have q6 := k6.next
    have q7 := k7.next
    have q8 := k8.next
    intro y hy
    have lo : ∀ {g : Option Nat} {n : Nat}, (g = none ∨ ∃ y, g = some y ∧ n ≤ y) → g = some y → n ≤ y := by
      intro g n hg hy
      rcases hg with rfl | ⟨z, rfl, hz⟩
      · simp at hy
      · simp at hy; omega
    rcases hy with hy | hy | hy | hy | hy
    · omega
    · have := lo m3 hy; omega
    · have := lo m5 hy; omega
    · have := lo m7 hy; omega
    · have := lo m9 hy; omega
end
end Go.Proofs.Ytfkhjbfddeahaaa.kc
