/- DiskForks. -/
import Derived.Test.YtfkhjbfddeahaaaDiskP
import Derived.Test.YtfkhjbfddeahaaaDiskT
set_option linter.unusedVariables false
set_option linter.unusedSimpArgs false
namespace Go.Proofs.Ytfkhjbfddeahaaa.kc
open Go Go.Cn Go.Proofs Go.Proofs.Ytfkhjbfddeahaaa.vc

/-- A list that was handed in. -/
def Th.arg {α : Type} (enc : α → List Value) (w : Nat) (a : Option Addr) (l c : Nat) (L : List α) : Th := ⟨fun h => SlT enc w h none a l c L, fun _ => False, fun _ => False⟩
theorem Th.arg_stable {α : Type} (enc : α → List Value) (w : Nat) (a : Option Addr) (l c : Nat) (L : List α) : (Th.arg enc w a l c L).stable := fun k hn o => o.keep k (by simp)
theorem Many.nil (h : Hp) : Many h [] := ⟨by simp, List.Pairwise.nil⟩
theorem Many.arg {h : Hp} {L : List Th} (m : Many h L) {α : Type} {enc : α → List Value} {w : Nat} {a : Option Addr} {l c : Nat} {M : List α} (s : SlT enc w h none a l c M) : Many h (Th.arg enc w a l c M :: L) :=
  m.add (Keep.refl _ _) s (Th.arg_stable _ _ _ _ _ _) (fun _ hy => hy) (fun _ hy => hy.elim) (fun _ hy => hy.elim) (fun _ hy => hy.elim)

theorem goesD_taken (D : Dk) (F : List Int) : (goesD D F).taken = addW .i64 D.taken 1 := rfl

theorem c10 {h : Hp} {a : Option Addr} {l c : Nat} {a1 : Option Addr} {l1 c1 : Nat} {a2 : Option Addr} {l2 c2 : Nat} {L0 L1 L2 : List Stp} (s0 : SlT Stp.enc 9 h none a l c L0) (t0 : SlT Stp.enc 9 h none a1 l1 c1 L1) (u0 : SlT Stp.enc 9 h none a2 l2 c2 L2)
    (ok0 : ∀ s ∈ L0, s.ok) (ok1 : ∀ s ∈ L1, s.ok) (ok2 : ∀ s ∈ L2, s.ok) (hl : l ≤ 1048576) (hl1 : l1 ≤ 1048576) (hl2 : l2 ≤ 1048576) :
    C 10 [.slice a l c, .slice a1 l1 c1, .slice a2 l2 c2] h fun v h' => v = .bool true := by
  refine SCalls_of_vw fol (pf := pf) (shp := shp10) (f := 10) (fn := Try.f10) (by kernel_rfl) (c := Try.f10.body.getD .skip) (by kernel_rfl) (by kernel_rfl) fun wf => ?_
  rw [vc10]
  have n7 : neI (0 : Int) 0 = false := rfl
  have ff : sel false true false = false := rfl
  have nf : notB false = true := rfl
  have nt : notB true = false := rfl
  obtain ⟨k, M, f0, _, _⟩ := newD_fit (page := 1024) (most := 8) (image := []) (by decide)
  have mA : Many h [Th.arg Stp.enc 9 a l c L0, Th.arg Stp.enc 9 a1 l1 c1 L1, Th.arg Stp.enc 9 a2 l2 c2 L2] := (((Many.nil h).arg u0).arg t0).arg s0
  generalize hAs : [Th.arg Stp.enc 9 a l c L0, Th.arg Stp.enc 9 a1 l1 c1 L1, Th.arg Stp.enc 9 a2 l2 c2 L2] = As at mA
  have i0 : Th.arg Stp.enc 9 a l c L0 ∈ As := by rw [← hAs]; simp
  have i1 : Th.arg Stp.enc 9 a1 l1 c1 L1 ∈ As := by rw [← hAs]; simp
  have i2 : Th.arg Stp.enc 9 a2 l2 c2 L2 ∈ As := by rw [← hAs]; simp
  refine (newDisk (by decide)).wf fun v h1 wf1 _ ⟨k1, q, W1, e1, x1, hW1⟩ => ⟨_, _, e1, ?_⟩
  have m1 : Many h1 (Th.disk q W1 (fun _ => False) (newD 1024 8 []) :: As) := mA.addD wf1 k1 x1 hW1 (by simp)
  have iN : ∀ q, isN (some (Addr.mk q 0 none)) = false := fun _ => rfl
  simp only [n7, iN, ff, nf]
  refine ⟨fun v hh => v = .bool true ∧ Wf hh ∧ Kept h1 hh, fun _ => ?_, fun hf => by simp at hf, ?_⟩
  · exact (c25 h1).wf fun v h2 wf2 _ ⟨e2, k2⟩ => ⟨_, e2, rfl, wf2, k2⟩
  rintro b h2 ⟨e, wf2, k2⟩
  simp at e; subst e
  simp only [nt, ff]
  rw [if_neg (by simp)]
  refine ⟨fun vals m hh => ∃ (i : Nat) (W R : Nat → Prop) (D : Dk), [.int .i64 i] = vals ∧ i ≤ l ∧ m = l - i ∧ Wf hh ∧ Many hh (Th.disk q W R D :: As) ∧ D.fit k M i ∧ Calm D, ⟨l, 0, _, _, _, rfl, Nat.zero_le _, rfl, wf2, m1.kept k2, f0, ⟨rfl, rfl, rfl⟩⟩, ?_⟩
  rintro n m hh ⟨i, W, R, D, e, hi, rfl, wf3, m3, f3, cD⟩
  simp at e; subst e
  split
  · rename_i hlt
    have hlt : i < l := by rw [ltI_iff] at hlt; simp only [natI] at hlt; omega
    obtain ⟨x, hx, hin, hc⟩ := step_at (m3.at_ _ (by simp [i0] : Th.arg Stp.enc 9 a l c L0 ∈ _)).1 hlt
    refine ⟨hin, x.dO, x.wh, x.no, x.n, x.len, x.b, x.st, x.aa, x.al, x.ac, x.fa, x.fl, x.fc, ⟨rfl, hc.trans rfl⟩, ?_⟩
    refine (m3.run (A := []) fun X => c27 X f3 (by omega) (ok0 x (List.mem_of_getElem? hx))).wf fun v h4 wf4 _ ⟨e4, W', R', m4⟩ => ⟨_, e4, l - (i + 1), by simp only [lessN]; omega, i + 1, W', R', _, by rw [addW_small (by omega) (by omega)]; rfl, by omega, rfl, wf4, m4, playD_fit f3 (ok0 x (List.mem_of_getElem? hx)), playD_calm cD x⟩
  clear m1 k2 wf2 e1 x1 hW1 k1 wf1
  rename_i hlt
  have hil : i = l := by rw [ltI_iff] at hlt; simp only [natI] at hlt; omega
  subst hil
  refine (m3.fork (A := []) f3 (by omega)).wf fun v h4 wf4 _ ⟨q2, W2, e4, m4⟩ => ⟨_, e4, ?_⟩
  refine (Many.fork (A := [Th.disk q2 W2 R D]) m4 f3 (by omega)).wf fun v h5 wf5 _ ⟨q3, W3, e5, m5⟩ => ⟨_, e5, ?_⟩
  simp only [iN, ff]
  rw [if_neg (by simp)]
  refine ⟨fun vals m hh => ∃ (j : Nat) (W2 R2 : Nat → Prop) (D2 : Dk), [.int .i64 j] = vals ∧ j ≤ l1 ∧ m = l1 - j ∧ Wf hh ∧ Many hh (Th.disk q3 W3 R D :: Th.disk q2 W2 R2 D2 :: Th.disk q W R D :: As) ∧ D2.fit k M (i + j) ∧ Calm D2, ⟨l1, 0, _, _, _, rfl, Nat.zero_le _, rfl, wf5, m5, f3, cD⟩, ?_⟩
  rintro n m hh6 ⟨j, W2, R2, D2, e, hj, rfl, wf6, m6, f6, cD2⟩
  simp at e; subst e
  split
  · rename_i hlt
    have hlt : j < l1 := by rw [ltI_iff] at hlt; simp only [natI] at hlt; omega
    obtain ⟨x, hx, hin, hc⟩ := step_at (m6.at_ _ (by simp [i1] : Th.arg Stp.enc 9 a1 l1 c1 L1 ∈ _)).1 hlt
    refine ⟨hin, x.dO, x.wh, x.no, x.n, x.len, x.b, x.st, x.aa, x.al, x.ac, x.fa, x.fl, x.fc, ⟨rfl, hc.trans rfl⟩, ?_⟩
    refine (Many.run (A := [Th.disk q3 W3 R D]) m6 fun X => c27 X f6 (by omega) (ok1 x (List.mem_of_getElem? hx))).wf fun v h7 wf7 _ ⟨e7, W', R', m7⟩ => ⟨_, e7, l1 - (j + 1), by simp only [lessN]; omega, j + 1, W', R', _, by rw [addW_small (by omega) (by omega)]; rfl, by omega, rfl, wf7, m7, playD_fit f6 (ok1 x (List.mem_of_getElem? hx)), playD_calm cD2 x⟩
  intro h7 e7
  obtain ⟨b7, k7, n7', wf7⟩ := new_blk wf6 e7
  have m7 := m6.kept k7
  have sf : SlT encF 1 h7 (some hh6.next) (some ⟨hh6.next, 0, none⟩) 2 2 [255, 255] := ⟨⟨Nat.le_refl _, rfl, .inl rfl, fun _ => ⟨_, b7, Nat.le_refl _, rfl⟩⟩, rfl⟩
  have w2lt := (Many.disk (A := [Th.disk q3 W3 R D]) m6).wlt wf6
  refine (Many.run (A := [Th.disk q3 W3 R D]) m7 fun X => X.crash f6 (by omega) sf (fun y hy => ?_) (by simp)).wf fun v h8 wf8 _ ⟨e8, W2', R2', m8⟩ => ⟨_, e8, ?_⟩
  · simp at hy; subst hy
    exact ⟨fun hw => by have := w2lt _ hw; omega, by omega⟩
  have hc8 : crashD D2 [255, 255] = (goesD D2 [255, 255], 0) := by unfold crashD; rw [if_neg (by rw [cD2.on]; simp)]
  rw [hc8] at m8
  have hcr : (goesD D2 [255, 255]).taken = 1 := by rw [goesD_taken, cD2.taken]; rfl
  have f8 : (goesD D2 [255, 255]).fit k M 0 := goesD_fit f6 _
  generalize goesD D2 [255, 255] = D8 at m8 hcr f8
  clear m7 sf w2lt b7 k7 n7' wf7 m6 wf6 f6 cD2 m5 m4 m3 wf3 wf4 wf5
  refine ⟨fun vals m hh => ∃ (j : Nat) (W3 R3 W R : Nat → Prop) (D : Dk), [.int .i64 j] = vals ∧ j ≤ l2 ∧ m = l2 - j ∧ Wf hh ∧ Many hh (Th.disk q3 W3 R3 D :: Th.disk q2 W2' R2' D8 :: Th.disk q W R D :: As) ∧ D.fit k M (i + j) ∧ Calm D, ⟨l2, 0, _, _, _, _, _, rfl, Nat.zero_le _, rfl, wf8, m8, f3, cD⟩, ?_⟩
  rintro n m hh9 ⟨j, W3, R3, W, R, D, e, hj, rfl, wf9, m9, f9, cD⟩
  simp at e; subst e
  split
  · rename_i hlt
    have hlt : j < l2 := by rw [ltI_iff] at hlt; simp only [natI] at hlt; omega
    obtain ⟨x, hx, hin, hc⟩ := step_at (m9.at_ _ (by simp [i2] : Th.arg Stp.enc 9 a2 l2 c2 L2 ∈ _)).1 hlt
    have xok := ok2 x (List.mem_of_getElem? hx)
    refine ⟨hin, x.dO, x.wh, x.no, x.n, x.len, x.b, x.st, x.aa, x.al, x.ac, x.fa, x.fl, x.fc, ⟨rfl, hc.trans rfl⟩, hin, x.dO, x.wh, x.no, x.n, x.len, x.b, x.st, x.aa, x.al, x.ac, x.fa, x.fl, x.fc, ⟨rfl, hc.trans rfl⟩, ?_⟩
    refine (Many.run (A := [Th.disk q3 W3 R3 D, Th.disk q2 W2' R2' D8]) m9 fun X => c27 X f9 (by omega) xok).wf fun v h10 wf10 _ ⟨e10, W', R', m10⟩ => ⟨_, e10, ?_⟩
    obtain ⟨y, hy, _, hc'⟩ := step_at (m10.at_ _ (by simp [i2] : Th.arg Stp.enc 9 a2 l2 c2 L2 ∈ _)).1 hlt
    rw [hx] at hy; simp at hy; subst hy
    refine ⟨⟨rfl, hc'.trans rfl⟩, ?_⟩
    refine (Many.run (A := []) m10 fun X => c27 X f9 (by omega) xok).wf fun v h11 wf11 _ ⟨e11, W'', R'', m11⟩ => ⟨_, e11, ?_⟩
    rw [if_neg (by cases (playD D x).2 <;> simp [eqB, notB])]
    exact ⟨l2 - (j + 1), by simp only [lessN]; omega, j + 1, W'', R'', W', R', _, by rw [addW_small (by omega) (by omega)]; rfl, by omega, rfl, wf11, m11, playD_fit f9 xok, playD_calm cD x⟩
  have xg : ∀ {hh}, Kept hh9 hh → DAt hh q3 W3 R3 D := fun k => DAt.kept k (Many.disk (A := []) m9)
  have xf : ∀ {hh}, Kept hh9 hh → DAt hh q2 W2' R2' D8 := fun k => DAt.kept k (Many.disk (A := [Th.disk q3 W3 R3 D]) m9)
  have xd : ∀ {hh}, Kept hh9 hh → DAt hh q W R D := fun k => DAt.kept k (Many.disk (A := [Th.disk q3 W3 R3 D, Th.disk q2 W2' R2' D8]) m9)
  have tr : ∀ {x y}, Kept hh9 x → Kept x y → Kept hh9 y := fun a b => a.trans wf9 b fun _ _ hf => hf
  have hM := f9.ok.m1
  have hsM := f9.ok.seenL
  have hdM := f9.ok.durL
  have sM : (seenL D).length ≤ 65536 := by unfold seenL; split; simp; omega
  refine ((xd (Keep.refl _ _)).seenC f9).wf fun v h10 wf10 _ ⟨s10, g10, e10, o10, _, k10⟩ => ⟨_, _, _, e10, ?_⟩
  refine ((xg k10).seenC f9).wf fun v h11 wf11 _ ⟨s11, g11, e11, o11, _, k11⟩ => ⟨_, _, _, e11, ?_⟩
  have o10' := o10.keep k11 fun _ _ hf => hf
  refine (c33 o10'.slT o11.slT (by rw [← o10'.2]; omega)).mono fun v h12 ⟨e12, e12'⟩ => ⟨_, e12, ?_⟩
  subst e12'
  simp only [decide_true]
  have kk := tr k10 k11
  refine ⟨fun v hh => (∃ s g, v = Sv.v s ∧ OwT encS 1 hh g s D.dur) ∧ Wf hh ∧ Kept hh9 hh, fun _ => ?_, fun hf => by simp at hf, ?_⟩
  · exact ((xd kk).image f9).wf fun v h13 wf13 _ ⟨s', g', e, o, _, k'⟩ => ⟨_, _, _, e, ⟨s', g', rfl, o⟩, wf13, tr kk k'⟩
  rintro a13 l13 c13 h13 ⟨⟨s13, g13, e, o13⟩, wf13, k13⟩
  simp at e
  obtain ⟨rfl, rfl, rfl⟩ := e
  refine ⟨fun v hh => (∃ s g, v = Sv.v s ∧ OwT encS 1 hh g s D.dur) ∧ Wf hh ∧ Kept h13 hh, fun _ => ?_, fun hf => by simp at hf, ?_⟩
  · exact ((xg k13).image f9).wf fun v h13 wf13 _ ⟨s', g', e, o, _, k'⟩ => ⟨_, _, _, e, ⟨s', g', rfl, o⟩, wf13, k'⟩
  rintro a14 l14 c14 h14 ⟨⟨s14, g14, e, o14⟩, wf14, k14⟩
  simp at e
  obtain ⟨rfl, rfl, rfl⟩ := e
  have k14' := tr k13 k14
  have o13' := o13.keep k14 fun _ _ hf => hf
  refine ⟨fun v hh => v = .bool true ∧ hh = h14, fun _ => ?_, fun hf => by simp at hf, ?_⟩
  · refine (c33 o13'.slT o14.slT (by rw [← o13'.2]; omega)).mono fun v hh ⟨e, e'⟩ => ⟨_, e, ?_, e'⟩
    simp
  rintro b15 h15 ⟨e, rfl⟩
  simp at e; subst e
  have tt : sel true true false = true := rfl
  simp only [tt]
  refine ⟨fun v hh => v = .agg #[.int .i64 D.wr, .int .i64 D.gr, .int .i64 D.sy] ∧ Wf hh ∧ Kept hh9 hh, fun _ => ?_, fun hf => by simp at hf, ?_⟩
  · exact ((xd k14').acts f9).wf fun v hh wfh _ ⟨e, k'⟩ => ⟨_, _, _, e, rfl, wfh, tr k14' k'⟩
  rintro n1 n2 n3 h16 ⟨e, wf16, k16⟩
  simp at e
  obtain ⟨rfl, rfl, rfl⟩ := e
  refine ⟨fun v hh => v = .agg #[.int .i64 D.wr, .int .i64 D.gr, .int .i64 D.sy] ∧ Wf hh ∧ Kept hh9 hh, fun _ => ?_, fun hf => by simp at hf, ?_⟩
  · exact ((xg k16).acts f9).wf fun v hh wfh _ ⟨e, k'⟩ => ⟨_, _, _, e, rfl, wfh, tr k16 k'⟩
  rintro n1 n2 n3 h17 ⟨e, wf17, k17⟩
  simp at e
  obtain ⟨rfl, rfl, rfl⟩ := e
  have eqs : ∀ n : Int, eqI n n = true := fun n => eqI_iff.mpr rfl
  have an : andB true (andB true (andB true true)) = true := rfl
  simp only [eqs, an, tt]
  refine ⟨fun v hh => (∃ s : Sv, v = s.v ∧ s.l = D.waits.length) ∧ Wf hh ∧ Kept hh9 hh, fun _ => ?_, fun hf => by simp at hf, ?_⟩
  · exact ((xd k17).waits f9 (by omega)).wf fun v hh wfh _ ⟨s', g', e, o, _, k'⟩ => ⟨_, _, _, e, ⟨s', rfl, by have := o.2; simp at this; omega⟩, wfh, tr k17 k'⟩
  rintro a18 l18 c18 h18 ⟨⟨s18, e, hl18⟩, wf18, k18⟩
  simp at e
  obtain ⟨rfl, rfl, rfl⟩ := e
  refine ⟨fun v hh => (∃ s : Sv, v = s.v ∧ s.l = D.waits.length) ∧ Wf hh ∧ Kept hh9 hh, fun _ => ?_, fun hf => by simp at hf, ?_⟩
  · exact ((xg k18).waits f9 (by omega)).wf fun v hh wfh _ ⟨s', g', e, o, _, k'⟩ => ⟨_, _, _, e, ⟨s', rfl, by have := o.2; simp at this; omega⟩, wfh, tr k18 k'⟩
  rintro a19 l19 c19 h19 ⟨⟨s19, e, hl19⟩, wf19, k19⟩
  simp at e
  obtain ⟨rfl, rfl, rfl⟩ := e
  rw [hl18, hl19]
  simp only [eqs, tt]
  refine ⟨fun v hh => v = .bool true ∧ hh = h19, fun _ => ?_, fun hf => by simp at hf, ?_⟩
  · exact ((xd k19).on f9).mono fun v hh ⟨e, e'⟩ => ⟨_, e, by rw [cD.on]; rfl, e'⟩
  rintro b20 h20 ⟨e, rfl⟩
  simp at e; subst e
  simp only [tt]
  refine ⟨fun v hh => v = .int .i64 0 ∧ hh = h20, fun _ => ?_, fun hf => by simp at hf, ?_⟩
  · exact ((xd k19).takenC f9).mono fun v hh ⟨e, e'⟩ => ⟨_, e, by rw [cD.taken], e'⟩
  rintro n21 h21 ⟨e, rfl⟩
  simp at e; subst e
  simp only [eqs, tt]
  refine ⟨fun v hh => v = .int .i64 1 ∧ hh = h21, fun _ => ?_, fun hf => by simp at hf, ?_⟩
  · exact ((xf k19).takenC f8).mono fun v hh ⟨e, e'⟩ => ⟨_, e, by rw [hcr], e'⟩
  rintro n22 h22 ⟨e, rfl⟩
  simp at e; subst e
  rfl
end Go.Proofs.Ytfkhjbfddeahaaa.kc
