/- DiskArms. -/
import Derived.Test.YtfkhjbfddeahaaaDiskX1
import Derived.Test.YtfkhjbfddeahaaaDiskX
set_option linter.unusedVariables false
set_option linter.unusedSimpArgs false
namespace Go.Proofs.Ytfkhjbfddeahaaa.kc
open Go Go.Cn Go.Proofs Go.Proofs.Ytfkhjbfddeahaaa.vc

theorem rem50 (n : Int) : -49 ≤ remW n 50 ∧ remW n 50 ≤ 49 := by
  unfold remW
  by_cases h : 0 ≤ n
  · rw [Int.tmod_eq_emod_of_nonneg h]; omega
  · have h1 : n.tmod 50 = -((-n).tmod 50) := by rw [Int.neg_tmod]; omega
    rw [h1, Int.tmod_eq_emod_of_nonneg (by omega)]; omega
theorem negW_small {a : Int} (h0 : -9223372036854775808 ≤ -a) (h1 : -a < 9223372036854775808) : negW .i64 a = -a := by
  unfold negW; rw [Int.zero_sub]; exact wrap_small h0 h1

set_option maxRecDepth 100000 in
theorem c12 {h : Hp} {a : Option Addr} {l c : Nat} {L0 : List Stp} (s0 : SlT Stp.enc 9 h none a l c L0) (ok0 : ∀ s ∈ L0, s.ok) (hl : l ≤ 1048576) (nth : Int) (pw : Bool) {fa : Option Addr} {fl fc : Nat} {F0 : List Int} (sF : SlT encF 1 h none fa fl fc F0) (hfl : fl ≤ 1048576) :
    C 12 [.slice a l c, .int .i64 nth, .bool pw, .slice fa fl fc] h fun v h' => v = .bool true := by
  refine SCalls_of_vw fol (pf := pf) (shp := shp12) (f := 12) (fn := Try.f12) (by kernel_rfl) (c := Try.f12.body.getD .skip) (by kernel_rfl) (by kernel_rfl) fun wf => ?_
  rw [vc12]
  have n7 : neI (0 : Int) 0 = false := rfl
  have ff : sel false true false = false := rfl
  have tt : sel true true false = true := rfl
  have nf : notB false = true := rfl
  have nt : notB true = false := rfl
  have eqs : ∀ n : Int, eqI n n = true := fun n => eqI_iff.mpr rfl
  have nes : ∀ n : Int, neI n n = false := fun n => by rw [Bool.eq_false_iff, Ne, neI_iff]; simp
  have eqb : ∀ b : Bool, eqB b b = true := fun b => by cases b <;> rfl
  have iN : ∀ q, isN (some (Addr.mk q 0 none)) = false := fun _ => rfl
  have hF0 := sF.len
  obtain ⟨k, M, f0, _, _⟩ := newD_fit (page := 1024) (most := 8) (image := []) (by decide)
  have mA : Many h [Th.arg Stp.enc 9 a l c L0, Th.arg encF 1 fa fl fc F0] := ((Many.nil h).arg sF).arg s0
  generalize hAs : [Th.arg Stp.enc 9 a l c L0, Th.arg encF 1 fa fl fc F0] = As at mA
  have i0 : Th.arg Stp.enc 9 a l c L0 ∈ As := by rw [← hAs]; simp
  have i1 : Th.arg encF 1 fa fl fc F0 ∈ As := by rw [← hAs]; simp
  refine (newDisk (by decide)).wf fun v h1 wf1 _ ⟨k1, q, W1, e1, x1, hW1⟩ => ⟨_, _, e1, ?_⟩
  have m1 : Many h1 (Th.disk q W1 (fun _ => False) (newD 1024 8 []) :: As) := mA.addD wf1 k1 x1 hW1 (by simp)
  simp only [n7, iN, ff, nf]
  refine ⟨fun v hh => v = .bool true ∧ Wf hh ∧ Kept h1 hh, fun _ => ?_, fun hf => by simp at hf, ?_⟩
  · exact (c25 h1).wf fun v h2 wf2 _ ⟨e2, k2⟩ => ⟨_, e2, rfl, wf2, k2⟩
  rintro b h2 ⟨e, wf2, k2⟩
  simp at e; subst e
  simp only [nt, ff]
  rw [if_neg (by simp)]
  refine ⟨by simp [nonzero], fun vals hh => ∃ n : Int, [.int .i64 n] = vals ∧ 0 ≤ n ∧ n ≤ 49 ∧ h2 = hh, ?_, ?_⟩
  · have hr := rem50 nth
    split
    · rename_i hlt
      have hlt := ltI_iff.mp hlt
      exact ⟨_, rfl, by rw [negW_small (by omega) (by omega)]; omega, by rw [negW_small (by omega) (by omega)]; omega, rfl⟩
    · rename_i hlt
      have hlt : ¬ remW nth 50 < 0 := fun h => hlt (ltI_iff.mpr h)
      exact ⟨_, rfl, by omega, by omega, rfl⟩
  rintro n1 h2' ⟨n, e, hn0, hn49, e2⟩
  simp at e; subst e
  subst e2
  rw [addW_small (by omega) (by omega)]
  have m2 := m1.kept k2
  intro h3 e3
  obtain ⟨b3, k3, n3, wf3⟩ := new_blk wf2 e3
  have m3 := m2.kept k3
  have X3 : DAt h3 q W1 (fun _ => False) (newD 1024 8 []) := Many.disk (A := []) m3
  have w2lt := (Many.disk (A := []) m2).wlt wf2
  have sF3 : SlT encF 1 h3 none fa fl fc F0 := (m3.at_ _ (by simp [i1] : Th.arg encF 1 fa fl fc F0 ∈ _)).1
  have sa : SlT Ar.enc4 4 h3 (some h2.next) (some ⟨h2.next, 0, none⟩) 1 1 [⟨0, n + 1, pw, fa, fl, fc, 0, F0⟩] := new_one Ar.w4 (x := ⟨0, n + 1, pw, fa, fl, fc, 0, F0⟩) b3
  refine (X3.arm f0 sa (fun y hy hw => by simp at hy; have := w2lt y hw; omega) (fun z hz => by simp at hz; subst hz; exact ⟨none, by simp, sF3⟩) (by omega) (fun z hz => by simp at hz; subst hz; simp only; omega)).wf fun v h4 wf4 _ ⟨e4, D4, hA4, o4⟩ => ⟨_, e4, ?_⟩
  have hE : armE (newD 1024 8 []) [⟨0, n + 1, pw, fa, fl, fc, 0, F0⟩] = 0 := by
    have hb : Ar.bad ⟨0, n + 1, pw, fa, fl, fc, 0, F0⟩ = false := by
      rw [Bool.eq_false_iff]; intro hh
      unfold Ar.bad at hh
      rw [or_iff, gtI_iff, ltI_iff] at hh
      simp only at hh
      omega
    unfold armE
    simp [newD, hb]
  have hD4 : ∃ y : Ar, D4 = armed1 (newD 1024 8 []) y ∧ y.on = 0 ∧ y.pw = pw ∧ y.fates = F0 ∧ y.left = n + 1 := by
    rcases hA4 with ⟨h5, _⟩ | ⟨_, Ny, hN, rfl⟩
    · exact absurd hE h5
    · obtain ⟨y, rfl⟩ : ∃ y, Ny = [y] := List.length_eq_one_iff.mp (by have := congrArg List.length hN; simpa using this)
      simp [Ar.key, Ar.key'] at hN
      exact ⟨y, rfl, hN.1, hN.2.2.1, hN.2.2.2.1, hN.2.2.2.2⟩
  obtain ⟨y0, rfl, hy1, hy2, hy3, hy4⟩ := hD4
  obtain ⟨W4, R4, m4⟩ := Many.opD (A := []) wf4 m3 o4
  have fy0 := armed1_fit (x := y0) f0 (by rw [hy3]; omega)
  rw [hE]
  simp only [n7, nf]
  refine ⟨fun v hh => v = .int .i64 1 ∧ hh = h4, fun _ => ?_, fun hf => by simp at hf, ?_⟩
  · exact ((Many.disk (A := []) m4).armed fy0).mono fun v hh ⟨e, e'⟩ => ⟨_, e, rfl, e'⟩
  rintro r5 h5 ⟨e, rfl⟩
  simp at e; subst e
  simp only [nes, ff]
  rw [if_neg (by simp)]
  refine (newDisk (by decide)).wf fun v h6 wf6 _ ⟨k6, q6, W6, e6, x6, hW6⟩ => ⟨_, _, e6, ?_⟩
  have m6 := m4.addD wf6 k6 x6 hW6 (by simp)
  simp only [n7, iN, ff]
  rw [if_neg (by simp)]
  refine ⟨fun vals m hh => ∃ (i : Nat) (acts : Int) (W R W' R' : Nat → Prop) (F : Dk) (y : Ar) (q' : Nat), [.pointer (some ⟨q', 0, none⟩), .int .i64 acts, .int .i64 i] = vals ∧ i ≤ l ∧ m = l - i ∧ Wf hh ∧
      Many hh (Th.disk q' W' R' F :: Th.disk q W R (armed1 F y) :: As) ∧ F.fit k M i ∧ Calm F ∧ y.on = 0 ∧ y.pw = pw ∧ y.fates = F0 ∧ y.left = n + 1 - acts ∧ 0 ≤ acts ∧ acts ≤ n,
    ⟨l, 0, 0, _, _, _, _, _, y0, _, rfl, Nat.zero_le _, rfl, wf6, m6, f0, ⟨rfl, rfl, rfl⟩, hy1, hy2, hy3, by omega, by omega, hn0⟩, ?_⟩
  clear m1 m2 m3 m4 m6 wf1 wf3 wf4 wf6 k1 k2 k3 k6 x1 x6 hW1 hW6 e1 e4 e6 o4 hA4 hE fy0 hy1 hy2 hy3 hy4 y0 sa sF3 X3 w2lt b3 n3 e3 wf2
  rintro p7 n7' n8 m hh ⟨i, acts, W, R, W', R', F, y, q', e, hi, rfl, wf7, m7, f7, cF, y1, y2, y3, y4, ha0, han⟩
  simp at e
  obtain ⟨rfl, rfl, rfl⟩ := e
  have fy : y.fates.length ≤ 8589934592 := by rw [y3]; omega
  have hM := f7.ok.m1
  have hsM := f7.ok.seenL
  have hdM := f7.ok.durL
  have sN : seenL F = F.seen := by unfold seenL; rw [if_neg (by rw [cF.on]; simp)]
  have trK : ∀ {x y z : Hp}, Wf x → Kept x y → Kept y z → Kept x z := fun w a b => a.trans w b fun _ _ hf => hf
  by_cases hlt : ltI (i : Int) (natI l) = true
  · rw [if_pos hlt]
    have hlt : i < l := by rw [ltI_iff] at hlt; simp only [natI] at hlt; omega
    refine ⟨fun vals hh => ∃ (acts : Int) (W R W' R' : Nat → Prop) (F : Dk) (y : Ar) (q' : Nat), [.pointer (some ⟨q', 0, none⟩), .int .i64 acts] = vals ∧ Wf hh ∧
      Many hh (Th.disk q' W' R' F :: Th.disk q W R (armed1 F y) :: As) ∧ F.fit k M (i + 1) ∧ Calm F ∧ y.on = 0 ∧ y.pw = pw ∧ y.fates = F0 ∧ y.left = n + 1 - acts ∧ 0 ≤ acts ∧ acts ≤ n, ?_, ?_⟩
    rotate_left
    · rintro p8 n8 h8 ⟨acts, W, R, W', R', F, y, q', e, wf8, m8, f8, cF, y1, y2, y3, y4, ha0, han⟩
      simp at e
      obtain ⟨rfl, rfl⟩ := e
      exact ⟨l - (i + 1), by simp only [lessN]; omega, i + 1, acts, W, R, W', R', F, y, q', by rw [addW_small (by omega) (by omega)]; rfl, by omega, rfl, wf8, m8, f8, cF, y1, y2, y3, y4, ha0, han⟩
    obtain ⟨x, hx, hin, hc⟩ := step_at (m7.at_ _ (by simp [i0] : Th.arg Stp.enc 9 a l c L0 ∈ _)).1 hlt
    have xok := ok0 x (List.mem_of_getElem? hx)
    refine ⟨hin, x.dO, x.wh, x.no, x.n, x.len, x.b, x.st, x.aa, x.al, x.ac, x.fa, x.fl, x.fc, ⟨rfl, hc.trans rfl⟩, ?_⟩
    intro h8 e8
    obtain ⟨b8, k8, n8, wf8⟩ := new_blk wf7 e8
    obtain ⟨h9, e9, b9, k9, _, n9, wf9⟩ := set_blk wf8 b8 k8 wf7 (Nat.le_refl _) (vs := x.enc) rfl rfl
    have m9 := m7.loc k9 b9 (Nat.le_refl _) wf9
    refine ⟨rfl, h9, e9, rfl, x.dO, ⟨rfl, b9.one rfl⟩, fun _ => rfl, x.dO, fun _ => ⟨rfl, b9.one rfl⟩, fun _ => rfl, x.dO, fun _ => ⟨rfl, b9.one rfl⟩, ?_⟩
    by_cases hdo : x.dO = 1 ∨ x.dO = 2 ∨ x.dO = 3
    rotate_left
    · rw [if_pos (by rw [and_iff, and_iff, neI_iff, neI_iff, neI_iff]; exact ⟨⟨fun h => hdo (.inl h), fun h => hdo (.inr (.inl h))⟩, fun h => hdo (.inr (.inr h))⟩)]
      exact ⟨acts, W, R, W', R', F, y, q', rfl, wf9, m9.sub (List.sublist_cons_self _ _), f7.mono (by omega), cF, y1, y2, y3, y4, ha0, han⟩
    rw [if_neg (by rw [and_iff, and_iff, neI_iff, neI_iff, neI_iff]; rintro ⟨⟨p1, p2⟩, p3⟩; rcases hdo with h | h | h; exact p1 h; exact p2 h; exact p3 h)]
    refine (Many.fork (A := [Th.loc hh.next x.enc]) m9 f7 (by omega)).wf fun v h10 wf10 _ ⟨qt, Wt, e10, m10⟩ => ⟨_, e10, ?_⟩
    simp only [iN]
    rw [if_neg (by simp)]
    have rd : ∀ {hz : Hp} {Lz : List Th}, Many hz Lz → Th.loc hh.next x.enc ∈ Lz → Blk hz hh.next (some hh.next) x.enc := fun m h => (m.at_ _ h).1
    have b10 := rd m10 (by simp)
    refine ⟨x.dO, x.wh, x.no, x.n, x.len, x.b, x.st, x.aa, x.al, x.ac, x.fa, x.fl, x.fc, ⟨rfl, (b10.cells (o := 0) (n := 9) (Nat.le_of_ble_eq_true rfl)).trans rfl⟩, ?_⟩
    refine (Many.run (A := []) m10 fun X => c27 X f7 (by omega) xok).wf fun v h11 wf11 _ ⟨e11, Wt, Rt, m11⟩ => ⟨_, e11, ?_⟩
    refine ⟨fun vals hz => vals = [.int .i64 (if (playD F x).2 = true then acts + 1 else acts)] ∧ hz = h11, ?_, ?_⟩
    · split
      · exact ⟨by rw [addW_small (by omega) (by omega)], rfl⟩
      · exact ⟨rfl, rfl⟩
    rintro n12 h12 ⟨e, rfl⟩
    simp at e; subst e
    have b12 := rd m11 (by simp)
    have cells12 := (b12.cells (o := 0) (n := 9) (Nat.le_of_ble_eq_true rfl)).trans rfl
    have fF' := playD_fit f7 xok
    rcases play_armed (x := y) cF y1 hdo with ⟨p1, p2⟩ | ⟨F', adds, st⟩
    · -- refused ahead of the act
      rw [p1] at m11 ⊢
      rw [if_pos (by rfl)]
      refine ⟨x.dO, x.wh, x.no, x.n, x.len, x.b, x.st, x.aa, x.al, x.ac, x.fa, x.fl, x.fc, ⟨rfl, cells12⟩, ?_⟩
      refine (Many.run (A := [Th.disk qt Wt Rt F, Th.loc hh.next x.enc, Th.disk q' W' R' F]) m11 fun X => c27 X (armed1_fit f7 fy) (by omega) xok).wf fun v h13 wf13 _ ⟨e13, W13, R13, m13⟩ => ⟨_, e13, ?_⟩
      rw [p2] at m13 ⊢
      simp only [eqb, nt, nf]
      refine ⟨fun v hz => v = .int .i64 1 ∧ hz = h13, fun _ => ?_, fun hf => by simp at hf, ?_⟩
      · exact ((Many.disk (A := [Th.disk qt Wt Rt F, Th.loc hh.next x.enc, Th.disk q' W' R' F]) m13).armed (armed1_fit f7 fy)).mono fun v hz ⟨e, e'⟩ => ⟨_, e, rfl, e'⟩
      rintro r14 h14 ⟨e, rfl⟩
      simp at e; subst e
      simp only [nes, ff]
      rw [if_neg (by simp)]
      exact ⟨acts, W13, R13, Wt, Rt, F, y, qt, rfl, wf13, m13.sub (by simp [List.cons_sublist_cons]), f7.mono (by omega), cF, y1, y2, y3, y4, ha0, han⟩
    · have cF' : Calm F' := by have := playD_calm cF x; rwa [st.free] at this
      rw [st.free] at m11 fF' ⊢
      have hless : y.less.left = n - acts := by show subW .i64 y.left 1 = _; rw [y4, subW_small (by omega) (by omega)]; omega
      simp only [if_true, nt]
      by_cases hact : acts + 1 = n + 1
      rotate_left
      · -- the act goes on
        rw [if_pos (by rw [or_iff, neI_iff]; exact .inr hact)]
        refine ⟨x.dO, x.wh, x.no, x.n, x.len, x.b, x.st, x.aa, x.al, x.ac, x.fa, x.fl, x.fc, ⟨rfl, cells12⟩, ?_⟩
        refine (Many.run (A := [Th.disk qt Wt Rt F', Th.loc hh.next x.enc, Th.disk q' W' R' F]) m11 fun X => c27 X (armed1_fit f7 fy) (by omega) xok).wf fun v h13 wf13 _ ⟨e13, W13, R13, m13⟩ => ⟨_, e13, ?_⟩
        rw [st.arm, if_neg (by omega)] at m13 ⊢
        have fy' := armed1_fit (x := y.less) fF' fy
        simp only [eqb, nt, nf]
        refine ⟨fun v hz => v = .int .i64 1 ∧ hz = h13, fun _ => ?_, fun hf => by simp at hf, ?_⟩
        · exact ((Many.disk (A := [Th.disk qt Wt Rt F', Th.loc hh.next x.enc, Th.disk q' W' R' F]) m13).armed fy').mono fun v hz ⟨e, e'⟩ => ⟨_, e, rfl, e'⟩
        rintro r14 h14 ⟨e, rfl⟩
        simp at e; subst e
        simp only [nes, ff]
        rw [if_neg (by simp)]
        exact ⟨acts + 1, W13, R13, Wt, Rt, F', y.less, qt, rfl, wf13, m13.sub (by simp [List.cons_sublist_cons]), fF', cF', y1, y2, y3, by rw [hless]; omega, by omega, by omega⟩
      · -- the arm is due
        rw [if_neg (by rw [or_iff, neI_iff]; simp [hact])]
        have hl0 : y.less.left = 0 := by omega
        have fS := struck_fit f7 xok fy st hl0
        refine ⟨x.dO, x.wh, x.no, x.n, x.len, x.b, x.st, x.aa, x.al, x.ac, x.fa, x.fl, x.fc, ⟨rfl, cells12⟩, ?_⟩
        refine (Many.run (A := [Th.disk qt Wt Rt F', Th.loc hh.next x.enc, Th.disk q' W' R' F]) m11 fun X => c27 X (armed1_fit f7 fy) (by omega) xok).wf fun v h13 wf13 _ ⟨e13, W13, R13, m13⟩ => ⟨_, e13, ?_⟩
        have harm : playD (armed1 F y) x = (if y.pw = true then goesD { F with waits := F.waits ++ adds } y.fates else F, false) := by
          rw [st.arm, if_pos hl0]; split <;> rfl
        rw [harm] at m13 ⊢
        generalize hDS : (if y.pw = true then goesD { F with waits := F.waits ++ adds } y.fates else F) = DS at m13 fS
        have hDarms : DS.arms = [] := by rw [← hDS]; split; rfl; exact cF.arms
        have hDoff : DS.off = pw := by rw [← hDS, ← y2]; split; rename_i h; rw [h]; rfl; rename_i h; rw [cF.on]; simpa using h
        have XS : ∀ {hz}, Kept h13 hz → DAt hz q W13 R13 DS := fun kz => DAt.kept kz (Many.disk (A := [Th.disk qt Wt Rt F', Th.loc hh.next x.enc, Th.disk q' W' R' F]) m13)
        have XF : ∀ {hz}, Kept h13 hz → DAt hz q' W' R' F := fun kz => DAt.kept kz (Many.disk (A := [Th.disk qt Wt Rt F', Th.loc hh.next x.enc]) m13)
        have XT : ∀ {hz}, Kept h13 hz → DAt hz qt Wt Rt F' := fun kz => DAt.kept kz (Many.disk (A := []) m13)
        simp only [nf]
        refine ⟨fun v hz => v = .int .i64 0 ∧ hz = h13, fun _ => ?_, fun hf => by simp at hf, ?_⟩
        · exact ((XS (Keep.refl _ _)).armed fS).mono fun v hz ⟨e, e'⟩ => ⟨_, e, by rw [hDarms]; rfl, e'⟩
        rintro r14 h14 ⟨e, rfl⟩
        simp at e; subst e
        simp only [nes, ff, nf]
        refine ⟨fun v hz => v = .bool (!pw) ∧ hz = h14, fun _ => ?_, fun hf => by simp at hf, ?_⟩
        · exact ((XS (Keep.refl _ _)).on fS).mono fun v hz ⟨e, e'⟩ => ⟨_, e, by rw [hDoff], e'⟩
        rintro r15 h15 ⟨e, rfl⟩
        simp at e; subst e
        have npw : eqB (!pw) pw = false := by cases pw <;> rfl
        simp only [npw, ff]
        rw [if_neg (by simp)]
        by_cases hp : pw = true
        rotate_left
        · -- refused alone
          have hp' : pw = false := by simpa using hp
          rw [if_pos (notB_iff.mpr hp')]
          have hDF : DS = F := by rw [← hDS, if_neg (by rw [y2]; exact hp)]
          subst hDF
          refine two_alike (L := DS.seen) wf13 (fun kz => by have := (XS kz).seenC fS; rwa [sN] at this) (fun kz => by have := (XF kz).seenC f7; rwa [sN] at this) (by omega) fun h16 wf16 k16 => ?_
          refine two_alike_if (L := DS.dur) wf16 rfl (fun kz => (XS (trK wf13 k16 kz)).image fS) (fun kz => (XF (trK wf13 k16 kz)).image f7) (by omega) fun h17 wf17 k17 => ?_
          have k17' := trK wf13 k16 k17
          simp only [tt]
          refine ⟨fun v hz => (∃ s : Sv, v = s.v ∧ s.l = DS.waits.length) ∧ Wf hz ∧ Kept h15 hz, fun _ => ?_, fun hf => by simp at hf, ?_⟩
          · exact ((XS k17').waits fS (by omega)).wf fun v hz wfz _ ⟨s', g', e, o, _, k'⟩ => ⟨_, _, _, e, ⟨s', rfl, by have := o.2; simp at this; omega⟩, wfz, trK wf13 k17' k'⟩
          rintro a18 l18 c18 h18 ⟨⟨s18, e, hl18⟩, wf18, k18⟩
          simp at e
          obtain ⟨rfl, rfl, rfl⟩ := e
          refine ⟨fun v hz => (∃ s : Sv, v = s.v ∧ s.l = DS.waits.length) ∧ Wf hz ∧ Kept h15 hz, fun _ => ?_, fun hf => by simp at hf, ?_⟩
          · exact ((XF k18).waits f7 (by omega)).wf fun v hz wfz _ ⟨s', g', e, o, _, k'⟩ => ⟨_, _, _, e, ⟨s', rfl, by have := o.2; simp at this; omega⟩, wfz, trK wf13 k18 k'⟩
          rintro a19 l19 c19 h19 ⟨⟨s19, e, hl19⟩, wf19, k19⟩
          simp at e
          obtain ⟨rfl, rfl, rfl⟩ := e
          rw [hl18, hl19]
          simp only [eqs, tt]
          have hsy : syncD DS = ({ DS with arms := DS.arms.map (Ar.dec 3), waits := [], dur := DS.seen, sy := addW .i64 DS.sy 1 }, 0) := by
            unfold syncD
            rw [if_neg (by rw [cF.on]; simp), if_neg (by rw [actD_calm cF.arms]; simp)]
          have m19 := m13.kept k19
          have fY := syncD_fit fS
          rw [hsy] at fY
          refine ⟨fun v hz => v = .int .i64 0 ∧ Wf hz ∧ ∃ WY RY, Many hz ([Th.disk qt Wt Rt F', Th.loc hh.next x.enc, Th.disk q' W' R' DS] ++ Th.disk q WY RY { DS with arms := DS.arms.map (Ar.dec 3), waits := [], dur := DS.seen, sy := addW .i64 DS.sy 1 } :: As), fun _ => ?_, fun hf => by simp at hf, ?_⟩
          · refine (Many.run (A := [Th.disk qt Wt Rt F', Th.loc hh.next x.enc, Th.disk q' W' R' DS]) m19 fun X => X.sync fS (by omega)).wf fun v hz wfz _ ⟨e, WY, RY, mY⟩ => ⟨_, e, ?_⟩
            rw [hsy] at mY ⊢
            exact ⟨rfl, wfz, WY, RY, mY⟩
          rintro r20 h20 ⟨e, wf20, WY, RY, mY⟩
          simp at e; subst e
          have XY : ∀ {hz}, Kept h20 hz → DAt hz q WY RY _ := fun kz => DAt.kept kz mY.disk
          have XF' : ∀ {hz}, Kept h20 hz → DAt hz q' W' R' DS := fun kz => DAt.kept kz (Many.disk (A := [Th.disk qt Wt Rt F', Th.loc hh.next x.enc]) mY)
          refine two_alike_if (L := DS.seen) wf20 (by simp only [eqs, tt]) (fun kz => (XY kz).image fY) (fun kz => by have := (XF' kz).seenC f7; rwa [sN] at this) (by omega) fun h21 wf21 k21 => ?_
          rfl
        · -- and the power goes
          subst hp
          rw [if_neg (by simp [notB])]
          have hDG : DS = goesD { F with waits := F.waits ++ adds } F0 := by rw [← hDS, if_pos y2, y3]
          have b13 := rd m13 (by simp)
          refine ⟨rfl, x.dO, ⟨rfl, b13.one rfl⟩, ?_⟩
          have sF13 : SlT encF 1 h15 none fa fl fc F0 := (m13.at_ _ (by simp [i1] : Th.arg encF 1 fa fl fc F0 ∈ _)).1
          by_cases hsync : x.dO = 3
          · rw [if_pos (eqI_iff.mpr hsync)]
            refine (Many.run (A := [Th.disk qt Wt Rt F', Th.loc hh.next x.enc]) m13 fun X => X.crash f7 (by omega) sF13 (by simp) (by omega)).wf fun v h16 wf16 _ ⟨e16, WG, RG, m16⟩ => ⟨_, e16, ?_⟩
            have hcr : crashD F F0 = (goesD F F0, 0) := by unfold crashD; rw [if_neg (by rw [cF.on]; simp)]
            rw [hcr] at m16 ⊢
            have fG : (goesD F F0).fit k M 0 := goesD_fit f7 F0
            have hgM := fG.ok.durL
            have hd : DS.dur = (goesD F F0).dur := by
              rw [hDG, st.sync hsync, List.append_nil]
            refine two_alike_if (L := (goesD F F0).dur) wf16 (eqs 0) (fun kz => by
              have := (DAt.kept kz (Many.disk (A := [Th.disk qt Wt Rt F', Th.loc hh.next x.enc, Th.disk q' WG RG (goesD F F0)]) m16)).image fS
              rwa [hd] at this) (fun kz => (DAt.kept kz (Many.disk (A := [Th.disk qt Wt Rt F', Th.loc hh.next x.enc]) m16)).image fG) (by omega) fun h17 wf17 k17 => ?_
            rfl
          · rw [if_neg (by rw [eqI_iff]; exact hsync)]
            refine (Many.run (A := []) m13 fun X => X.crash fF' (by omega) sF13 (by simp) (by omega)).wf fun v h16 wf16 _ ⟨e16, WG, RG, m16⟩ => ⟨_, e16, ?_⟩
            have hcr : crashD F' F0 = (goesD F' F0, 0) := by unfold crashD; rw [if_neg (by rw [cF'.on]; simp)]
            rw [hcr] at m16 ⊢
            have fG : (goesD F' F0).fit k M 0 := goesD_fit fF' F0
            have hgM := fG.ok.durL
            have hd : DS.dur = (goesD F' F0).dur := by
              obtain ⟨q1, q2⟩ := st.else_ hsync
              rw [hDG]
              show goN F.bytes F0 (F.waits ++ adds) F.dur (F.waits ++ adds).length = goN F'.bytes F0 F'.waits F'.dur F'.waits.length
              rw [q1, q2, st.bytes]
            have htk : DS.taken = 1 := by rw [hDG]; show addW .i64 F.taken 1 = 1; rw [cF.taken]; rfl
            refine two_alike_if (L := (goesD F' F0).dur) wf16 (eqs 0) (fun kz => by
              have := (DAt.kept kz (Many.disk (A := [Th.disk qt WG RG (goesD F' F0), Th.loc hh.next x.enc, Th.disk q' W' R' F]) m16)).image fS
              rwa [hd] at this) (fun kz => (DAt.kept kz (Many.disk (A := []) m16)).image fG) (by omega) fun h17 wf17 k17 => ?_
            simp only [eqs, tt]
            refine ⟨fun v hz => v = .int .i64 1 ∧ hz = h17, fun _ => ?_, fun hf => by simp at hf, ?_⟩
            · exact ((DAt.kept k17 (Many.disk (A := [Th.disk qt WG RG (goesD F' F0), Th.loc hh.next x.enc, Th.disk q' W' R' F]) m16)).takenC fS).mono fun v hz ⟨e, e'⟩ => ⟨_, e, by rw [htk], e'⟩
            rintro r18 h18 ⟨e, rfl⟩
            simp at e; subst e
            rfl
  · rw [if_neg hlt]
    have XS : ∀ {hz}, Kept hh hz → DAt hz q W R (armed1 F y) := fun kz => DAt.kept kz (Many.disk (A := [Th.disk q' W' R' F]) m7)
    have XF : ∀ {hz}, Kept hh hz → DAt hz q' W' R' F := fun kz => DAt.kept kz (Many.disk (A := []) m7)
    have fA := armed1_fit f7 fy
    refine ((XS (Keep.refl _ _)).armed fA).mono fun v h8 ⟨e, e'⟩ => ⟨_, e, ?_⟩
    subst e'
    have e1 : eqI (natI (armed1 F y).arms.length) 1 = true := rfl
    have sA : seenL (armed1 F y) = F.seen := sN
    refine two_alike_if (L := F.seen) wf7 e1 (fun kz => by have := (XS kz).seenC fA; rwa [sA] at this) (fun kz => by have := (XF kz).seenC f7; rwa [sN] at this) (by omega) fun h9 wf9 k9 => ?_
    refine two_alike_if (L := F.dur) wf9 (by rw [e1]; rfl) (fun kz => (XS (trK wf7 k9 kz)).image fA) (fun kz => (XF (trK wf7 k9 kz)).image f7) (by omega) fun h10 wf10 k10 => ?_
    rw [e1]; rfl
end Go.Proofs.Ytfkhjbfddeahaaa.kc
