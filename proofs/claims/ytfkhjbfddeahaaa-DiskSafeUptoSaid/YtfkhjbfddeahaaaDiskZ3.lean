/- DiskSafe. -/
import Derived.Test.YtfkhjbfddeahaaaDiskZ2
import Derived.Test.YtfkhjbfddeahaaaDiskY
set_option linter.unusedVariables false
set_option linter.unusedSimpArgs false
namespace Go.Proofs.Ytfkhjbfddeahaaa.kc
open Go Go.Cn Go.Proofs Go.Proofs.Ytfkhjbfddeahaaa.vc

theorem goN_nil (b : Int) (W : List Wt) (dur : List ByteArray) : ∀ n, goN b [] W dur n = dur
  | 0 => rfl
  | n + 1 => by
    unfold goN
    split
    · unfold goStep; simp [goN_nil b W dur n]
    · exact goN_nil b W dur n

theorem zeros_text (n : Nat) : textB 0 0 n = zeros n := by
  have h : ∀ i, textX 0 0 i = 0 := by
    intro i
    induction i with
    | zero => rfl
    | succ i ih => unfold textX; rw [ih]; rfl
  unfold textB zeros
  congr 2
  apply List.ext_getElem?
  intro i
  rw [List.getElem?_map, List.getElem?_replicate]
  by_cases hi : i < n
  · rw [if_pos hi, List.getElem?_range hi]; simp [h]
  · rw [if_neg hi, List.getElem?_eq_none (by simp; omega)]; rfl

theorem maxI_eq (a b : Int) : maxI a b = max a b := by unfold maxI; split <;> omega
theorem told_enc (x : Wt) : encW x.told = [.int .u8 x.act, .int .u32 x.page, .int .i64 x.pages] := rfl

set_option maxRecDepth 100000 in
theorem c9 {h : Hp} {a : Option Addr} {l c : Nat} {L0 : List Stp} (s0 : SlT Stp.enc 9 h none a l c L0) (ok0 : ∀ s ∈ L0, s.ok) (hl : l ≤ 1048576) {fa : Option Addr} {fl fc : Nat} {F0 : List Int} (sF : SlT encF 1 h none fa fl fc F0) (hfl : fl ≤ 1048576) :
    C 9 [.slice a l c, .slice fa fl fc] h fun v h' => v = .bool true := by
  refine SCalls_of_vw fol (pf := pf) (shp := shp9) (f := 9) (fn := Try.f9) (by kernel_rfl) (c := Try.f9.body.getD .skip) (by kernel_rfl) (by kernel_rfl) fun wf => ?_
  rw [vc9]
  have n7 : neI (0 : Int) 0 = false := rfl
  have ff : sel false true false = false := rfl
  have tt : sel true true false = true := rfl
  have nf : notB false = true := rfl
  have nt : notB true = false := rfl
  have eqs : ∀ n : Int, eqI n n = true := fun n => eqI_iff.mpr rfl
  have nes : ∀ n : Int, neI n n = false := fun n => by rw [Bool.eq_false_iff, Ne, neI_iff]; simp
  have iN : ∀ q, isN (some (Addr.mk q 0 none)) = false := fun _ => rfl
  have hF0 := sF.len
  obtain ⟨k, M, f0, hk8, hM8⟩ := newD_fit (page := 1024) (most := 8) (image := []) (by decide)
  have hM : M = 8 := by omega
  have mA : Many h [Th.arg Stp.enc 9 a l c L0, Th.arg encF 1 fa fl fc F0] := ((Many.nil h).arg sF).arg s0
  generalize hAs : [Th.arg Stp.enc 9 a l c L0, Th.arg encF 1 fa fl fc F0] = As at mA
  have i0 : Th.arg Stp.enc 9 a l c L0 ∈ As := by rw [← hAs]; simp
  have i1 : Th.arg encF 1 fa fl fc F0 ∈ As := by rw [← hAs]; simp
  refine (newDisk (by decide)).wf fun v h1 wf1 _ ⟨k1, q, W1, e1, x1, hW1⟩ => ⟨_, _, e1, ?_⟩
  have m1 : Many h1 (Th.disk q W1 (fun _ => False) (newD 1024 8 []) :: As) := mA.addD wf1 k1 x1 hW1 (by simp)
  simp only [n7, iN, ff, nf]
  refine ⟨fun v hh => v = .bool true ∧ Wf hh ∧ Kept h1 hh, fun _ => ?_, fun hf => by simp at hf, ?_⟩
  · exact (c25 h1).wf fun v h2 wf2 _ ⟨e2, k2⟩ => ⟨_, e2, rfl, wf2, k2⟩
  rintro b h2 ⟨e, wf2, k2⟩
  simp at e; subst e
  simp only [nt, ff]
  rw [if_neg (by simp)]
  have m2 := m1.kept k2
  obtain ⟨h3, e3, w3, k3, wf3⟩ := wr_new wf2
  have m3 := m2.told (enc := encS) (w := 1) (M := []) (Keep.refl _ _) wf2 OwT.nil (.inl rfl)
  have lt0 : ∀ y, wrF h2.next (fun _ => none) y → y = h2.next := fun y hy => by rcases hy with hy | ⟨_, _, hy⟩; exact hy; simp at hy
  have m4 : Many h3 (Th.wr h2.next (List.replicate 8 ⟨none, 0, 0⟩) (fun _ => none) (fun _ => []) :: Th.sl encS 1 none ⟨none, 0, 0⟩ [] :: Th.disk q W1 (fun _ => False) (newD 1024 8 []) :: As) :=
    m3.add k3 w3 (Th.wr_stable (by simp)) (fun _ hy => hy) (fun y hy => by have := lt0 y hy; omega) (fun y hy => .inl (by have := lt0 y hy; omega)) (fun y hy => by have := lt0 y hy; have := w3.1.glt wf3; omega)
  have sf0 : Safe (newD 1024 8 []) [] (fun _ => []) := ⟨⟨rfl, rfl, rfl⟩, rfl, rfl, by simp, by simp [newD], by simp, by simp [newD], fun F hF => rfl, by simp⟩
  refine ⟨_, _, _, h3, e3, fun vals m hh => ∃ (i : Nat) (D : Dk) (S : List ByteArray) (Wr : Nat → List ByteArray) (W R : Nat → Prop) (gS : Option Nat) (sS : Sv) (b : Nat) (H : List Sv) (g : Nat → Option Nat), [sS.v, .slice (some ⟨b, 0, none⟩) 8 8, .int .i64 i] = vals ∧ i ≤ l ∧ m = l - i ∧ Wf hh ∧
      Many hh (Th.wr b H g Wr :: Th.sl encS 1 gS sS S :: Th.disk q W R D :: As) ∧ D.fit k M i ∧ Safe D S Wr ∧ WrSep b H g ∧ ∀ j, (Wr j).length ≤ i,
    ⟨l, 0, _, _, _, _, _, _, ⟨none, 0, 0⟩, _, _, _, rfl, Nat.zero_le _, rfl, wf3, m4, f0, sf0, wr_sep0 _, by simp⟩, ?_⟩
  clear m1 m2 m3 m4 w3 e3 k1 k2 k3 x1 hW1 e1 wf1 wf2 wf3 sf0 lt0
  rintro pa pl pc pb pm pd pi m hh ⟨i, D, S, Wr, W, R, gS, sS, b, H, g, e, hi, rfl, wf4, m4, f4, sf4, sep4, hWr4⟩
  simp at e
  obtain ⟨⟨rfl, rfl, rfl⟩, ⟨rfl, rfl, rfl⟩, rfl⟩ := e
  have trK : ∀ {x y z : Hp}, Wf x → Kept x y → Kept y z → Kept x z := fun w a b => a.trans w b fun _ _ hf => hf
  by_cases hlt : ltI (i : Int) (natI l) = true
  · rw [if_pos hlt]
    have hlt : i < l := by rw [ltI_iff] at hlt; simp only [natI] at hlt; omega
    refine ⟨fun vals hh => ∃ (D : Dk) (S : List ByteArray) (Wr : Nat → List ByteArray) (W R : Nat → Prop) (gS : Option Nat) (sS : Sv) (b : Nat) (H : List Sv) (g : Nat → Option Nat), [sS.v, .slice (some ⟨b, 0, none⟩) 8 8] = vals ∧ Wf hh ∧
      Many hh (Th.wr b H g Wr :: Th.sl encS 1 gS sS S :: Th.disk q W R D :: As) ∧ D.fit k M (i + 1) ∧ Safe D S Wr ∧ WrSep b H g ∧ ∀ j, (Wr j).length ≤ i + 1, ?_, ?_⟩
    rotate_left
    · rintro qa ql qc qb qm qd h5 ⟨D, S, Wr, W, R, gS, sS, b, H, g, e, wf5, m5, f5, sf5, sep5, hWr5⟩
      simp at e
      obtain ⟨⟨rfl, rfl, rfl⟩, ⟨rfl, rfl, rfl⟩⟩ := e
      exact ⟨l - (i + 1), by simp only [lessN]; omega, i + 1, D, S, Wr, W, R, gS, sS, b, H, g, by rw [addW_small (by omega) (by omega)]; rfl, by omega, rfl, wf5, m5, f5, sf5, sep5, hWr5⟩
    obtain ⟨x, hx, hin, hc⟩ := step_at (m4.at_ _ (by simp [i0] : Th.arg Stp.enc 9 a l c L0 ∈ _)).1 hlt
    have xok := ok0 x (List.mem_of_getElem? hx)
    refine ⟨hin, x.dO, x.wh, x.no, x.n, x.len, x.b, x.st, x.aa, x.al, x.ac, x.fa, x.fl, x.fc, ⟨rfl, hc.trans rfl⟩, ?_⟩
    intro h5 e5
    obtain ⟨b5, k5, n5, wf5⟩ := new_blk wf4 e5
    obtain ⟨h6, e6, b6, k6, _, n6, wf6⟩ := set_blk wf5 b5 k5 wf4 (Nat.le_refl _) (vs := x.enc) rfl rfl
    have m6 := (m4.loc k6 b6 (Nat.le_refl _) wf6).rot3
    refine ⟨rfl, h6, e6, x.dO, x.wh, x.no, x.n, x.len, x.b, x.st, x.aa, x.al, x.ac, x.fa, x.fl, x.fc, ⟨rfl, (b6.cells (o := 0) (n := 9) (Nat.le_of_ble_eq_true rfl)).trans rfl⟩, ?_⟩
    refine (Many.run (A := [Th.wr b H g Wr, Th.sl encS 1 gS sS S, Th.loc hh.next x.enc]) m6 fun X => c27 X f4 (by omega) xok).wf fun v h7 wf7 _ ⟨e7, W7, R7, m7⟩ => ⟨_, e7, ?_⟩
    have f7 := playD_fit f4 xok
    obtain ⟨ps1, ps2, ps3⟩ := playD_safe sf4 x xok
    have rd : ∀ {hz : Hp} {Lz : List Th}, Many hz Lz → Th.loc hh.next x.enc ∈ Lz → Blk hz hh.next (some hh.next) x.enc := fun m h => (m.at_ _ h).1
    have hrm := rem8 xok.no0
    refine ⟨fun vals hz => ∃ (S : List ByteArray) (Wr : Nat → List ByteArray) (W R : Nat → Prop) (gS : Option Nat) (sS : Sv) (b : Nat) (H : List Sv) (g : Nat → Option Nat), [sS.v, .slice (some ⟨b, 0, none⟩) 8 8] = vals ∧ Wf hz ∧
      Many hz (Th.wr b H g Wr :: Th.sl encS 1 gS sS S :: Th.loc hh.next x.enc :: Th.disk q W R (playD D x).1 :: As) ∧ WrSep b H g ∧ (∀ j, (Wr j).length ≤ i) ∧
      (x.dO = 1 → (playD D x).2 = true → Safe (playD D x).1 S (fun i => if i = (remW x.no 8).toNat then Wr i ++ [textB x.b x.st (textN x.len 1024)] else Wr i)) ∧ (¬ (x.dO = 1 ∧ (playD D x).2 = true) → Safe (playD D x).1 S Wr), ?_, ?_⟩
    · have b7 := rd m7 (by simp)
      refine ⟨rfl, x.dO, ⟨rfl, b7.one rfl⟩, ?_⟩
      by_cases h3 : x.dO = 3
      · obtain ⟨q1, q2, q3⟩ := ps1 h3
        rw [if_pos (eqI_iff.mpr h3), q1, if_neg (by simp [notB])]
        refine ((Many.disk (A := [Th.wr b H g Wr, Th.sl encS 1 gS sS S, Th.loc hh.next x.enc]) m7).seenC f7).wf fun v h8 wf8 _ ⟨s8, g8, e8, o8, mm8, k8⟩ => ⟨_, _, _, e8, ?_⟩
        rw [q3] at o8
        have m8 := m7.told k8 wf8 o8 mm8
        obtain ⟨h9, e9, w9, k9, wf9⟩ := wr_new wf8
        have lt0 : ∀ y, wrF h8.next (fun _ => none) y → y = h8.next := fun y hy => by rcases hy with hy | ⟨_, _, hy⟩; exact hy; simp at hy
        have m9 : Many h9 (Th.wr h8.next (List.replicate 8 ⟨none, 0, 0⟩) (fun _ => none) (fun _ => []) :: _) :=
          m8.add k9 w9 (Th.wr_stable (by simp)) (fun _ hy => hy) (fun y hy => by have := lt0 y hy; omega) (fun y hy => .inl (by have := lt0 y hy; omega)) (fun y hy => by have := lt0 y hy; have := w9.1.glt wf9; omega)
        refine ⟨_, _, _, h9, e9, D.seen, fun _ => [], W7, R7, g8, s8, h8.next, _, _, rfl, wf9, m9.sub ?_, wr_sep0 _, by simp, fun h => by omega, fun _ => q2⟩
        exact List.Sublist.cons_cons _ (List.Sublist.cons_cons _ (List.Sublist.cons _ (List.Sublist.cons _ (List.Sublist.refl _))))
      · rw [if_neg (by rw [eqI_iff]; exact h3)]
        exact ⟨S, Wr, W7, R7, gS, sS, b, H, g, rfl, wf7, m7, sep4, hWr4, ps2, ps3 h3⟩
    · clear m4 m6 m7 ps1 ps2 ps3 sf4 sep4 hWr4
      rintro qa ql qc qb qm qd h8 ⟨S, Wr, W8, R8, gS, sS, b, H, g, e, wf8, m8, sep8, hWr8, q2, q3⟩
      simp at e
      obtain ⟨⟨rfl, rfl, rfl⟩, ⟨rfl, rfl, rfl⟩⟩ := e
      have b8 := rd m8 (by simp)
      refine ⟨rfl, x.dO, ⟨rfl, b8.one rfl⟩, ?_⟩
      have drop : ∀ {hz : Hp} {b : Nat} {H : List Sv} {g : Nat → Option Nat} {Wr : Nat → List ByteArray}, Many hz (Th.wr b H g Wr :: Th.sl encS 1 gS sS S :: Th.loc hh.next x.enc :: Th.disk q W8 R8 (playD D x).1 :: As) → Many hz (Th.wr b H g Wr :: Th.sl encS 1 gS sS S :: Th.disk q W8 R8 (playD D x).1 :: As) := fun m =>
        m.sub (List.Sublist.cons_cons _ (List.Sublist.cons_cons _ (List.Sublist.cons _ (List.Sublist.refl _))))
      by_cases hw : x.dO = 1 ∧ (playD D x).2 = true
      · rw [if_pos (by rw [and_iff, eqI_iff]; exact hw)]
        have hno : (remW x.no 8).toNat < 8 := by omega
        have etw : toW .i64 (remW x.no 8) = remW x.no 8 := toW_i64 (by omega) (by omega)
        generalize hnn : (remW x.no 8).toNat = no at hno
        have hs : H[no]? = some (H[no]'(by rw [sep8.len]; exact hno)) := List.getElem?_eq_getElem _
        generalize H[no]'(by rw [sep8.len]; exact hno) = s at hs
        have P8 : WrP b H g Wr h8 := (m8.at_ (Th.wr b H g Wr) (by simp)).1
        have cell : ∀ {hz : Hp}, WrP b H g Wr hz → hz.cellsAt b no 1 = some [s.v] := fun P => P.1.one (by rw [List.getElem?_map, hs]; rfl)
        have hofs : plusI (off (some ⟨b, 0, none⟩)) (remW x.no 8) 1 = no := by simp [plusI, off, hnn]
        have hsl : s.l ≤ i := by rw [← (P8.2 no s hs).2]; exact hWr8 no
        refine ⟨rfl, x.no, ⟨rfl, b8.one rfl⟩, by simp [nonzero], ?_⟩
        rw [etw]
        refine ⟨⟨rfl, by simp only [inR]; omega⟩, s.a, s.l, s.c, ⟨rfl, by rw [hofs]; exact cell P8⟩, rfl, x.len, x.b, x.st, ⟨rfl, (b8.cells (o := 4) (n := 3) (Nat.le_of_ble_eq_true rfl)).trans rfl⟩, ?_⟩
        refine (c29 _ (by omega)).wf fun v h9 wf9 _ ⟨e9, k9⟩ => ⟨_, e9, ?_⟩
        have m9 := m8.kept k9
        have P9 : WrP b H g Wr h9 := (m9.at_ (Th.wr b H g Wr) (by simp)).1
        refine ⟨⟨rfl, by rw [hofs]; exact cell P9⟩, ?_⟩
        intro h10 e10
        obtain ⟨_, k10, _, wf10⟩ := new_blk wf9 e10
        have P10 : WrP b H g Wr h10 := WrP.keep sep8.len k10 (fun _ _ hf => hf) P9
        refine ⟨⟨rfl, by rw [hofs]; exact cell P10⟩, ?_⟩
        obtain ⟨a', m', n', h11, h12, g', e11, e12, P12, sep12, nw, k12, wf12⟩ := wr_append wf9 P9 sep8 hs (by omega) e10
        refine ⟨a', m', n', h11, e11, ⟨rfl, by simp only [inR]; omega⟩, rfl, h12, by rw [hofs]; exact e12, ?_⟩
        have hgF : ∀ y, wrF b (fun i => if i = no then g' else g i) y → wrF b g y ∨ h9.next ≤ y := by
          intro y hy
          rcases hy with hy | ⟨j, hj, hy⟩
          · exact .inl (.inl hy)
          · simp only at hy
            split at hy
            · rcases nw with rfl | ⟨z, rfl, hz⟩
              · exact .inl (.inr ⟨no, hno, hy⟩)
              · simp at hy; subst hy; exact .inr hz
            · exact .inl (.inr ⟨j, hj, hy⟩)
        have m12 := Many.op (A := []) m9 (t' := Th.wr b (H.set no ⟨a', m', n'⟩) (fun i => if i = no then g' else g i) (fun i => if i = no then Wr i ++ [textB x.b x.st (textN x.len 1024)] else Wr i)) k12 P12 (Th.wr_stable sep12.len) (fun _ hy => hy) hgF hgF (P12.lt sep12.len wf12)
        refine ⟨(playD D x).1, S, _, W8, R8, gS, sS, b, _, _, rfl, wf12, drop m12, f7, ?_, sep12, fun j => ?_⟩
        · have := q2 hw.1 hw.2
          rw [hnn] at this
          exact this
        · have := hWr8 j
          split
          · rw [List.length_append]; simp; omega
          · omega
      · rw [if_neg (by rw [and_iff, eqI_iff]; exact hw)]
        exact ⟨(playD D x).1, S, Wr, W8, R8, gS, sS, b, H, g, rfl, wf8, drop m8, f7, q3 hw, sep8, fun j => by have := hWr8 j; omega⟩
  · rw [if_neg hlt]
    have hil : i = l := by rw [ltI_iff] at hlt; simp only [natI] at hlt; omega
    subst hil
    have cD := sf4.calm
    have hMs := f4.ok.seenL
    have hMd := f4.ok.durL
    have hSs := sf4.len
    have sN : seenL D = D.seen := by unfold seenL; rw [if_neg (by rw [cD.on]; simp)]
    have hbytes := sf4.bytes
    refine ((Many.disk (A := [Th.wr b H g Wr, Th.sl encS 1 gS sS S]) m4).seenC f4).wf fun v h5 wf5 _ ⟨s5, g5, e5, o5, mm5, k5⟩ => ⟨_, _, _, e5, ?_⟩
    rw [sN] at o5
    have m5 := m4.told k5 wf5 o5 mm5
    refine ((Many.disk (A := [Th.sl encS 1 g5 s5 D.seen, Th.wr b H g Wr, Th.sl encS 1 gS sS S]) m5).waits f4 (by omega)).wf fun v h6 wf6 _ ⟨s6, g6, e6, o6, mm6, k6⟩ => ⟨_, _, _, e6, ?_⟩
    have m6 := m5.told k6 wf6 o6 mm6
    refine (Many.fork (A := [Th.sl encW 3 g6 s6 (D.waits.map Wt.told), Th.sl encS 1 g5 s5 D.seen, Th.wr b H g Wr, Th.sl encS 1 gS sS S]) m6 f4 (by omega)).wf fun v h7 wf7 _ ⟨q1, W7, e7, m7⟩ => ⟨_, e7, ?_⟩
    refine (Many.fork (A := [Th.disk q1 W7 R D, Th.sl encW 3 g6 s6 (D.waits.map Wt.told), Th.sl encS 1 g5 s5 D.seen, Th.wr b H g Wr, Th.sl encS 1 gS sS S]) m7 f4 (by omega)).wf fun v h8 wf8 _ ⟨q2, W8, e8, m8⟩ => ⟨_, e8, ?_⟩
    simp only [iN, ff, nf]
    have hcr : ∀ F, crashD D F = (goesD D F, 0) := fun F => by unfold crashD; rw [if_neg (by rw [cD.on]; simp)]
    have fG : ∀ F, (goesD D F).fit k M 0 := fun F => goesD_fit f4 F
    have dG : ∀ F, (goesD D F).dur = goN 1024 F D.waits S D.waits.length := fun F => by show goN D.bytes F D.waits D.dur D.waits.length = _; rw [hbytes, sf4.dur]
    have dL : ∀ F, (goesD D F).dur.length ≤ 8589934592 := fun F => by have := (fG F).ok.durL; omega
    refine ⟨fun v hz => v = .int .i64 0 ∧ Wf hz ∧ ∃ W' R', Many hz (Th.disk q2 W8 R D :: Th.disk q1 W' R' (goesD D []) :: [Th.sl encW 3 g6 s6 (D.waits.map Wt.told), Th.sl encS 1 g5 s5 D.seen, Th.wr b H g Wr, Th.sl encS 1 gS sS S] ++ Th.disk q W R D :: As), fun _ => ?_, fun hf => by simp at hf, ?_⟩
    · refine (Many.run (A := [Th.disk q2 W8 R D]) m8 fun X => X.crash f4 (by omega) (SlT.nil h8 none) (by simp) (by simp)).wf fun v hz wfz _ ⟨e, W', R', mz⟩ => ⟨_, e, ?_⟩
      rw [hcr] at mz ⊢
      exact ⟨rfl, wfz, W', R', mz⟩
    rintro r9 h9 ⟨e, wf9, W9, R9, m9⟩
    simp at e; subst e
    have S9 : OwT encS 1 h9 gS sS S := (m9.at_ (Th.sl encS 1 gS sS S) (by simp)).1
    have dS : (goesD D []).dur = S := by rw [dG, goN_nil]
    simp only [n7, ff, nf]
    refine told_alike_if (L := S) wf9 (by simp) (by simp) (by
      have := (Many.disk (A := [Th.disk q2 W8 R D]) m9).image (fG [])
      rwa [dS] at this) S9.slT (by omega) fun h10 wf10 k10 => ?_
    simp only [nt, ff]
    rw [if_neg (by simp)]
    have m10 := m9.kept k10
    -- the fates that let all come
    have hlw : s6.l = D.waits.length := by have := o6.2; simp at this; omega
    have hwN := f4.waits
    refine ⟨fun vals m hz => ∃ (j : Nat) (sv : Sv) (g' : Option Nat), [sv.v, .int .i64 j] = vals ∧ j ≤ s6.l ∧ m = s6.l - j ∧ Wf hz ∧ OwT encF 1 hz g' sv (List.replicate j 255) ∧ (g' = none ∨ ∃ y, g' = some y ∧ h10.next ≤ y) ∧ Kept h10 hz,
      ⟨s6.l, 0, ⟨none, 0, 0⟩, none, rfl, Nat.zero_le _, rfl, wf10, OwT.nil, .inl rfl, Keep.refl _ _⟩, ?_⟩
    rintro ra rl rc rn m h11 ⟨j, sv, g', e, hj, rfl, wf11, o11, mm11, k11⟩
    simp at e
    obtain ⟨⟨rfl, rfl, rfl⟩, rfl⟩ := e
    have hsl : sv.l = j := by rw [← o11.2]; simp
    by_cases hlt2 : ltI (j : Int) (natI s6.l) = true
    · rw [if_pos hlt2]
      have hlt2 : j < s6.l := by rw [ltI_iff] at hlt2; simp only [natI] at hlt2; omega
      intro h12 e12
      obtain ⟨a13, c13, g13, h13, e13, o13, nw13, k13, wf13⟩ := Ow.append1 wf11 app36 o11.1 e12 rfl rfl (room (by omega) (by omega))
      refine ⟨a13, _, c13, h13, e13, s6.l - (j + 1), by simp only [lessN]; omega, j + 1, ⟨a13, sv.l + 1, c13⟩, g13, by rw [addW_small (by omega) (by omega)]; rfl, by omega, rfl, wf13, ⟨?_, ?_⟩, ?_, ?_⟩
      · rw [List.replicate_succ', List.flatMap_append]; exact o13
      · simp; omega
      · rcases nw13 with rfl | ⟨y, rfl, hy⟩
        · exact mm11
        · exact .inr ⟨y, rfl, by have := k11.next; omega⟩
      · refine k11.trans wf10 k13 fun y hy he => ?_
        rcases mm11 with rfl | ⟨z, rfl, hz⟩
        · simp at he
        · simp at he; omega
    rw [if_neg hlt2]
    have hjl : j = D.waits.length := by rw [ltI_iff] at hlt2; simp only [natI] at hlt2; omega
    have m11 := m10.kept k11
    have w2lt := (Many.disk (A := []) m10).wlt wf10
    have dN : (goesD D (List.replicate j 255)).dur = D.seen := by
      rw [dG]
      exact sf4.all _ fun i hi => by rw [List.getElem?_replicate, if_pos (by omega)]
    refine (Many.run (A := []) m11 fun X => X.crash f4 (by omega) o11.slT (fun y hy => ⟨fun hw => by
      rcases mm11 with rfl | ⟨z, rfl, hz⟩
      · simp at hy
      · simp at hy; have := w2lt _ hw; omega, o11.1.glt wf11 y hy⟩) (by simp; omega)).wf fun v h12 wf12 _ ⟨e12, W12, R12, m12⟩ => ⟨_, e12, ?_⟩
    rw [hcr] at m12 ⊢
    have S12 : OwT encS 1 h12 g5 s5 D.seen := (m12.at_ (Th.sl encS 1 g5 s5 D.seen) (by simp)).1
    simp only [n7, ff, nf]
    refine told_alike_if (L := D.seen) wf12 (by simp) (by simp) (by
      have := (Many.disk (A := []) m12).image (fG (List.replicate j 255))
      rwa [dN] at this) S12.slT (by omega) fun h13 wf13 k13 => ?_
    have m13 := m12.kept k13
    simp only [nt, ff, nf]
    generalize hD2 : goesD D (List.replicate j 255) = D2 at m13
    generalize hD1 : goesD D [] = D1 at m13
    generalize hDF : goesD D F0 = DF
    have fF : DF.fit k M 0 := by rw [← hDF]; exact fG F0
    have dF : DF.dur = goN 1024 F0 D.waits S D.waits.length := by rw [← hDF]; exact dG F0
    have sF13 : SlT encF 1 h13 none fa fl fc F0 := (m13.at_ _ (by simp [i1] : Th.arg encF 1 fa fl fc F0 ∈ _)).1
    refine ⟨fun v hz => v = .int .i64 0 ∧ Wf hz ∧ ∃ W' R', Many hz (Th.disk q2 W12 R12 D2 :: Th.disk q1 W9 R9 D1 :: [Th.sl encW 3 g6 s6 (D.waits.map Wt.told), Th.sl encS 1 g5 s5 D.seen, Th.wr b H g Wr, Th.sl encS 1 gS sS S] ++ Th.disk q W' R' DF :: As), fun _ => ?_, fun hf => by simp at hf, ?_⟩
    · refine (Many.run (A := [Th.disk q2 W12 R12 D2, Th.disk q1 W9 R9 D1, Th.sl encW 3 g6 s6 (D.waits.map Wt.told), Th.sl encS 1 g5 s5 D.seen, Th.wr b H g Wr, Th.sl encS 1 gS sS S]) m13 fun X => X.crash f4 (by omega) sF13 (by simp) (by omega)).wf fun v hz wfz _ ⟨e, W', R', mz⟩ => ⟨_, e, ?_⟩
      rw [hcr, hDF] at mz
      rw [hcr]
      exact ⟨rfl, wfz, W', R', mz⟩
    rintro r14 h14 ⟨e, wf14, W14, R14, m14⟩
    simp at e; subst e
    simp only [n7, ff]
    rw [if_neg (by simp)]
    have m14' : Many h14 (Th.sl encW 3 g6 s6 (D.waits.map Wt.told) :: Th.wr b H g Wr :: Th.sl encS 1 gS sS S :: Th.disk q W14 R14 DF :: As) := by
      refine m14.sub (List.Sublist.cons _ (List.Sublist.cons _ (List.Sublist.cons_cons _ (List.Sublist.cons _ (List.Sublist.refl _)))))
    refine ((Many.disk (A := [Th.sl encW 3 g6 s6 (D.waits.map Wt.told), Th.wr b H g Wr, Th.sl encS 1 gS sS S]) m14').image fF).wf fun v h15 wf15 _ ⟨s15, g15, e15, o15, mm15, k15⟩ => ⟨_, _, _, e15, ?_⟩
    have m15 := m14'.told k15 wf15 o15 mm15
    have left := sf4.left F0 D.waits.length (Nat.le_refl _)
    rw [← dF] at left
    have hsl15 : s15.l = DF.dur.length := o15.2.symm
    have hs5 : s5.l = D.seen.length := o5.2.symm
    have hsS : sS.l = S.length := S9.2.symm
    have Wt15 : OwT encW 3 h15 g6 s6 (D.waits.map Wt.told) := (m15.at_ (Th.sl encW 3 g6 s6 (D.waits.map Wt.told)) (by simp)).1
    have sF15 : SlT encF 1 h15 none fa fl fc F0 := (m15.at_ _ (by simp [i1] : Th.arg encF 1 fa fl fc F0 ∈ _)).1
    clear m4 m5 m6 m7 m8 m9 m10 m11 m12 m13 m14 m14' o5 o6 o11 S9 S12 sF13
    -- how long the image is
    refine ⟨fun vals m hz => ∃ j : Nat, [.int .i64 (longN F0 D.waits S.length j), .int .i64 j] = vals ∧ j ≤ D.waits.length ∧ j ≤ F0.length ∧ m = D.waits.length - j ∧ h15 = hz, ⟨_, 0, by rw [hsS]; rfl, Nat.zero_le _, Nat.zero_le _, rfl, rfl⟩, ?_⟩
    rintro lg rj m hz ⟨j, e, hjw, hjf, rfl, rfl⟩
    simp at e
    obtain ⟨rfl, rfl⟩ := e
    by_cases hlt3 : j < D.waits.length ∧ j < F0.length
    · rw [if_pos (by rw [and_iff, ltI_iff, ltI_iff]; simp only [natI]; omega)]
      have hzw : D.waits[j]? = some (D.waits[j]'(hlt3.1)) := List.getElem?_eq_getElem _
      generalize D.waits[j]'(hlt3.1) = z at hzw
      have hzt : (D.waits.map Wt.told)[j]? = some z.told := by rw [List.getElem?_map, hzw]; rfl
      have hzf : F0[j]? = some (F0[j]'(hlt3.2)) := List.getElem?_eq_getElem _
      generalize F0[j]'(hlt3.2) = f at hzf
      obtain ⟨p1, p2⟩ := sF15.get encF_w hzf (j := 0) (m := 1) (by omega)
      obtain ⟨t1, t2⟩ := Wt15.slT.get encW_w hzt (j := 0) (m := 1) (by omega)
      obtain ⟨_, t3⟩ := Wt15.slT.get encW_w hzt (j := 1) (m := 1) (by omega)
      obtain ⟨_, t4⟩ := Wt15.slT.get encW_w hzt (j := 2) (m := 1) (by omega)
      have hinw : inR (j : Int) s6.l := by simp only [inR]; omega
      have hinf : inR (j : Int) fl := by simp only [inR]; omega
      have hzok := sf4.waits z (List.mem_of_getElem? hzw)
      have hlong : longN F0 D.waits S.length (j + 1) = (if f ≠ 0 ∧ z.act = 1 then max (if f ≠ 0 ∧ z.act = 2 then max (longN F0 D.waits S.length j) z.pages else longN F0 D.waits S.length j) (z.page + 1) else (if f ≠ 0 ∧ z.act = 2 then max (longN F0 D.waits S.length j) z.pages else longN F0 D.waits S.length j)) := by
        rw [longN, hzf, hzw]
      refine ⟨fun vals hz => [.int .i64 (longN F0 D.waits S.length (j + 1))] = vals ∧ h15 = hz, ⟨fun vals hz => [.int .i64 (if f ≠ 0 ∧ z.act = 2 then max (longN F0 D.waits S.length j) z.pages else longN F0 D.waits S.length j)] = vals ∧ h15 = hz, ?_, ?_⟩, ?_⟩
      · refine ⟨⟨p1, hinf⟩, f, ⟨rfl, p2.trans rfl⟩, fun _ => ⟨t1, hinw⟩, fun _ => rfl, z.act, fun _ => ⟨rfl, t2.trans rfl⟩, ?_⟩
        by_cases hc : f ≠ 0 ∧ z.act = 2
        · rw [if_pos (by rw [and_iff, neI_iff, eqI_iff]; exact hc)]
          refine ⟨⟨t1, hinw⟩, rfl, z.pages, ⟨rfl, t4.trans rfl⟩, ?_⟩
          rw [maxI_eq, if_pos hc]; exact ⟨rfl, rfl⟩
        · rw [if_neg (by rw [and_iff, neI_iff, eqI_iff]; exact hc), if_neg hc]; exact ⟨rfl, rfl⟩
      · rintro n2 hz2 ⟨e, rfl⟩
        simp only [List.cons.injEq, Value.int.injEq, true_and, and_true] at e
        subst e
        refine ⟨⟨p1, hinf⟩, f, ⟨rfl, p2.trans rfl⟩, fun _ => ⟨t1, hinw⟩, fun _ => rfl, z.act, fun _ => ⟨rfl, t2.trans rfl⟩, ?_⟩
        by_cases hc : f ≠ 0 ∧ z.act = 1
        · have hpg : 0 ≤ z.page ∧ z.page < 8 := by rcases hzok with ⟨_, h1, h2, _⟩ | ⟨h1, _⟩; exact ⟨h1, h2⟩; omega
          rw [if_pos (by rw [and_iff, neI_iff, eqI_iff]; exact hc)]
          refine ⟨⟨t1, hinw⟩, rfl, z.page, ⟨rfl, t3.trans rfl⟩, ?_⟩
          rw [toW_i64 (by omega) (by omega), addW_small (by omega) (by omega), maxI_eq, hlong, if_pos hc]; exact ⟨rfl, rfl⟩
        · rw [if_neg (by rw [and_iff, neI_iff, eqI_iff]; exact hc), hlong, if_neg hc]; exact ⟨rfl, rfl⟩
      · rintro n2 hz2 ⟨e, rfl⟩
        simp only [List.cons.injEq, Value.int.injEq, true_and, and_true] at e
        subst e
        exact ⟨D.waits.length - (j + 1), by simp only [lessN]; omega, j + 1, by rw [addW_small (by omega) (by omega)]; rfl, by omega, by omega, rfl, rfl⟩
    rw [if_neg (by rw [and_iff, ltI_iff, ltI_iff]; simp only [natI]; omega)]
    have hstop : longN F0 D.waits S.length D.waits.length = longN F0 D.waits S.length j := by
      by_cases hjW : j = D.waits.length
      · rw [hjW]
      · exact longN_stop (by omega) _ hjw
    have hlen := left.len
    rw [hstop] at hlen
    have hhi := left.hi
    rw [if_neg (by rw [or_iff, neI_iff, gtI_iff]; simp only [natI]; omega)]
    refine (c29 h15 (by omega)).wf fun v h16 wf16 _ ⟨e16, k16⟩ => ⟨_, e16, ?_⟩
    have hblank : textB (Int.ofNat 0) (Int.ofNat 0) (textN (-1) 1024) = z1024 := zeros_text 1024
    rw [hblank]
    have m16 := m15.kept k16
    have I16 : OwT encS 1 h16 g15 s15 DF.dur := (m16.at_ (Th.sl encS 1 g15 s15 DF.dur) (by simp)).1
    have P16 : WrP b H g Wr h16 := (m16.at_ (Th.wr b H g Wr) (by simp)).1
    have S16 : OwT encS 1 h16 gS sS S := (m16.at_ (Th.sl encS 1 gS sS S) (by simp)).1
    have hdur8 : DF.dur.length ≤ 8 := by have := fF.ok.durL; omega
    refine ⟨fun vals m hz => ∃ no : Nat, [.int .i64 no] = vals ∧ no ≤ DF.dur.length ∧ m = DF.dur.length - no ∧ h16 = hz, ⟨_, 0, rfl, Nat.zero_le _, rfl, rfl⟩, ?_⟩
    rintro rn m hz ⟨no, e, hno, rfl, rfl⟩
    simp at e; subst e
    by_cases hlt4 : ltI (no : Int) (natI s15.l) = true
    · rw [if_pos hlt4]
      have hlt4 : no < DF.dur.length := by rw [ltI_iff] at hlt4; simp only [natI] at hlt4; omega
      have hx : DF.dur[no]? = some (DF.dur[no]) := List.getElem?_eq_getElem _
      generalize DF.dur[no] = x at hx
      have hxs := left.size no x hx
      have hxn := left.none no x hx
      have hxq := left.secs no x hx
      obtain ⟨p1, p2⟩ := I16.slT.get encS_w hx (j := 0) (m := 1) (by omega)
      have hin : inR (no : Int) s15.l := by simp only [inR]; omega
      refine ⟨fun vals hz => [.string (oldAt S no)] = vals ∧ h16 = hz, ?_, ?_⟩
      · by_cases hSn : ltI (no : Int) (natI sS.l) = true
        · rw [if_pos hSn]
          have hSn : no < S.length := by rw [ltI_iff] at hSn; simp only [natI] at hSn; omega
          have hy : S[no]? = some (S[no]) := List.getElem?_eq_getElem _
          have hold : oldAt S no = S[no] := by unfold oldAt; rw [hy]; rfl
          generalize S[no] = y at hy hold
          obtain ⟨u1, u2⟩ := S16.slT.get encS_w hy (j := 0) (m := 1) (by omega)
          exact ⟨⟨u1, by simp only [inR]; omega⟩, y, ⟨rfl, u2.trans rfl⟩, by rw [hold], rfl⟩
        · rw [if_neg hSn]
          have hSn : ¬ no < S.length := by rw [ltI_iff] at hSn; simp only [natI] at hSn; omega
          have hold : oldAt S no = z1024 := by unfold oldAt; rw [List.getElem?_eq_none (by omega)]; rfl
          exact ⟨by rw [hold], rfl⟩
      · rintro so hz ⟨e, rfl⟩
        simp only [List.cons.injEq, Value.string.injEq, and_true] at e
        subst e
        have hosz : (oldAt S no).size = 1024 := by
          unfold oldAt
          cases hSS : S[no]? with
          | none => exact zeros_size 1024
          | some y => exact sf4.szS y (List.mem_of_getElem? hSS)
        have hs : H[no]? = some (H[no]'(by rw [sep4.len]; omega)) := List.getElem?_eq_getElem _
        generalize H[no]'(by rw [sep4.len]; omega) = s at hs
        have cell : h16.cellsAt b (plusI (off (some ⟨b, 0, none⟩)) (no : Int) 1) 1 = some [s.v] := by
          have hofs : plusI (off (some ⟨b, 0, none⟩)) (no : Int) 1 = no := by simp [plusI, off]
          rw [hofs]; exact P16.1.one (by rw [List.getElem?_map, hs]; rfl)
        have hsw := P16.2 no s hs
        have hwl : s.l = (Wr no).length := hsw.2.symm
        have hin8 : inR (no : Int) 8 := by simp only [inR]; omega
        have e1024 : neI (natI (lenS x)) 1024 = false := by rw [Bool.eq_false_iff, Ne, neI_iff]; simp only [natI, lenS, hxs]; omega
        refine ⟨⟨p1, hin⟩, x, ⟨rfl, p2.trans rfl⟩, fun _ => ⟨rfl, hin8⟩, s.a, s.l, s.c, fun _ => ⟨rfl, cell⟩, fun _ => ⟨p1, hin⟩, x, fun _ => ⟨rfl, p2.trans rfl⟩, ?_⟩
        rw [if_neg]
        rotate_left
        · rw [or_iff, e1024, and_iff, eqI_iff, notB_iff]
          rintro (h1 | ⟨h1, h2⟩)
          · simp at h1
          · have hw0 : Wr no = [] := List.eq_nil_of_length_eq_zero (by simp only [natI] at h1; omega)
            rw [hxn hw0, (eq_iff _ _).mpr rfl] at h2
            simp at h2
        refine ⟨fun vals m hz => ∃ s : Nat, [.int .i64 s] = vals ∧ s ≤ 8 ∧ m = 8 - s ∧ h16 = hz, ⟨_, 0, rfl, by omega, rfl, rfl⟩, ?_⟩
        rintro rs m hz ⟨t, e, ht, rfl, rfl⟩
        simp at e; subst e
        by_cases hlt5 : ltI (t : Int) 8 = true
        · rw [if_pos hlt5]
          have hlt5 : t < 8 := by rw [ltI_iff] at hlt5; omega
          refine ⟨⟨p1, hin⟩, x, ⟨rfl, p2.trans rfl⟩, ⟨rfl, hin8⟩, s.a, s.l, s.c, ⟨rfl, cell⟩, ?_⟩
          refine (c35 hsw.slT (by have := hWr4 no; omega) hlt5 hxs hosz (sf4.szW no) (hxq t hlt5)).mono fun v hz ⟨e, e'⟩ => ⟨_, e, ?_⟩
          subst e'
          rw [if_neg (by simp [notB])]
          exact ⟨8 - (t + 1), by simp only [lessN]; omega, t + 1, by rw [addW_small (by omega) (by omega)]; rfl, by omega, rfl, rfl⟩
        · rw [if_neg hlt5]
          exact ⟨DF.dur.length - (no + 1), by simp only [lessN]; omega, no + 1, by rw [addW_small (by omega) (by omega)]; rfl, by omega, rfl, rfl⟩
    rw [if_neg hlt4]
    have hDFo : DF.off = true := by rw [← hDF]; rfl
    have hwk : wakeD DF = ({ DF with off := false, life := addW .i64 DF.life 1 }, 0) := by unfold wakeD; rw [if_pos hDFo]
    have fK := wakeD_fit fF
    rw [hwk] at fK
    have hDFs : DF.seen = DF.dur := by rw [← hDF]; rfl
    have hDFw : DF.waits = [] := by rw [← hDF]; rfl
    refine (Many.run (A := [Th.sl encS 1 g15 s15 DF.dur, Th.sl encW 3 g6 s6 (D.waits.map Wt.told), Th.wr b H g Wr, Th.sl encS 1 gS sS S]) m16 fun X => X.wake fF).wf fun v h17 wf17 _ ⟨e17, W17, R17, m17⟩ => ⟨_, e17, ?_⟩
    rw [hwk] at m17 ⊢
    have I17 : OwT encS 1 h17 g15 s15 DF.dur := (m17.at_ (Th.sl encS 1 g15 s15 DF.dur) (by simp)).1
    have XK : ∀ {hz}, Kept h17 hz → DAt hz q W17 R17 _ := fun kz => DAt.kept kz (Many.disk (A := [Th.sl encS 1 g15 s15 DF.dur, Th.sl encW 3 g6 s6 (D.waits.map Wt.told), Th.wr b H g Wr, Th.sl encS 1 gS sS S]) m17)
    refine told_alike_if (L := DF.dur) wf17 (by rw [eqs]; simp) (by rw [eqs]; simp) (by
      have := (XK (Keep.refl _ _)).seenC fK
      have e : seenL { DF with off := false, life := addW .i64 DF.life 1 } = DF.dur := hDFs
      rwa [e] at this) I17.slT (by omega) fun h18 wf18 k18 => ?_
    refine ⟨fun v hz => ∃ s : Sv, v = s.v ∧ s.l = 0, fun _ => ?_, fun hf => by rw [eqs, tt] at hf; simp at hf, ?_⟩
    · exact ((XK k18).waits fK (by omega)).mono fun v hz ⟨s', g', e, o, _, k'⟩ => ⟨_, _, _, e, s', rfl, by have := o.2; simp [hDFw] at this; omega⟩
    rintro a19 l19 c19 h19 ⟨s19, e, hl19⟩
    simp at e
    obtain ⟨rfl, rfl, rfl⟩ := e
    rw [hl19, eqs]; rfl
end Go.Proofs.Ytfkhjbfddeahaaa.kc
