/- lives. -/
import Derived.Test.YtfkhjbfddeahaaaDiskN
set_option linter.unusedVariables false
set_option linter.unusedSimpArgs false
namespace Go.Proofs.Ytfkhjbfddeahaaa.kc
open Go Go.Cn Go.Proofs Go.Proofs.Ytfkhjbfddeahaaa.vc

/-- A disk that was made behind h0. -/
def Own (h0 h : Hp) (d : Nat) (D : Dk) : Prop := ∃ W R, DAt h d W R D ∧ (∀ y, W y → h0.next ≤ y) ∧ Kept h0 h

section
variable {h0 h : Hp} {d : Nat} {D : Dk}
theorem Own.run (wf0 : Wf h0) (o : Own h0 h d D) {f : FuncId} {args : List Value} {r : Value} {D' : Dk} (hc : ∀ {W R}, DAt h d W R D → C f args h fun v h' => v = r ∧ Op h d W R D' h') : C f args h fun v h' => v = r ∧ Own h0 h' d D' := by
  obtain ⟨W, R, x, hW, k⟩ := o
  refine (hc x).mono fun v h' ⟨e, W', R', x', a, b, k'⟩ => ⟨e, W', R', x', fun y hy => ?_, k.trans wf0 k' fun y hy hw => by have := hW y hw; omega⟩
  rcases a y hy with h1 | h1
  · exact hW y h1
  · exact Nat.le_trans k.next h1
theorem Own.ask (o : Own h0 h d D) {f : FuncId} {args : List Value} {K : Value → Hp → Prop} (hc : ∀ {W R}, DAt h d W R D → C f args h K) : C f args h K := by
  obtain ⟨W, R, x, hW, k⟩ := o; exact hc x
theorem Own.after (wf0 : Wf h0) (o : Own h0 h d D) {h' : Hp} (k : Kept h h') : Own h0 h' d D := by
  obtain ⟨W, R, x, hW, k0⟩ := o; exact ⟨W, R, x.kept k, hW, k0.trans wf0 k fun _ _ hf => hf⟩
theorem Own.kept (o : Own h0 h d D) : Kept h0 h := by obtain ⟨W, R, x, hW, k⟩ := o; exact k
end

def z1024 : ByteArray := zeros 1024
def L1 : Dk := ⟨1024, [z1024, z1024], [], 4, false, [⟨2, 0, 2, ⟨#[]⟩⟩], [], 0, 0, 0, 1, 0⟩
def L2 (a : ByteArray) : Dk := ⟨1024, [a, z1024], [], 4, false, [⟨2, 0, 2, ⟨#[]⟩⟩, ⟨1, 0, 0, a⟩], [], 0, 0, 1, 1, 0⟩
def L3 (a : ByteArray) : Dk := ⟨1024, [a, z1024], [a, z1024], 4, false, [], [], 0, 0, 1, 1, 1⟩
def L4 (a b : ByteArray) : Dk := ⟨1024, [b, z1024], [a, z1024], 4, false, [⟨1, 0, 0, b⟩], [], 0, 0, 2, 1, 1⟩
def L5 (a b : ByteArray) : Dk := ⟨1024, [b, b], [a, z1024], 4, false, [⟨1, 0, 0, b⟩, ⟨1, 1, 0, b⟩], [], 0, 0, 3, 1, 1⟩
def L6 (a b : ByteArray) : Dk := ⟨1024, [laySec 1024 1 b a, z1024], [laySec 1024 1 b a, z1024], 4, true, [], [], 0, 1, 3, 1, 1⟩
def L7 (a b : ByteArray) : Dk := ⟨1024, [laySec 1024 1 b a, z1024], [laySec 1024 1 b a, z1024], 4, false, [], [], 1, 1, 3, 1, 1⟩

theorem s1 : growD (newD 1024 4 []) 2 = (L1, 0) := by rfl
theorem s2 {a : ByteArray} (ha : a.size = 1024) : writeD L1 0 a = (L2 a, 0) := by
  unfold writeD
  rw [if_neg (by simp [L1]), if_neg (by simp [L1]), if_neg (by simp [L1, ha]), if_neg (by simp [L1, actD])]
  rfl
theorem s3 (a : ByteArray) : syncD (L2 a) = (L3 a, 0) := by rfl
theorem s4 {a b : ByteArray} (hb : b.size = 1024) : writeD (L3 a) 0 b = (L4 a b, 0) := by
  unfold writeD
  rw [if_neg (by simp [L3]), if_neg (by simp [L3]), if_neg (by simp [L3, hb]), if_neg (by simp [L3, actD])]
  rfl
theorem s5 {a b : ByteArray} (hb : b.size = 1024) : writeD (L4 a b) 1 b = (L5 a b, 0) := by
  unfold writeD
  rw [if_neg (by simp [L4]), if_neg (by simp [L4]), if_neg (by simp [L4, hb]), if_neg (by simp [L4, actD])]
  rfl
theorem s6 (a b : ByteArray) : crashD (L5 a b) [1] = (L6 a b, 0) := by
  have h1 : layL 1024 [a, z1024] 0 b 1 = [laySec 1024 1 b a, z1024] := by
    unfold layL
    rw [if_neg (by omega)]
    rfl
  have h2 : goN 1024 [1] [⟨1, 0, 0, b⟩, ⟨1, 1, 0, b⟩] [a, z1024] 2 = [laySec 1024 1 b a, z1024] := by
    show goStep 1024 [1] 1 ⟨1, 1, 0, b⟩ (goStep 1024 [1] 0 ⟨1, 0, 0, b⟩ [a, z1024]) = _
    have : goStep 1024 [1] 0 ⟨1, 0, 0, b⟩ [a, z1024] = layL 1024 [a, z1024] 0 b 1 := rfl
    rw [this, h1]; rfl
  unfold crashD
  rw [if_neg (by simp [L5])]
  unfold goesD
  have h3 : goN (L5 a b).bytes [1] (L5 a b).waits (L5 a b).dur (L5 a b).waits.length = [laySec 1024 1 b a, z1024] := h2
  rw [h3]; rfl
theorem s7 (a b : ByteArray) : wakeD (L6 a b) = (L7 a b, 0) := by rfl

theorem lay128 {a b : ByteArray} (ha : a.size = 1024) (hb : b.size = 1024) : laySec 1024 1 b a = strCat (strSub b 0 128) (strSub a 128 (natI (lenS a))) := by
  have e1 : (laySec 1024 1 b a).data.toList = b.data.toList.take 128 ++ a.data.toList.drop 128 := by
    have h1 : layN (((1024 : Int)).toNat / 8) 1 b.data.toList 8 a.data.toList = cut8 a.data.toList (0 * 128) ((b.data.toList.drop (0 * 128)).take 128) := by
      show lay1 128 1 _ 7 (lay1 128 1 _ 6 (lay1 128 1 _ 5 (lay1 128 1 _ 4 (lay1 128 1 _ 3 (lay1 128 1 _ 2 (lay1 128 1 _ 1 (lay1 128 1 _ 0 _))))))) = _
      have t : ∀ i, i = 1 ∨ i = 2 ∨ i = 3 ∨ i = 4 ∨ i = 5 ∨ i = 6 ∨ i = 7 → ∀ B, lay1 128 1 b.data.toList i B = B := by
        intro i hi B
        unfold lay1
        rw [if_neg]
        rcases hi with rfl | rfl | rfl | rfl | rfl | rfl | rfl <;> decide
      rw [t 7 (by omega), t 6 (by omega), t 5 (by omega), t 4 (by omega), t 3 (by omega), t 2 (by omega), t 1 (by omega)]
      unfold lay1
      rw [if_pos (by decide)]
      rfl
    unfold laySec ofBytes
    rw [h1]
    have hbl : b.data.toList.length = 1024 := by
      have : b.data.toList.length = b.size := Array.length_toList
      omega
    unfold cut8
    simp only [Nat.zero_mul, List.drop_zero, List.take_zero, List.nil_append, List.length_take, Nat.zero_add]
    rw [hbl]
    rfl
  have e2 : (strCat (strSub b 0 128) (strSub a 128 (natI (lenS a)))).data.toList = b.data.toList.take 128 ++ a.data.toList.drop 128 := by
    obtain ⟨q1, _⟩ := sub_bytes b 0 128 (by omega) (by omega)
    obtain ⟨q2, _⟩ := sub_bytes a 128 1024 (by omega) (by omega)
    have hal : a.data.toList.length = 1024 := by
      have : a.data.toList.length = a.size := Array.length_toList
      omega
    have e : natI (lenS a) = ((1024 : Nat) : Int) := by simp only [natI, lenS, ha]
    rw [e]
    unfold strCat
    rw [ByteArray.data_append, Array.toList_append]
    have q1 : (strSub b 0 128).data.toList = b.data.toList.take 128 := by simpa using q1
    have q2 : (strSub a 128 ((1024 : Nat) : Int)).data.toList = a.data.toList.drop 128 := by
      have : (strSub a 128 ((1024 : Nat) : Int)).data.toList = (a.data.toList.drop 128).take (1024 - 128) := q2
      rw [this, List.take_of_length_le (by rw [List.length_drop]; omega)]
    rw [q1, q2]
  have : (laySec 1024 1 b a).data.toList = (strCat (strSub b 0 128) (strSub a 128 (natI (lenS a)))).data.toList := e1.trans e2.symm
  cases h1 : laySec 1024 1 b a with | mk u =>
  cases h2 : strCat (strSub b 0 128) (strSub a 128 (natI (lenS a))) with | mk v =>
  rw [h1, h2] at this
  simp at this
  rw [this]

/-- lives answers true. -/
theorem c25 (h : Hp) : C 25 [] h fun v h' => v = .bool true ∧ Kept h h' := by
  refine SCalls_of_vw fol (pf := pf) (shp := shp25) (f := 25) (fn := Try.f25) (by kernel_rfl) (c := Try.f25.body.getD .skip) (by kernel_rfl) (by kernel_rfl) fun wf => ?_
  rw [vc25]
  have n7 : neI (0 : Int) 0 = false := rfl
  have ff : sel false true false = false := rfl
  have nf : notB false = true := rfl
  obtain ⟨k, M, f0, _, _⟩ := newD_fit (page := 1024) (most := 4) (image := []) (by decide)
  have f1 : L1.fit k M 1 := by have := growD_fit f0 2; rwa [s1] at this
  refine (newDisk (by decide)).wf fun v h1 wf1 _ ⟨k1, q, W1, e1, x1, hW1⟩ => ⟨_, _, e1, ?_⟩
  have o1 : Own h h1 q (newD 1024 4 []) := ⟨W1, _, x1, hW1, k1⟩
  have iN : isN (some (Addr.mk q 0 none)) = false := rfl
  simp only [n7, iN, ff, nf]
  refine ⟨fun v hh => v = .int .i64 0 ∧ Own h hh q L1 ∧ Wf hh, fun _ => ?_, fun hf => by simp at hf, ?_⟩
  · refine (o1.run wf fun x => x.grow f0 (by omega) (by omega)).wf fun v h2 wf2 _ ⟨e2, o2⟩ => ⟨_, e2, ?_⟩
    rw [s1] at o2
    exact ⟨by rw [s1], o2, wf2⟩
  rintro r1 h2 ⟨e, o2, wf2⟩
  simp at e; subst e
  simp only [n7, ff]
  rw [if_neg (by simp)]
  refine (c29 _ (by omega)).wf fun v h3 wf3 _ ⟨e3, k3⟩ => ⟨_, e3, ?_⟩
  refine (c29 _ (by omega)).wf fun v h4 wf4 _ ⟨e4, k4⟩ => ⟨_, e4, ?_⟩
  have ha : (textB 97 (Int.ofNat 0) (textN (-1) 1024)).size = 1024 := by rw [textB_size]; rfl
  have hb : (textB 98 (Int.ofNat 0) (textN (-1) 1024)).size = 1024 := by rw [textB_size]; rfl
  generalize textB 97 (Int.ofNat 0) (textN (-1) 1024) = a at ha
  generalize textB 98 (Int.ofNat 0) (textN (-1) 1024) = b at hb
  have f2 : (L2 a).fit k M 2 := by have := writeD_fit f1 (no := 0) (by omega) a; rwa [s2 ha] at this
  have f3 : (L3 a).fit k M 2 := by have := syncD_fit f2; rwa [s3] at this
  have f4 : (L4 a b).fit k M 3 := by have := writeD_fit f3 (no := 0) (by omega) b; rwa [s4 hb] at this
  have f5 : (L5 a b).fit k M 4 := by have := writeD_fit f4 (no := 1) (by omega) b; rwa [s5 hb] at this
  have f6 : (L6 a b).fit k M 4 := by have := crashD_fit f5 [1]; rwa [s6] at this
  have f7 : (L7 a b).fit k M 4 := by have := wakeD_fit f6; rwa [s7] at this
  have o4 := (o2.after wf k3).after wf k4
  refine (o4.run wf fun x => x.write f1 (by omega) (by omega)).wf fun v h5 wf5 _ ⟨e5, o5⟩ => ⟨_, e5, ?_⟩
  rw [s2 ha] at o5 ⊢
  simp only [n7, nf]
  refine ⟨fun v hh => v = .int .i64 0 ∧ Own h hh q (L3 a) ∧ Wf hh, fun _ => ?_, fun hf => by simp at hf, ?_⟩
  · refine (o5.run wf fun x => x.sync f2 (by omega)).wf fun v h2 wf2 _ ⟨e2, o2⟩ => ⟨_, e2, ?_⟩
    rw [s3] at o2
    exact ⟨by rw [s3], o2, wf2⟩
  rintro r1 h6 ⟨e, o6, wf6⟩
  simp at e; subst e
  simp only [n7, ff, nf]
  refine ⟨fun v hh => v = .int .i64 0 ∧ Own h hh q (L4 a b) ∧ Wf hh, fun _ => ?_, fun hf => by simp at hf, ?_⟩
  · refine (o6.run wf fun x => x.write f3 (by omega) (by omega)).wf fun v h2 wf2 _ ⟨e2, o2⟩ => ⟨_, e2, ?_⟩
    rw [s4 hb] at o2
    exact ⟨by rw [s4 hb], o2, wf2⟩
  rintro r1 h7 ⟨e, o7, wf7⟩
  simp at e; subst e
  simp only [n7, ff, nf]
  refine ⟨fun v hh => v = .int .i64 0 ∧ Own h hh q (L5 a b) ∧ Wf hh, fun _ => ?_, fun hf => by simp at hf, ?_⟩
  · refine (o7.run wf fun x => x.write f4 (by omega) (by omega)).wf fun v h2 wf2 _ ⟨e2, o2⟩ => ⟨_, e2, ?_⟩
    rw [s5 hb] at o2
    exact ⟨by rw [s5 hb], o2, wf2⟩
  rintro r1 h8 ⟨e, o8, wf8⟩
  simp at e; subst e
  simp only [n7, ff, nf]
  rw [if_neg (by simp)]
  refine (o8.ask fun x => x.read f5 (no := 0) (by omega)).mono fun v h9 ⟨e9, e9'⟩ => ⟨_, _, e9, ?_⟩
  subst e9'
  have r9 : readD (L5 a b) 0 = (b, 0) := rfl
  have sb : strEq b b = true := (eq_iff _ _).mpr rfl
  rw [r9]
  have nt : notB true = false := rfl
  simp only [n7, ff, nf, sb, nt]
  refine ⟨fun v hh => (∃ s' : Sv, v = s'.v ∧ s'.l = 2) ∧ Own h hh q (L5 a b) ∧ Wf hh, fun _ => ?_, fun hf => by simp at hf, ?_⟩
  · refine (o8.ask fun x => x.waits f5 (by omega)).wf fun v h2 wf2 _ ⟨s', g', e2, o2, _, k2⟩ => ⟨_, _, _, e2, ⟨s', rfl, ?_⟩, o8.after wf k2, wf2⟩
    have := o2.2; simp [L5] at this; omega
  rintro a5 l5 c5 h10 ⟨⟨s', e, hl⟩, o10, wf10⟩
  simp at e
  obtain ⟨rfl, rfl, rfl⟩ := e
  have n2 : neI (natI s'.l) 2 = false := by rw [hl]; rfl
  simp only [n7, ff, nf, n2]
  refine ⟨fun v hh => ∃ b0, v = .slice (some ⟨b0, 0, none⟩) 1 1 ∧ Blk hh b0 (some b0) [.int .u8 1] ∧ Own h hh q (L5 a b) ∧ Wf hh ∧ h10.next ≤ b0 ∧ b0 < hh.next ∧ Kept h10 hh, fun _ => ?_, fun hf => by simp at hf, ?_⟩
  · intro h11 e11
    obtain ⟨b11, k11, n11, wf11⟩ := new_blk wf10 e11
    exact ⟨_, _, _, rfl, h10.next, rfl, b11, o10.after wf k11, wf11, Nat.le_refl _, by omega, k11⟩
  rintro a7 l7 c7 h11 ⟨b0, e, b11, o11, wf11, hb0, hb1, k11⟩
  simp at e
  obtain ⟨rfl, rfl, rfl⟩ := e
  refine ⟨fun v hh => v = .int .i64 0 ∧ Own h hh q (L6 a b) ∧ Wf hh, fun _ => ?_, fun hf => by simp at hf, ?_⟩
  · have sf : SlT encF 1 h11 (some b0) (some ⟨b0, 0, none⟩) 1 1 [1] := new_one encF_w b11
    obtain ⟨W, R, x10, hW, k10⟩ := o10
    have wlt := x10.wlt wf10
    have x11 := x10.kept k11
    have o11 : Own h h11 q (L5 a b) := ⟨W, R, x11, hW, k10.trans wf k11 fun _ _ hf => hf⟩
    refine (x11.crash f5 (by omega) sf (fun y hy => ?_) (by simp)).wf fun v h2 wf2 _ ⟨e2, o2⟩ => ⟨_, e2, ?_⟩
    · simp at hy; subst hy
      exact ⟨fun hw => by have := wlt _ hw; omega, hb1⟩
    · rw [s6] at o2
      refine ⟨by rw [s6], ?_, wf2⟩
      obtain ⟨W', R', x', a', b', k'⟩ := o2
      have kk := k10.trans wf k11 fun _ _ hf => hf
      refine ⟨W', R', x', fun y hy => ?_, kk.trans wf k' fun y hy hw => by have := hW y hw; omega⟩
      rcases a' y hy with h1 | h1
      · exact hW y h1
      · exact Nat.le_trans kk.next h1
  rintro r1 h12 ⟨e, o12, wf12⟩
  simp at e; subst e
  simp only [n7, ff, nf]
  refine ⟨fun v hh => v = .bool false ∧ hh = h12, fun _ => ?_, fun hf => by simp at hf, ?_⟩
  · exact (o12.ask fun x => x.on f6).mono fun v h2 ⟨e2, e3⟩ => ⟨_, e2, rfl, e3⟩
  rintro r1 h13 ⟨e, rfl⟩
  simp at e; subst e
  simp only [ff]
  rw [if_neg (by simp)]
  refine (o12.ask fun x => x.image f6).wf fun v h14 wf14 _ ⟨s14, g14, e14, c14, _, k14⟩ => ⟨_, _, _, e14, ?_⟩
  have o14 := o12.after wf k14
  refine (o14.ask fun x => x.read f6 (no := 0) (by omega)).mono fun v h15 ⟨e15, e15'⟩ => ⟨_, _, e15, ?_⟩
  subst e15'
  have r15 : readD (L6 a b) 0 = (⟨#[]⟩, 7) := rfl
  rw [r15]
  have hl14 : s14.l = 2 := by have := c14.2; simp [L6] at this; omega
  obtain ⟨i1, i2⟩ := c14.slT.get encS_w (i := 0) (x := laySec 1024 1 b a) rfl (j := 0) (m := 1) (by omega)
  have hsub1 : (strSub b 0 128).size = 128 := (sub_bytes b 0 128 (by omega) (by omega)).2
  have hsub2 : (strSub a 128 (natI (lenS a))).size = 896 := by
    have e : natI (lenS a) = ((1024 : Nat) : Int) := by simp only [natI, lenS, ha]
    rw [e]; exact (sub_bytes a 128 1024 (by omega) (by omega)).2
  have m2 : eqI (natI s14.l) 2 = true := by rw [hl14]; rfl
  have m3 : strEq (laySec 1024 1 b a) (strCat (strSub b 0 128) (strSub a 128 (natI (lenS a)))) = true := (eq_iff _ _).mpr (lay128 ha hb)
  refine ⟨fun _ => ⟨i1, by simp only [inR]; omega⟩, laySec 1024 1 b a, fun _ => ⟨rfl, i2.trans rfl⟩, fun _ => by simp only [subOk]; omega, fun _ => by simp only [subOk, natI, lenS]; omega, fun _ => by simp only [catOk, hsub1, hsub2, IntKind.max]; decide, ?_⟩
  have e77 : eqI (7 : Int) 7 = true := rfl
  have tt : sel true true false = true := rfl
  simp only [m2, m3, e77, tt]
  refine ⟨fun v hh => v = .int .i64 0 ∧ Own h hh q (L7 a b) ∧ Wf hh, fun _ => ?_, fun hf => by simp at hf, ?_⟩
  · refine (o14.run wf fun x => x.wake f6).wf fun v h2 wf2 _ ⟨e2, o2⟩ => ⟨_, e2, ?_⟩
    rw [s7] at o2
    exact ⟨by rw [s7], o2, wf2⟩
  rintro r1 h16 ⟨e, o16, wf16⟩
  simp at e; subst e
  have e00 : eqI (0 : Int) 0 = true := rfl
  simp only [e00, tt]
  refine ⟨fun v hh => v = .int .i64 1 ∧ hh = h16, fun _ => ?_, fun hf => by simp at hf, ?_⟩
  · exact (o16.ask fun x => x.lifeC f7).mono fun v h2 ⟨e2, e3⟩ => ⟨_, e2, rfl, e3⟩
  rintro r1 h17 ⟨e, rfl⟩
  simp at e; subst e
  exact ⟨rfl, o16.kept⟩

/-- DiskNames. -/
theorem c8 (h : Hp) : C 8 [] h fun v h' => v = .bool true := by
  refine SCalls_of_vw fol (pf := pf) (shp := shp8) (f := 8) (fn := Try.f8) (by kernel_rfl) (c := Try.f8.body.getD .skip) (by kernel_rfl) (by kernel_rfl) fun wf => ?_
  rw [vc8]
  refine ⟨fun v hh => v = .bool true, fun _ => (c25 h).mono fun v h' ⟨e, _⟩ => ⟨true, e, rfl⟩, fun hf => by simp at hf, fun b h' e => ?_⟩
  simp at e; subst e; rfl
end Go.Proofs.Ytfkhjbfddeahaaa.kc
