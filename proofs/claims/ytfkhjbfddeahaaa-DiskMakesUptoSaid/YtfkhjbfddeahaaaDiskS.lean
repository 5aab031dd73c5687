/- DiskMakes: From of the document, tells. -/
import Derived.Test.YtfkhjbfddeahaaaDiskP
import Derived.Test.YtfkhjbfddeahaaaDiskT
set_option linter.unusedVariables false
set_option linter.unusedSimpArgs false
namespace Go.Proofs.Ytfkhjbfddeahaaa.kc
open Go Go.Cn Go.Proofs Go.Proofs.Ytfkhjbfddeahaaa.vc

/-- Same. -/
theorem c43 {h : Hp} {G G' : Option Nat} {a b : Option Addr} {l c l' c' : Nat} {L M : List ByteArray} (s : SlT encS 1 h G a l c L) (t : SlT encS 1 h G' b l' c' M) (hl : l ≤ 8589934592) :
    C 43 [.slice a l c, .slice b l' c'] h fun v h' => v = .bool (decide (L = M)) ∧ h' = h := by
  refine SCalls_of_vw fol (pf := pf) (shp := shp43) (f := 43) (fn := Try.f43) (by kernel_rfl) (c := Try.f43.body.getD .skip) (by kernel_rfl) (by kernel_rfl) fun wf => ?_
  rw [vc43]
  have hL := s.len
  have hM := t.len
  by_cases hll : l = l'
  rotate_left
  · rw [if_pos (by rw [neI_iff]; simp only [natI]; omega)]
    refine ⟨?_, rfl⟩
    rw [decide_eq_false]; intro e; subst e; omega
  rw [if_neg (by rw [neI_iff]; simp only [natI]; omega)]
  refine ⟨fun vals m hh => ∃ i : Nat, [.int .i64 i] = vals ∧ i ≤ l ∧ m = l - i ∧ hh = h ∧ ∀ (j : Nat), j < i → L[j]? = M[j]?, ⟨l, 0, rfl, by omega, rfl, rfl, by omega⟩, ?_⟩
  rintro n m hh ⟨i, e, hi, rfl, rfl, hno⟩
  simp at e; subst e
  split
  · rename_i hlt
    have hlt : i < l := by rw [ltI_iff] at hlt; simp only [natI] at hlt; omega
    have hz : L[i]? = some (L[i]'(by omega)) := List.getElem?_eq_getElem _
    have hy : M[i]? = some (M[i]'(by omega)) := List.getElem?_eq_getElem _
    generalize L[i]'(by omega) = z at hz
    generalize M[i]'(by omega) = y at hy
    obtain ⟨i1, i2⟩ := s.get encS_w hz (j := 0) (m := 1) (by omega)
    obtain ⟨j1, j2⟩ := t.get encS_w hy (j := 0) (m := 1) (by omega)
    refine ⟨⟨i1, by simp only [inR]; omega⟩, z, ⟨rfl, i2.trans rfl⟩, ⟨j1, by simp only [inR]; omega⟩, y, ⟨rfl, j2.trans rfl⟩, ?_⟩
    by_cases hzy : z = y
    rotate_left
    · rw [if_pos (by rw [notB_iff, Bool.eq_false_iff]; intro h1; exact hzy ((eq_iff _ _).mp h1))]
      refine ⟨?_, rfl⟩
      rw [decide_eq_false]; intro e; rw [e, hy] at hz; simp at hz; exact hzy hz.symm
    rw [if_neg (by rw [notB_iff, (eq_iff _ _).mpr hzy]; simp)]
    refine ⟨l - (i + 1), by simp only [lessN]; omega, i + 1, by rw [addW_small (by omega) (by omega)]; rfl, by omega, rfl, rfl, fun j hj => ?_⟩
    by_cases hji : j = i
    · subst hji; rw [hz, hy, hzy]
    · exact hno j (by omega)
  · rename_i hlt
    have hil : i = l := by rw [ltI_iff] at hlt; simp only [natI] at hlt; omega
    refine ⟨?_, rfl⟩
    rw [decide_eq_true]
    apply List.ext_getElem?
    intro j
    by_cases hj : j < i
    · exact hno j hj
    · rw [List.getElem?_eq_none (by omega), List.getElem?_eq_none (by omega)]

theorem paged_iff (n : Int) : sel (sel (sel (eqI n 1024) true (eqI n 2048)) true (eqI n 4096)) true (eqI n 8192) = decide (paged n) := by
  have h1 : (sel (sel (sel (eqI n 1024) true (eqI n 2048)) true (eqI n 4096)) true (eqI n 8192) = true) ↔ paged n := by
    rw [or_iff, or_iff, or_iff, eqI_iff, eqI_iff, eqI_iff, eqI_iff]
    show _ ↔ n ∈ [(1024 : Int), 2048, 4096, 8192]
    simp [or_assoc]
  by_cases hp : paged n
  · rw [decide_eq_true hp]; exact h1.mpr hp
  · rw [decide_eq_false hp, Bool.eq_false_iff]; exact fun h => hp (h1.mp h)

theorem c64 (h : Hp) (n : Int) : C 64 [.int .i64 n] h fun v h' => v = .bool (decide (paged n)) ∧ h' = h := by
  refine SCalls_of_vw fol (pf := pf) (shp := shp64) (f := 64) (fn := Try.f64) (by kernel_rfl) (c := Try.f64.body.getD .skip) (by kernel_rfl) (by kernel_rfl) fun wf => ?_
  rw [vc64]
  exact ⟨by rw [paged_iff], rfl⟩

/-- The document's disk that From makes. -/
def rnew (page most : Int) (s : Sv) : List Value := [.int .i64 page, .int .i64 most, s.v, .slice none 0 0, .slice none 0 0, .bool true, .int .i64 0, .int .i64 0, .int .i64 0, .int .i64 0, .int .i64 0]

/-- Size of the document's disk, where nothing waits. -/
theorem c71 {h : Hp} {r : Nat} {g : Option Nat} {page most : Int} {s : Sv} (hb : Blk h r g (rnew page most s)) : C 71 [.pointer (some ⟨r, 0, none⟩)] h fun v h' => v = .int .i64 (natI s.l) ∧ h' = h := by
  refine SCalls_of_vw fol (pf := pf) (shp := shp71) (f := 71) (fn := Try.f71) (by kernel_rfl) (c := Try.f71.body.getD .skip) (by kernel_rfl) (by kernel_rfl) fun wf => ?_
  rw [vc71]
  refine ⟨rfl, rfl, s.a, s.l, s.c, ⟨rfl, hb.one rfl⟩, fun vals m hh => [.int .i64 (natI s.l), .int .i64 0] = vals ∧ m = 0 ∧ hh = h, ⟨0, rfl, rfl, rfl⟩, ?_⟩
  rintro n n1 m hh ⟨e, rfl, rfl⟩
  simp at e
  obtain ⟨rfl, rfl⟩ := e
  refine ⟨rfl, rfl, none, 0, 0, ⟨rfl, hb.one rfl⟩, ?_⟩
  rw [if_neg (by rw [ltI_iff]; simp [natI])]
  exact ⟨rfl, rfl⟩

/-- From of the document. -/
theorem c40 {h : Hp} {a : Option Addr} {l c : Nat} {image : List ByteArray} (sI : SlT encS 1 h none a l c image) (hl : l ≤ 1048576) (page most : Int) :
    C 40 [.int .i64 page, .int .i64 most, .slice a l c] h fun v h' => Kept h h' ∧ ((fromE page most image ≠ 0 ∧ v = .tuple #[.pointer none, .int .i64 (fromE page most image)]) ∨
      (fromE page most image = 0 ∧ ∃ r s' g', v = .tuple #[.pointer (some ⟨r, 0, none⟩), .int .i64 0] ∧ Blk h' r (some r) (rnew page most s') ∧ h.next ≤ r ∧ OwT encS 1 h' g' s' image ∧ ∀ y, g' = some y → h.next ≤ y)) := by
  refine SCalls_of_vw fol (pf := pf) (shp := shp40) (f := 40) (fn := Try.f40) (by kernel_rfl) (c := Try.f40.body.getD .skip) (by kernel_rfl) (by kernel_rfl) fun wf => ?_
  rw [vc40]
  have hil := sI.len
  refine (c64 h page).mono fun v h' ⟨e, e'⟩ => ⟨_, e, ?_⟩
  subst e'
  by_cases h0 : ¬ paged page ∨ most < 1 ∨ most > 65536
  · have hE : fromE page most image = 2 := by unfold fromE; rw [if_pos h0]
    rw [if_pos, hE]
    · exact ⟨Keep.refl _ _, .inl ⟨by omega, rfl⟩⟩
    · rw [or_iff, or_iff, notB_iff, ltI_iff, gtI_iff, decide_eq_false_iff_not]
      rcases h0 with h0 | h0 | h0
      · exact .inl (.inl h0)
      · exact .inl (.inr h0)
      · exact .inr h0
  rw [if_neg]
  rotate_left
  · rw [or_iff, or_iff, notB_iff, ltI_iff, gtI_iff, decide_eq_false_iff_not]
    intro h3
    rcases h3 with (h3 | h3) | h3
    · exact h0 (.inl h3)
    · exact h0 (.inr (.inl h3))
    · exact h0 (.inr (.inr h3))
  by_cases h4 : (image.length : Int) > most
  · have hE : fromE page most image = 42 := by unfold fromE; rw [if_neg h0, if_pos (.inl h4)]
    rw [if_pos (by rw [gtI_iff]; simp only [natI]; omega), hE]
    exact ⟨Keep.refl _ _, .inl ⟨by omega, rfl⟩⟩
  rw [if_neg (by rw [gtI_iff]; simp only [natI]; omega)]
  intro h1 e1
  obtain ⟨b1, k1, n1, wf1⟩ := new_blk wf e1
  refine ⟨fun vals m hh => ∃ (i : Nat) (s' : Sv) (g' : Option Nat), [.int .i64 i] = vals ∧ i ≤ l ∧ m = l - i ∧ Wf hh ∧ Blk hh h'.next (some h'.next) (rnew page most s') ∧ OwT encS 1 hh g' s' (image.take i) ∧ (∀ y, g' = some y → h'.next < y) ∧ Kept h' hh ∧ (image.take i).any (oddOne page) = false,
    ⟨l, 0, ⟨none, 0, 0⟩, none, rfl, Nat.zero_le _, rfl, wf1, b1, by simpa using OwT.nil (enc := encS) (w := 1), by simp, k1, by simp⟩, ?_⟩
  rintro n m hh ⟨i, s', g', e, hi, rfl, wf2, b2, o2, hg2, k2, hno⟩
  simp at e; subst e
  have hsl : s'.l = i := by rw [← o2.2]; simp; omega
  have s2 := sI.keep k2 (by simp)
  split
  · rename_i hlt
    have hlt : i < l := by rw [ltI_iff] at hlt; simp only [natI] at hlt; omega
    have hz : image[i]? = some (image[i]'(by omega)) := List.getElem?_eq_getElem _
    generalize image[i]'(by omega) = z at hz
    obtain ⟨i1, i2⟩ := s2.get encS_w hz (j := 0) (m := 1) (by omega)
    have hin : inR (i : Int) l := by simp only [inR]; omega
    have htk : image.take (i + 1) = image.take i ++ [z] := by rw [List.take_add_one, hz]; simp
    refine ⟨⟨i1, hin⟩, z, ⟨rfl, i2.trans rfl⟩, ?_⟩
    by_cases ho : oddOne page z = true
    · rw [if_pos (show neI (natI (lenS z)) page = true from ho)]
      have hE : fromE page most image = 42 := by
        unfold fromE
        rw [if_neg h0, if_pos (.inr (List.any_eq_true.mpr ⟨z, List.mem_of_getElem? hz, ho⟩))]
      rw [hE]
      exact ⟨k2, .inl ⟨by omega, rfl⟩⟩
    rw [if_neg (show ¬ neI (natI (lenS z)) page = true from ho)]
    refine ⟨rfl, rfl, s'.a, s'.l, s'.c, ⟨rfl, b2.one rfl⟩, ⟨i1, hin⟩, z, ⟨rfl, i2.trans rfl⟩, ?_⟩
    intro h3 e3
    obtain ⟨b3, k3, n3, wf3⟩ := new_blk wf2 e3
    refine ⟨⟨rfl, (k3.blk b2).one rfl⟩, ?_⟩
    obtain ⟨a5, c5, g5, h5, e5, o5, nw5, k5, wf5⟩ := Ow.append1 wf2 app40 o2.1 e3 rfl rfl (room (by omega) (by omega))
    have b5 : Blk h5 h'.next (some h'.next) (rnew page most s') := k5.blk b2 fun y hy he => by simp at hy; have := hg2 y he; omega
    obtain ⟨h6, e6, b6, k6, n6, w6⟩ := b5.set (o := 2) (v := .slice a5 (s'.l + 1) c5) (by simp [rnew]) rfl
    have hg5 : ∀ y, g5 = some y → h'.next < y := by
      rcases nw5 with rfl | ⟨y, rfl, hy⟩
      · exact hg2
      · intro z hz; simp at hz; have := b2.lt wf2; omega
    refine ⟨a5, _, c5, h5, e5, rfl, rfl, rfl, h6, e6, l - (i + 1), by simp only [lessN]; omega, i + 1, ⟨a5, s'.l + 1, c5⟩, g5, by rw [addW_small (by omega) (by omega)]; rfl, by omega, rfl, w6 wf5, b6, ?_, hg5, ?_, ?_⟩
    · refine OwT.keep k6 ⟨?_, ?_⟩ fun y hy he => by have := hg5 y hy; omega
      · rw [htk, flatS]; exact o5
      · simp; omega
    · refine (k2.trans wf k5 fun y hy he => by have := hg2 y he; omega).trans wf k6 fun y hy he => by omega
    · rw [htk, List.any_append, hno]; simpa using ho
  · rename_i hlt
    have hil' : i = l := by rw [ltI_iff] at hlt; simp only [natI] at hlt; omega
    have ht : image.take i = image := List.take_of_length_le (by omega)
    rw [ht] at o2 hno
    have hE : fromE page most image = 0 := by
      unfold fromE
      rw [if_neg h0, if_neg]
      intro h5
      rcases h5 with h5 | h5
      · exact h4 h5
      · rw [hno] at h5; simp at h5
    exact ⟨k2, .inr ⟨hE, h'.next, s', g', rfl, b2, Nat.le_refl _, o2, fun y hy => Nat.le_of_lt (hg2 y hy)⟩⟩

/-- tells, where both tell the same. -/
theorem c42 {h : Hp} {d r : Nat} {W R : Nat → Prop} {D : Dk} {k M N : Nat} {g : Option Nat} {dv wv av : Sv} (x : DAt h d W R D) (fit : D.fit k M N)
    (hb : Blk h r g [.int .i64 D.bytes, .int .i64 D.most, dv.v, wv.v, av.v, .bool (!D.off), .int .i64 D.life, .int .i64 D.taken, .int .i64 D.wr, .int .i64 D.gr, .int .i64 D.sy]) (ha : av.l = D.arms.length)
    (hs : ∀ hh, Kept h hh → C 71 [.pointer (some ⟨r, 0, none⟩)] hh fun v h' => v = .int .i64 (natI D.seen.length) ∧ h' = hh) :
    C 42 [.pointer (some ⟨d, 0, none⟩), .pointer (some ⟨r, 0, none⟩)] h fun v h' => v = .bool true ∧ Kept h h' := by
  refine SCalls_of_vw fol (pf := pf) (shp := shp42) (f := 42) (fn := Try.f42) (by kernel_rfl) (c := Try.f42.body.getD .skip) (by kernel_rfl) (by kernel_rfl) fun wf => ?_
  rw [vc42]
  have eqs : ∀ n : Int, eqI n n = true := fun n => eqI_iff.mpr rfl
  have eqb : ∀ b : Bool, eqB b b = true := fun b => by cases b <;> rfl
  have tt : sel true true false = true := rfl
  have an : andB true (andB true (andB true true)) = true := rfl
  refine ⟨rfl, rfl, D.bytes, ⟨rfl, hb.one rfl⟩, (x.page fit).mono fun v h' ⟨e, e'⟩ => ⟨_, e, ⟨rfl, by subst e'; exact hb.one rfl⟩, ?_⟩⟩
  subst e'
  simp only [eqs]
  refine ⟨fun _ => rfl, fun _ => rfl, D.most, fun _ => ⟨rfl, hb.one rfl⟩, fun v hh => v = .int .i64 D.most ∧ hh = h', fun _ => (x.mostC fit).mono fun v hh ⟨e, e'⟩ => ⟨_, e, rfl, e'⟩, fun hf => by simp at hf, ?_⟩
  rintro n3 h3 ⟨e, rfl⟩
  simp at e; subst e
  simp only [eqs, tt]
  refine ⟨fun _ => ⟨rfl, hb.one rfl⟩, fun v hh => v = .int .i64 (natI D.seen.length) ∧ hh = h3, fun _ => (x.sizeC fit).mono fun v hh ⟨e, e'⟩ => ⟨_, e, rfl, e'⟩, fun hf => by simp at hf, ?_⟩
  rintro n4 h4 ⟨e, rfl⟩
  simp at e; subst e
  refine ⟨fun v hh => v = .int .i64 (natI D.seen.length) ∧ hh = h4, fun _ => (hs _ (Keep.refl _ _)).mono fun v hh ⟨e, e'⟩ => ⟨_, e, rfl, e'⟩, fun hf => by simp at hf, ?_⟩
  rintro n5 h5 ⟨e, rfl⟩
  simp at e; subst e
  simp only [eqs, tt]
  refine ⟨fun _ => rfl, fun _ => rfl, av.a, av.l, av.c, fun _ => ⟨rfl, hb.one rfl⟩, fun v hh => v = .int .i64 (natI D.arms.length) ∧ hh = h5, fun _ => (x.armed fit).mono fun v hh ⟨e, e'⟩ => ⟨_, e, rfl, e'⟩, fun hf => by simp at hf, ?_⟩
  rintro n6 h6 ⟨e, rfl⟩
  simp at e; subst e
  rw [ha]
  simp only [eqs, tt]
  refine ⟨fun _ => ⟨rfl, by rw [← ha]; exact hb.one rfl⟩, fun _ => rfl, fun _ => rfl, _, fun _ => ⟨rfl, hb.one rfl⟩, fun v hh => v = .bool (!D.off) ∧ hh = h6, fun _ => (x.on fit).mono fun v hh ⟨e, e'⟩ => ⟨_, e, rfl, e'⟩, fun hf => by simp at hf, ?_⟩
  rintro n7 h7 ⟨e, rfl⟩
  simp at e; subst e
  simp only [eqb, tt]
  refine ⟨fun _ => ⟨rfl, hb.one rfl⟩, fun _ => rfl, fun _ => rfl, _, fun _ => ⟨rfl, hb.one rfl⟩, fun v hh => v = .int .i64 D.life ∧ hh = h7, fun _ => (x.lifeC fit).mono fun v hh ⟨e, e'⟩ => ⟨_, e, rfl, e'⟩, fun hf => by simp at hf, ?_⟩
  rintro n8 h8 ⟨e, rfl⟩
  simp at e; subst e
  simp only [eqs, tt]
  refine ⟨fun _ => ⟨rfl, hb.one rfl⟩, fun _ => rfl, fun _ => rfl, _, fun _ => ⟨rfl, hb.one rfl⟩, fun v hh => v = .int .i64 D.taken ∧ hh = h8, fun _ => (x.takenC fit).mono fun v hh ⟨e, e'⟩ => ⟨_, e, rfl, e'⟩, fun hf => by simp at hf, ?_⟩
  rintro n9 h9 ⟨e, rfl⟩
  simp at e; subst e
  simp only [eqs, tt]
  refine ⟨fun _ => ⟨rfl, hb.one rfl⟩, fun _ => rfl, fun _ => rfl, _, _, _, fun _ => ⟨rfl, (hb.cells (o := 8) (n := 3) (Nat.le_of_ble_eq_true rfl)).trans rfl⟩, fun v hh => v = .agg #[.int .i64 D.wr, .int .i64 D.gr, .int .i64 D.sy] ∧ Kept h9 hh, fun _ => (x.acts fit).mono fun v hh ⟨e, k'⟩ => ⟨_, _, _, e, rfl, k'⟩, fun hf => by simp at hf, ?_⟩
  rintro n14 n15 n16 h10 ⟨e, k10⟩
  simp at e
  obtain ⟨rfl, rfl, rfl⟩ := e
  simp only [eqs, tt, an]
  exact ⟨fun _ => ⟨rfl, ((k10.blk hb).cells (o := 8) (n := 3) (Nat.le_of_ble_eq_true rfl)).trans rfl⟩, trivial, k10⟩

/-- DiskMakes. -/
theorem c11 {h : Hp} {a : Option Addr} {l c : Nat} {image : List ByteArray} (sI : SlT encS 1 h none a l c image) (hl : l ≤ 1048576) (page most : Int) :
    C 11 [.int .i64 page, .int .i64 most, .slice a l c] h fun v h' => v = .bool true := by
  refine SCalls_of_vw fol (pf := pf) (shp := shp11) (f := 11) (fn := Try.f11) (by kernel_rfl) (c := Try.f11.body.getD .skip) (by kernel_rfl) (by kernel_rfl) fun wf => ?_
  rw [vc11]
  have eqs : ∀ n : Int, eqI n n = true := fun n => eqI_iff.mpr rfl
  have nes : ∀ n : Int, neI n n = false := fun n => by rw [Bool.eq_false_iff, Ne, neI_iff]; simp
  have eqb : ∀ b : Bool, eqB b b = true := fun b => by cases b <;> rfl
  have ff : sel false true false = false := rfl
  have nt : notB true = false := rfl
  have nf : notB false = true := rfl
  have iN : ∀ q, isN (some (Addr.mk q 0 none)) = false := fun _ => rfl
  have iZ : isN none = true := rfl
  refine (c40 sI hl page most).wf fun v h1 wf1 _ ⟨k1, hq1⟩ => ?_
  have sI1 := sI.keep k1 (by simp)
  -- the second pair: page and most alone
  have second : ∀ {h2 : Hp} (K : Option Addr → Int → Option Addr → Int → Hp → Prop), Wf h2 → (∀ h3 p n q m, Wf h3 → Kept h2 h3 → n = fromE page most [] → m = fromE page most [] → (isN q = neI n 0) → K p n q m h3) →
      C 40 [.int .i64 page, .int .i64 most, .slice none 0 0] h2 fun v h' => ∃ p n, v = .tuple #[.pointer p, .int .i64 n] ∧ C 26 [.int .i64 page, .int .i64 most] h' fun v h' => ∃ q m, v = .tuple #[.pointer q, .int .i64 m] ∧ K p n q m h' := by
    intro h2 K wf2 hK
    refine (c40 (SlT.nil h2 none) (by omega) page most).wf fun v h3 wf3 _ ⟨k3, hq3⟩ => ?_
    have ask : ∀ p n, n = fromE page most [] → C 26 [.int .i64 page, .int .i64 most] h3 fun v h' => ∃ q m, v = .tuple #[.pointer q, .int .i64 m] ∧ K p n q m h' := by
      intro p n hn
      refine (c26 h3 page most).wf fun v h4 wf4 _ ⟨k4, hq4⟩ => ?_
      have k24 : Kept h2 h4 := k3.trans wf2 k4 fun _ _ hf => hf
      rcases hq4 with ⟨hne, rfl⟩ | ⟨hz, q, p0, ps, pd, pw, pa, s', dd', w', a', rfl, x, hn'⟩
      · exact ⟨_, _, rfl, hK _ _ _ _ _ wf4 k24 hn rfl (by rw [hn, iZ]; symm; rw [neI_iff]; exact hne)⟩
      · exact ⟨_, _, rfl, hK _ _ _ _ _ wf4 k24 hn hz.symm (by rw [hn, hz]; rfl)⟩
    rcases hq3 with ⟨hne, rfl⟩ | ⟨hz, r, s', g', rfl, _⟩
    · exact ⟨_, _, rfl, ask _ _ rfl⟩
    · exact ⟨_, _, rfl, ask _ _ hz.symm⟩
  rcases hq1 with ⟨hne, rfl⟩ | ⟨hz, r, rs, rg, rfl, rb, hr, ro, hrg⟩
  · refine ⟨_, _, rfl, (c41 sI1 (by omega) page most).wf fun v h2 wf2 _ ⟨k2, hq2⟩ => ?_⟩
    rcases hq2 with ⟨_, rfl⟩ | ⟨hz, _⟩
    rotate_left
    · exact absurd hz hne
    refine ⟨_, _, rfl, second _ wf2 fun h3 p n q m wf3 k3 hn hm hq => ?_⟩
    subst hn hm
    simp only [nes, eqb, nt, ff, hq, iZ]
    rw [if_neg (by simp)]
    refine ⟨fun v hh => v = .bool true ∧ hh = h3, fun hf => by simp at hf, fun _ => ⟨true, rfl, rfl⟩, ?_⟩
    rintro b1 h4 ⟨e, rfl⟩
    simp at e; subst e
    simp only [nt, nf, andB]
    refine ⟨fun v hh => v = .slice none 0 0 ∧ hh = h4, fun hf => by simp at hf, fun _ => ⟨none, 0, 0, rfl, rfl⟩, ?_⟩
    rintro a6 l6 c6 h5 ⟨e, rfl⟩
    refine ⟨fun v hh => v = .bool true ∧ hh = h5, fun hf => by simp at hf, fun _ => ⟨true, rfl, rfl⟩, ?_⟩
    rintro b6 h6 ⟨e, rfl⟩
    simp at e; subst e
    simp only [nt, sel]
    rw [if_neg (by simp)]
    exact (c25 h6).mono fun v h' ⟨e, _⟩ => ⟨true, e, rfl⟩
  · refine ⟨_, _, rfl, (c41 sI1 (by omega) page most).wf fun v h2 wf2 _ ⟨k2, hq2⟩ => ?_⟩
    rcases hq2 with ⟨hne, _⟩ | ⟨_, q, p0, ps, pd, pw, pa, s', dd', w', a', rfl, x2, hn2⟩
    · exact absurd hz hne
    obtain ⟨k, M, f0, _, _⟩ := newD_fit hz
    have X2 := DAt.of x2
    have b2 := k2.blk rb
    refine ⟨_, _, rfl, second _ wf2 fun h3 p n q4 m wf3 k3 hn hm hq => ?_⟩
    subst hn hm
    have X3 := X2.kept k3
    have b3 := k3.blk b2
    have ro3 := (ro.keep k2 fun _ _ hf => hf).keep k3 fun _ _ hf => hf
    have hrl : rs.l = image.length := ro3.2.symm
    simp only [nes, eqb, nt, ff, hq, iN]
    rw [if_neg (by simp)]
    refine ⟨fun v hh => v = .bool true ∧ Wf hh ∧ Kept h3 hh, fun _ => ?_, fun hf => by simp [notB] at hf, ?_⟩
    · refine (c42 X3 f0 (dv := rs) (wv := ⟨none, 0, 0⟩) (av := ⟨none, 0, 0⟩) b3 rfl fun hh kh => ?_).wf fun v h4 wf4 _ ⟨e, k4⟩ => ⟨_, e, rfl, wf4, k4⟩
      refine (c71 (kh.blk b3)).mono fun v h' ⟨e, e'⟩ => ⟨?_, e'⟩
      rw [e, hrl]; rfl
    rintro b1 h4 ⟨e, wf4, k4⟩
    simp at e; subst e
    simp only [nt, nf, andB]
    refine ⟨fun v hh => (∃ s g, v = Sv.v s ∧ OwT encS 1 hh g s image) ∧ Wf hh ∧ Kept h4 hh, fun _ => ?_, fun hf => by simp at hf, ?_⟩
    · exact ((X3.kept k4).image f0).wf fun v h5 wf5 _ ⟨s', g', e, o, _, k'⟩ => ⟨_, _, _, e, ⟨s', g', rfl, o⟩, wf5, k'⟩
    rintro a6 l6 c6 h5 ⟨⟨s6, g6, e, o6⟩, wf5, k5⟩
    simp at e
    obtain ⟨rfl, rfl, rfl⟩ := e
    have sI5 := ((((sI1.keep k2 (by simp)).keep k3 (by simp)).keep k4 (by simp)).keep k5 (by simp))
    refine ⟨fun v hh => v = .bool true ∧ hh = h5, fun _ => ?_, fun hf => by simp at hf, ?_⟩
    · refine (c43 o6.slT sI5 (by rw [← o6.2]; have := sI.len; omega)).mono fun v hh ⟨e, e'⟩ => ⟨_, e, ?_, e'⟩
      simp
    rintro b6 h6 ⟨e, rfl⟩
    simp at e; subst e
    simp only [nt, ff, sel]
    rw [if_neg (by simp)]
    exact (c25 h6).mono fun v h' ⟨e, _⟩ => ⟨true, e, rfl⟩
end Go.Proofs.Ytfkhjbfddeahaaa.kc
