/- Contracts: From, New; the laws' text, seen, alike. -/
import Derived.Test.YtfkhjbfddeahaaaDiskK
set_option linter.unusedVariables false
namespace Go.Proofs.Ytfkhjbfddeahaaa.kc
open Go Go.Cn Go.Proofs Go.Proofs.Ytfkhjbfddeahaaa.vc

def encI (n : Int) : List Value := [.int .i64 n]
theorem encI_w (x : Int) : (encI x).length = 1 := rfl

theorem c95 {h : Hp} {G : Option Nat} {a : Option Addr} {l c : Nat} {L : List Int} (s : SlT encI 1 h G a l c L) (hl : l ≤ 8589934592) (x : Int) :
    C 95 [.slice a l c, .int .i64 x] h fun v h' => (∃ n, v = .int .i64 n ∧ geI n 0 = decide (x ∈ L)) ∧ h' = h := by
  refine SCalls_of_vw fol (pf := pf) (shp := shp95) (f := 95) (fn := Try.f95) (by kernel_rfl) (c := Try.f95.body.getD .skip) (by kernel_rfl) (by kernel_rfl) fun wf => ?_
  rw [vc95]
  have hL := s.len
  refine ⟨fun vals m hh => ∃ i : Nat, [.int .i64 i] = vals ∧ i ≤ l ∧ m = l - i ∧ hh = h ∧ ∀ (j : Nat) y, j < i → L[j]? = some y → x ≠ y, ⟨l, 0, rfl, by omega, rfl, rfl, by omega⟩, ?_⟩
  rintro n m hh ⟨i, e, hi, rfl, rfl, hno⟩
  simp at e; subst e
  split
  · rename_i hlt
    have hlt : i < l := by rw [ltI_iff] at hlt; simp only [natI] at hlt; omega
    have hz : L[i]? = some (L[i]'(by omega)) := List.getElem?_eq_getElem _
    generalize L[i]'(by omega) = z at hz
    obtain ⟨i1, i2⟩ := s.get encI_w hz (j := 0) (m := 1) (by omega)
    refine ⟨⟨i1, by simp only [inR]; omega⟩, z, ⟨rfl, i2.trans rfl⟩, ?_⟩
    split
    · rename_i he
      have he : x = z := eqI_iff.mp he
      refine ⟨⟨_, rfl, ?_⟩, rfl⟩
      rw [geI_iff.mpr (by omega), decide_eq_true (by rw [he]; exact List.mem_of_getElem? hz)]
    · rename_i he
      refine ⟨l - (i + 1), by simp only [lessN]; omega, i + 1, by rw [addW_small (by omega) (by omega)]; rfl, by omega, rfl, rfl, fun j y hj hy => ?_⟩
      by_cases hji : j = i
      · subst hji; rw [hz] at hy; simp at hy; subst hy; exact fun h => he (eqI_iff.mpr h)
      · exact hno j y (by omega) hy
  · rename_i hlt
    have hil : i = l := by rw [ltI_iff] at hlt; simp only [natI] at hlt; omega
    refine ⟨⟨_, rfl, ?_⟩, rfl⟩
    have : ¬ x ∈ L := fun hx => by
      obtain ⟨j, hj⟩ := List.getElem?_of_mem hx
      exact hno j x (by have := (List.getElem?_eq_some_iff.mp hj).1; omega) hj rfl
    rw [decide_eq_false this]; rfl

theorem c65 {h : Hp} {G : Option Nat} {a : Option Addr} {l c : Nat} {L : List Int} (s : SlT encI 1 h G a l c L) (hl : l ≤ 8589934592) (x : Int) :
    C 65 [.slice a l c, .int .i64 x] h fun v h' => v = .bool (decide (x ∈ L)) ∧ h' = h := by
  refine SCalls_of_vw fol (pf := pf) (shp := shp65) (f := 65) (fn := Try.f65) (by kernel_rfl) (c := Try.f65.body.getD .skip) (by kernel_rfl) (by kernel_rfl) fun wf => ?_
  rw [vc65]
  exact (c95 s hl x).mono fun v h' ⟨⟨n, e, hn⟩, e'⟩ => ⟨n, e, by rw [hn], e'⟩

theorem c67 {h : Hp} {p : Nat} {g : Option Nat} {n : Int} (hb : Blk h p g [.int .i64 n]) (x : ByteArray) : C 67 [.string x, .pointer (some ⟨p, 0, none⟩)] h fun v h' => v = .bool (neI x.size n) ∧ h' = h := by
  refine SCalls_of_vw fol (pf := pf) (shp := shp67) (f := 67) (fn := Try.f67) (by kernel_rfl) (c := Try.f67.body.getD .skip) (by kernel_rfl) (by kernel_rfl) fun wf => ?_
  rw [vc67]
  exact ⟨n, ⟨rfl, hb.one rfl⟩, rfl, rfl⟩

def oddOne (page : Int) (x : ByteArray) : Bool := neI x.size page

theorem c96 {h : Hp} {p : Nat} {g : Option Nat} {n : Int} (hb : Blk h p g [.int .i64 n]) {G : Option Nat} {a : Option Addr} {l c : Nat} {L : List ByteArray} (s : SlT encS 1 h G a l c L) (hl : l ≤ 8589934592) :
    C 96 [.slice a l c, .func (.func 67) #[] #[.pointer (some ⟨p, 0, none⟩)]] h fun v h' => (∃ i, v = .int .i64 i ∧ geI i 0 = L.any (oddOne n)) ∧ h' = h := by
  refine SCalls_of_vw fol (pf := pf) (shp := shp96) (f := 96) (fn := Try.f96) (by kernel_rfl) (c := Try.f96.body.getD .skip) (by kernel_rfl) (by kernel_rfl) fun wf => ?_
  rw [vc96]
  have hL := s.len
  refine ⟨fun vals m hh => ∃ i : Nat, [.int .i64 i] = vals ∧ i ≤ l ∧ m = l - i ∧ hh = h ∧ ∀ (j : Nat) y, j < i → L[j]? = some y → oddOne n y = false, ⟨l, 0, rfl, by omega, rfl, rfl, by omega⟩, ?_⟩
  rintro n1 m hh ⟨i, e, hi, rfl, rfl, hno⟩
  simp at e; subst e
  split
  · rename_i hlt
    have hlt : i < l := by rw [ltI_iff] at hlt; simp only [natI] at hlt; omega
    have hz : L[i]? = some (L[i]'(by omega)) := List.getElem?_eq_getElem _
    generalize L[i]'(by omega) = z at hz
    obtain ⟨i1, i2⟩ := s.get encS_w hz (j := 0) (m := 1) (by omega)
    refine ⟨⟨i1, by simp only [inR]; omega⟩, z, ⟨rfl, i2.trans rfl⟩, (c67 hb z).mono fun v h' ⟨e, e'⟩ => ⟨_, e, ?_⟩⟩
    subst e'
    split
    · rename_i he
      refine ⟨⟨_, rfl, ?_⟩, rfl⟩
      rw [geI_iff.mpr (by omega)]
      symm
      rw [List.any_eq_true]
      exact ⟨z, List.mem_of_getElem? hz, he⟩
    · rename_i he
      refine ⟨l - (i + 1), by simp only [lessN]; omega, i + 1, by rw [addW_small (by omega) (by omega)]; rfl, by omega, rfl, rfl, fun j y hj hy => ?_⟩
      by_cases hji : j = i
      · subst hji; rw [hz] at hy; simp at hy; subst hy; simpa [oddOne] using he
      · exact hno j y (by omega) hy
  · rename_i hlt
    have hil : i = l := by rw [ltI_iff] at hlt; simp only [natI] at hlt; omega
    refine ⟨⟨_, rfl, ?_⟩, rfl⟩
    have : L.any (oddOne n) = false := by
      rw [List.any_eq_false]
      intro y hy
      obtain ⟨j, hj⟩ := List.getElem?_of_mem hy
      rw [hno j y (by have := (List.getElem?_eq_some_iff.mp hj).1; omega) hj]; simp
    rw [this]; rfl

theorem c66 {h : Hp} {p : Nat} {g : Option Nat} {n : Int} (hb : Blk h p g [.int .i64 n]) {G : Option Nat} {a : Option Addr} {l c : Nat} {L : List ByteArray} (s : SlT encS 1 h G a l c L) (hl : l ≤ 8589934592) :
    C 66 [.slice a l c, .func (.func 67) #[] #[.pointer (some ⟨p, 0, none⟩)]] h fun v h' => v = .bool (L.any (oddOne n)) ∧ h' = h := by
  refine SCalls_of_vw fol (pf := pf) (shp := shp66) (f := 66) (fn := Try.f66) (by kernel_rfl) (c := Try.f66.body.getD .skip) (by kernel_rfl) (by kernel_rfl) fun wf => ?_
  rw [vc66]
  exact (c96 hb s hl).mono fun v h' ⟨⟨n, e, hn⟩, e'⟩ => ⟨n, e, by rw [hn], e'⟩

def paged (p : Int) : Prop := p ∈ [1024, 2048, 4096, 8192]
instance (p : Int) : Decidable (paged p) := inferInstanceAs (Decidable (_ ∈ _))
def fromE (page most : Int) (image : List ByteArray) : Int :=
  if ¬ paged page ∨ most < 1 ∨ most > 65536 then 2 else if (image.length : Int) > most ∨ image.any (oddOne page) = true then 42 else 0
def newD (page most : Int) (image : List ByteArray) : Dk := ⟨page, image, image, most, false, [], [], 0, 0, 0, 0, 0⟩

theorem newD_fit {page most : Int} {image : List ByteArray} (he : fromE page most image = 0) : ∃ k M, (newD page most image).fit k M 0 ∧ (8 * k : Nat) = page ∧ (M : Int) = most := by
  unfold fromE at he
  split at he
  · simp at he
  · rename_i h1
    split at he
    · simp at he
    · rename_i h2
      simp only [not_or, Decidable.not_not, Bool.not_eq_true] at h1 h2
      obtain ⟨h3, h4, h5⟩ := h1
      obtain ⟨h6, h7⟩ := h2
      have hp : page = 1024 ∨ page = 2048 ∨ page = 4096 ∨ page = 8192 := by
        have : page ∈ [(1024 : Int), 2048, 4096, 8192] := h3
        simpa using this
      have hs : ∀ x ∈ image, (x.size : Int) = page := by
        intro x hx
        have := List.any_eq_false.mp h7 x hx
        simp only [oddOne, neI_iff, ne_eq, Decidable.not_not] at this
        exact this
      refine ⟨page.toNat / 8, most.toNat, ⟨⟨?_, by omega, by omega, by omega, by simp only [newD]; omega, ?_, ?_, by simp only [newD]; omega, by simp only [newD]; omega, by simp [newD]⟩, by simp [newD], by simp [newD], by simp [newD]⟩, by omega, by omega⟩
      · simp only [newD]; omega
      · intro x hx; have := hs x hx; omega
      · intro x hx; have := hs x hx; omega

/-- see, of a new disk. -/
theorem c68n {h : Hp} {d g0 : Nat} {gd : Option Nat} {v0 v1 : Value} {bytes : Int} {dd : Sv} {L : List ByteArray} {rest : List Value} (b : Blk h d (some g0) (v0 :: v1 :: .int .i64 bytes :: dd.v :: rest)) (o : OwT encS 1 h gd dd L) (hl : L.length ≤ 8589934592) :
    C 68 [.pointer (some ⟨d, 0, none⟩)] h fun v h' => v = .tuple #[] ∧ ∃ g' s', OwT encS 1 h' g' s' L ∧ (g' = none ∨ ∃ y, g' = some y ∧ h.next ≤ y) ∧ Blk h' d (some g0) (.int .i64 bytes :: s'.v :: .int .i64 bytes :: dd.v :: rest) ∧ Keep (· = g0) h h' := by
  refine SCalls_of_vw fol (pf := pf) (shp := shp68) (f := 68) (fn := Try.f68) (by kernel_rfl) (c := Try.f68.body.getD .skip) (by kernel_rfl) (by kernel_rfl) fun wf => ?_
  rw [vc68]
  have hg0 := b.glt wf
  refine ⟨rfl, rfl, rfl, bytes, ⟨rfl, b.one rfl⟩, rfl, rfl, rfl, dd.a, dd.l, dd.c, ⟨rfl, b.one rfl⟩, ?_⟩
  refine (c59 o.slT (by rw [← o.2]; exact hl)).wf fun v h1 wf1 _ ⟨s', g', e, o1, n, k⟩ => ⟨s'.a, s'.l, s'.c, e, ?_⟩
  have b1 := k.blk b
  obtain ⟨h2, e2, b2, k2, n2, w2⟩ := b1.store (o := 0) (vs := [.int .i64 bytes, s'.v]) (by simp) rfl
  refine ⟨⟨rfl, b1.one rfl⟩, rfl, rfl, rfl, h2, e2, rfl, g', s', o1.keep k2 fun y hy he => ?_, n, b2, (k.mono wf fun _ _ hf => hf.elim).trans wf k2 fun _ _ hy => hy⟩
  rcases n with rfl | ⟨z, rfl, hz⟩
  · simp at hy
  · simp at hy; omega

/-- From. -/
theorem c41 {h : Hp} {G : Option Nat} {a : Option Addr} {l c : Nat} {image : List ByteArray} (sI : SlT encS 1 h G a l c image) (hl : l ≤ 8589934592) (page most : Int) :
    C 41 [.int .i64 page, .int .i64 most, .slice a l c] h fun v h' => Kept h h' ∧ ((fromE page most image ≠ 0 ∧ v = .tuple #[.pointer none, .int .i64 (fromE page most image)]) ∨
      (fromE page most image = 0 ∧ ∃ q p0 ps pd pw pa s' dd' w' a', v = .tuple #[.pointer (some ⟨q, 0, none⟩), .int .i64 0] ∧ DX h' q p0 ps pd pw pa (fun _ => False) (newD page most image) s' dd' w' a' ∧ (∀ y, own p0 ps pd pw pa y → h.next ≤ y))) := by
  refine SCalls_of_vw fol (pf := pf) (shp := shp41) (f := 41) (fn := Try.f41) (by kernel_rfl) (c := Try.f41.body.getD .skip) (by kernel_rfl) (by kernel_rfl) fun wf => ?_
  rw [vc41]
  intro h1 e1
  obtain ⟨b1, k1, n1, wf1⟩ := new_blk wf e1
  intro h2 e2
  obtain ⟨b2, k2, n2, wf2⟩ := new_blk wf1 e2
  have b12 := k2.blk b1
  have k02 : Kept h h2 := k1.trans wf k2 fun _ _ hf => hf
  refine ⟨page, ⟨rfl, b12.one rfl⟩, ?_⟩
  have sl : SlT encI 1 h2 (some h1.next) (some ⟨h1.next, 0, none⟩) 4 4 [1024, 2048, 4096, 8192] := ⟨⟨Nat.le_refl _, rfl, .inl rfl, fun _ => ⟨_, b2, Nat.le_refl _, rfl⟩⟩, rfl⟩
  refine (c65 sl (by omega) page).mono fun v h' ⟨e, e'⟩ => ⟨_, e, ?_⟩
  subst e'
  by_cases h0 : ¬ paged page ∨ most < 1 ∨ most > 65536
  · have hE : fromE page most image = 2 := by unfold fromE; rw [if_pos h0]
    rw [if_pos, hE]
    · exact ⟨k02, .inl ⟨by omega, rfl⟩⟩
    · rw [or_iff, or_iff, notB_iff, ltI_iff, gtI_iff, decide_eq_false_iff_not]
      rcases h0 with h0 | h0 | h0
      · exact .inl (.inl h0)
      · exact .inl (.inr h0)
      · exact .inr h0
  rw [if_neg]
  rotate_left
  · rw [or_iff, or_iff, notB_iff, ltI_iff, gtI_iff, decide_eq_false_iff_not]
    intro h3
    rcases h3 with (h3 | h3) | h3
    · exact h0 (.inl h3)
    · exact h0 (.inr (.inl h3))
    · exact h0 (.inr (.inr h3))
  have sI2 := sI.keep k02 fun _ _ hf => hf
  have hil := sI.len
  refine ⟨fun v hh => hh = h' ∧ (notB (gtI (natI l) most) = true → v = .bool (image.any (oddOne page))), fun hg => (c66 b12 sI2 hl).mono fun v h3 ⟨e, e'⟩ => ⟨_, e, e', fun _ => rfl⟩, fun hg => ⟨true, rfl, fun hh => by rw [hg] at hh; simp at hh⟩, ?_⟩
  rintro bb h3 ⟨rfl, hq⟩
  by_cases h4 : (image.length : Int) > most ∨ image.any (oddOne page) = true
  · have hE : fromE page most image = 42 := by unfold fromE; rw [if_neg h0, if_pos h4]
    rw [if_pos, hE]
    · exact ⟨k02, .inl ⟨by omega, rfl⟩⟩
    · rw [or_iff, gtI_iff]
      by_cases h5 : natI l > most
      · exact .inl h5
      · have := hq (by rw [notB_iff, Bool.eq_false_iff]; intro h6; exact h5 (gtI_iff.mp h6))
        simp at this
        rw [this]
        rcases h4 with h4 | h4
        · exact .inl (by simp only [natI]; omega)
        · exact .inr h4
  have hbig : ¬ natI l > most := fun h5 => h4 (.inl (by simp only [natI] at h5; omega))
  rw [if_neg]
  rotate_left
  · rw [or_iff, gtI_iff]
    intro h5
    rcases h5 with h5 | h5
    · exact hbig h5
    · have := hq (by rw [notB_iff, Bool.eq_false_iff]; intro h6; exact hbig (gtI_iff.mp h6))
      simp at this
      rw [this] at h5
      exact h4 (.inr h5)
  have hE : fromE page most image = 0 := by unfold fromE; rw [if_neg h0, if_neg h4]
  refine ⟨page, ⟨rfl, b12.one rfl⟩, (c59 sI2 hl).wf fun v h4 wf4 _ ⟨s4, g4, e, o4, m4, k4⟩ => ⟨_, _, _, e, ⟨rfl, (Kept.blk k4 b12).one rfl⟩, ?_⟩⟩
  intro h5 e5
  obtain ⟨b5, k5, n5, wf5⟩ := new_blk wf4 e5
  have g4lt := o4.1.glt wf4
  have o5 := o4.keep k5 fun _ _ hf => hf
  have hkn : h.next ≤ h4.next := Nat.le_trans k02.next k4.next
  have k05 : Kept h h5 := (k02.trans wf k4 fun _ _ hf => hf).trans wf k5 fun _ _ hf => hf
  refine (c68n b5 o5 (by omega)).wf fun v h6 wf6 _ ⟨e6, g6, s6, o6, m6, b6, k6⟩ => ⟨e6, ?_⟩
  have m4' : ∀ y, g4 = some y → h.next ≤ y := fun y hy => by
    rcases m4 with rfl | ⟨z, rfl, hz⟩
    · simp at hy
    · simp at hy; have := k02.next; omega
  have m6' : ∀ y, g6 = some y → h5.next ≤ y := fun y hy => by
    rcases m6 with rfl | ⟨z, rfl, hz⟩
    · simp at hy
    · simp at hy; omega
  refine ⟨k05.trans wf k6 fun y hy he => by omega, .inr ⟨hE, h4.next, h4.next, g6, g4, none, none, s6, s4, ⟨none, 0, 0⟩, ⟨none, 0, 0⟩, rfl, ?_, ?_⟩⟩
  · refine ⟨b6, o6, o5.keep k6 fun y hy he => ?_, OwT.nil, OwT.nil, by simp [newD], ?_, ?_, Ap.nr _, Ap.nr _, ?_, Ap.nr _, Ap.nr _, Ap.nr _, Ap.nr _, Ap.nr _, by simp, by simp⟩
    · have := g4lt y hy; omega
    · intro y hy he; simp at hy; have := m6' y he; omega
    · intro y hy he; simp at hy; have := g4lt y he; omega
    · intro y hy he; have := m6' y hy; have := g4lt y he; omega
  · intro y hy
    rcases hy with hy | hy | hy | hy | hy
    · omega
    · have := m6' y hy; omega
    · exact m4' y hy
    · simp at hy
    · simp at hy

/-- New. -/
theorem c26 (h : Hp) (page most : Int) :
    C 26 [.int .i64 page, .int .i64 most] h fun v h' => Kept h h' ∧ ((fromE page most [] ≠ 0 ∧ v = .tuple #[.pointer none, .int .i64 (fromE page most [])]) ∨
      (fromE page most [] = 0 ∧ ∃ q p0 ps pd pw pa s' dd' w' a', v = .tuple #[.pointer (some ⟨q, 0, none⟩), .int .i64 0] ∧ DX h' q p0 ps pd pw pa (fun _ => False) (newD page most []) s' dd' w' a' ∧ (∀ y, own p0 ps pd pw pa y → h.next ≤ y))) := by
  refine SCalls_of_vw fol (pf := pf) (shp := shp26) (f := 26) (fn := Try.f26) (by kernel_rfl) (c := Try.f26.body.getD .skip) (by kernel_rfl) (by kernel_rfl) fun wf => ?_
  rw [vc26]
  refine (c41 (SlT.nil h none) (by omega) page most).mono fun v h' ⟨k, hq⟩ => ?_
  rcases hq with ⟨h1, rfl⟩ | ⟨h1, q, p0, ps, pd, pw, pa, s', dd', w', a', rfl, x, hn⟩
  · exact ⟨_, _, rfl, k, .inl ⟨h1, rfl⟩⟩
  · exact ⟨_, _, rfl, k, .inr ⟨h1, q, p0, ps, pd, pw, pa, s', dd', w', a', rfl, x, hn⟩⟩

/-- alike. -/
theorem c33 {h : Hp} {G G' : Option Nat} {a b : Option Addr} {l c l' c' : Nat} {L M : List ByteArray} (s : SlT encS 1 h G a l c L) (t : SlT encS 1 h G' b l' c' M) (hl : l ≤ 8589934592) :
    C 33 [.slice a l c, .slice b l' c'] h fun v h' => v = .bool (decide (L = M)) ∧ h' = h := by
  refine SCalls_of_vw fol (pf := pf) (shp := shp33) (f := 33) (fn := Try.f33) (by kernel_rfl) (c := Try.f33.body.getD .skip) (by kernel_rfl) (by kernel_rfl) fun wf => ?_
  rw [vc33]
  have hL := s.len
  have hM := t.len
  by_cases hll : l = l'
  rotate_left
  · rw [if_pos (by rw [neI_iff]; simp only [natI]; omega)]
    refine ⟨?_, rfl⟩
    rw [decide_eq_false]; intro e; subst e; omega
  rw [if_neg (by rw [neI_iff]; simp only [natI]; omega)]
  refine ⟨fun vals m hh => ∃ i : Nat, [.int .i64 i] = vals ∧ i ≤ l ∧ m = l - i ∧ hh = h ∧ ∀ (j : Nat), j < i → L[j]? = M[j]?, ⟨l, 0, rfl, by omega, rfl, rfl, by omega⟩, ?_⟩
  rintro n m hh ⟨i, e, hi, rfl, rfl, hno⟩
  simp at e; subst e
  split
  · rename_i hlt
    have hlt : i < l := by rw [ltI_iff] at hlt; simp only [natI] at hlt; omega
    have hz : L[i]? = some (L[i]'(by omega)) := List.getElem?_eq_getElem _
    have hy : M[i]? = some (M[i]'(by omega)) := List.getElem?_eq_getElem _
    generalize L[i]'(by omega) = z at hz
    generalize M[i]'(by omega) = y at hy
    obtain ⟨i1, i2⟩ := s.get encS_w hz (j := 0) (m := 1) (by omega)
    obtain ⟨j1, j2⟩ := t.get encS_w hy (j := 0) (m := 1) (by omega)
    refine ⟨⟨i1, by simp only [inR]; omega⟩, z, ⟨rfl, i2.trans rfl⟩, ⟨j1, by simp only [inR]; omega⟩, y, ⟨rfl, j2.trans rfl⟩, ?_⟩
    by_cases hzy : z = y
    rotate_left
    · rw [if_pos (by rw [notB_iff, Bool.eq_false_iff]; intro h1; exact hzy ((eq_iff _ _).mp h1))]
      refine ⟨?_, rfl⟩
      rw [decide_eq_false]; intro e; rw [e, hy] at hz; simp at hz; exact hzy hz.symm
    rw [if_neg (by rw [notB_iff, (eq_iff _ _).mpr hzy]; simp)]
    refine ⟨l - (i + 1), by simp only [lessN]; omega, i + 1, by rw [addW_small (by omega) (by omega)]; rfl, by omega, rfl, rfl, fun j hj => ?_⟩
    by_cases hji : j = i
    · subst hji; rw [hz, hy, hzy]
    · exact hno j (by omega)
  · rename_i hlt
    have hil : i = l := by rw [ltI_iff] at hlt; simp only [natI] at hlt; omega
    refine ⟨?_, rfl⟩
    rw [decide_eq_true]
    apply List.ext_getElem?
    intro j
    by_cases hj : j < i
    · exact hno j hj
    · rw [List.getElem?_eq_none (by omega), List.getElem?_eq_none (by omega)]

def seenL (D : Dk) : List ByteArray := if D.off = true then [] else D.seen

/-- seen. -/
theorem c28 {k M : Nat} {h : Hp} {d g0 : Nat} {gs gd gw ga : Option Nat} {R : Nat → Prop} {D : Dk} {s dd w a : Sv} (x : DX h d g0 gs gd gw ga R D s dd w a) (ok : D.ok k M) :
    C 28 [.pointer (some ⟨d, 0, none⟩)] h (Cloned encS 1 h (seenL D)) := by
  refine SCalls_of_vw fol (pf := pf) (shp := shp28) (f := 28) (fn := Try.f28) (by kernel_rfl) (c := Try.f28.body.getD .skip) (by kernel_rfl) (by kernel_rfl) fun wf => ?_
  rw [vc28]
  have hm1 := ok.m1
  have hsM := ok.seenL
  refine (c57 x ok.pos).mono fun v h' ⟨e, e'⟩ => ⟨_, e, ?_⟩
  subst e'
  refine ⟨fun vals m hh => ∃ (i : Nat) (s' : Sv) (g' : Option Nat), [s'.v, .int .i64 i] = vals ∧ i ≤ D.seen.length ∧ m = D.seen.length - i ∧ Wf hh ∧ OwT encS 1 hh g' s' (D.seen.take i) ∧ (g' = none ∨ ∃ y, g' = some y ∧ h'.next ≤ y) ∧ Kept h' hh ∧ (D.off = true → i = 0),
    ⟨_, 0, ⟨none, 0, 0⟩, none, rfl, Nat.zero_le _, rfl, wf, by simpa using OwT.nil (enc := encS) (w := 1), .inl rfl, Keep.refl _ _, fun _ => rfl⟩, ?_⟩
  rintro a1 l1 c1 n m hh ⟨i, s', g', e, hi, rfl, wf1, o1, n1, k1, hoff⟩
  simp at e
  obtain ⟨⟨rfl, rfl, rfl⟩, rfl⟩ := e
  have hsl : s'.l = i := by rw [← o1.2]; simp; omega
  split
  · rename_i hlt
    have hlt : i < D.seen.length := by rw [ltI_iff] at hlt; simp only [natI] at hlt; omega
    have x1 := x.kept k1
    have hu : toW .u32 (i : Int) = (i : Int) := by unfold toW IntKind.wrap; simp [IntKind.bits, IntKind.signed]; omega
    rw [hu]
    refine (c55 x1 ok (by omega)).mono fun v h2 ⟨e, e'⟩ => ⟨_, _, e, ?_⟩
    subst e'
    by_cases ho : D.off = true
    · have hr : readD D i = (⟨#[]⟩, 7) := by unfold readD; rw [if_pos ho]
      rw [hr, if_pos (by rfl)]
      have : seenL D = [] := by unfold seenL; rw [if_pos ho]
      rw [this]
      exact ⟨⟨none, 0, 0⟩, none, rfl, OwT.nil, .inl rfl, k1⟩
    have hz : D.seen[i]? = some (D.seen[i]) := List.getElem?_eq_getElem _
    generalize D.seen[i] = z at hz
    have hr : readD D i = (z, 0) := by unfold readD; rw [if_neg ho, Int.toNat_natCast, hz]
    rw [hr, if_neg (by rw [neI_iff]; simp)]
    intro h4 e4
    obtain ⟨a5, c5, g5, h5, e5, o5, nw5, k5, wf5⟩ := Ow.append1 wf1 app40 o1.1 e4 rfl rfl (room (by omega) (by omega))
    refine ⟨a5, _, c5, h5, e5, D.seen.length - (i + 1), by simp only [lessN]; omega, i + 1, ⟨a5, s'.l + 1, c5⟩, g5, by rw [addW_small (by omega) (by omega)]; rfl, by omega, rfl, wf5, ⟨?_, ?_⟩, ?_, ?_, fun h => absurd h ho⟩
    · have : D.seen.take (i + 1) = D.seen.take i ++ [z] := by rw [List.take_add_one, hz]; simp
      rw [this, flatS]
      exact o5
    · simp; omega
    · rcases nw5 with rfl | ⟨y, rfl, hy⟩
      · exact n1
      · exact .inr ⟨y, rfl, by have := k1.next; omega⟩
    · refine k1.trans wf k5 fun y hy he => ?_
      rcases n1 with rfl | ⟨z, rfl, hz⟩
      · simp at he
      · simp at he; omega
  · rename_i hlt
    have hil : i = D.seen.length := by rw [ltI_iff] at hlt; simp only [natI] at hlt; omega
    have ht : D.seen.take i = D.seen := List.take_of_length_le (by omega)
    rw [ht] at o1
    have : seenL D = D.seen := by
      unfold seenL
      split
      · rename_i ho
        have := hoff ho
        symm; apply List.eq_nil_of_length_eq_zero; omega
      · rfl
    rw [this]
    exact ⟨s', g', rfl, o1, n1, k1⟩

/-! ### text -/
def textX (x y : Int) : Nat → Int
  | 0 => x
  | n + 1 => addW .u8 (textX x y n) y
def textC (x y : Int) (n : Nat) : List Value := (List.range n).map fun i => .int .u8 (textX x y i)
def textB (x y : Int) (n : Nat) : ByteArray := ⟨((List.range n).map fun i => UInt8.ofNat (textX x y i).toNat).toArray⟩
theorem textB_size (x y : Int) (n : Nat) : (textB x y n).size = n := by
  show Array.size _ = n
  simp
theorem bytesOf_text (f : Nat → Int) : ∀ L : List Nat, bytesOf (L.map fun i => .int .u8 (f i)) = some (L.map fun i => UInt8.ofNat (f i).toNat)
  | [] => rfl
  | i :: L => by simp only [List.map_cons, bytesOf]; rw [bytesOf_text f L]; rfl

def textN (n p : Int) : Nat := if n < 0 ∨ n > 10000 then p.toNat else n.toNat

theorem fill_step {x y : Int} {i m : Nat} (hi : i < m) : (textC x y i ++ List.replicate (m - i) (Value.int .u8 0)).set i (.int .u8 (textX x y i)) = textC x y (i + 1) ++ List.replicate (m - (i + 1)) (Value.int .u8 0) := by
  have e1 : (textC x y i).length = i := by simp [textC]
  rw [List.set_append_right _ _ (by omega), e1, Nat.sub_self]
  have : m - i = (m - (i + 1)) + 1 := by omega
  rw [this, List.replicate_succ, List.set_cons_zero]
  have e2 : textC x y (i + 1) = textC x y i ++ [.int .u8 (textX x y i)] := by simp [textC, List.range_succ]
  rw [e2]; simp

theorem c29 (h : Hp) {n x y p : Int} (hp : 0 ≤ p ∧ p ≤ 1048576) : C 29 [.agg #[.int .i64 n, .int .u8 x, .int .u8 y], .int .i64 p] h fun v h' => v = .string (textB x y (textN n p)) ∧ Kept h h' := by
  refine SCalls_of_vw fol (pf := pf) (shp := shp29) (f := 29) (fn := Try.f29) (by kernel_rfl) (c := Try.f29.body.getD .skip) (by kernel_rfl) (by kernel_rfl) fun wf => ?_
  rw [vc29]
  intro h1 e1
  obtain ⟨b1, k1, n1, wf1⟩ := new_blk wf e1
  refine ⟨rfl, n, ⟨rfl, b1.one rfl⟩, ?_⟩
  have read : ∀ {hh : Hp} {m : Nat}, Blk hh h1.next (some h1.next) (textC x y m ++ List.replicate (m - m) (.int .u8 0)) → readStr (some ⟨h1.next, 0, none⟩) m hh (textB x y m) := by
    intro hh m b
    rw [Nat.sub_self, List.replicate_zero, List.append_nil] at b
    refine .inr ⟨rfl, _, b.cells (o := 0) (n := m) (by simp [textC]), ?_⟩
    rw [List.drop_zero, List.take_of_length_le (by simp [textC])]
    unfold textC
    rw [bytesOf_text]
    show _ = some ((List.range m).map fun i => UInt8.ofNat (textX x y i).toNat).toArray.toList
    rfl
  have main : ∀ m : Nat, m ≤ 1048576 → ∀ h2, Blk h2 h1.next (some h1.next) (List.replicate m (.int .u8 0)) → Kept h1 h2 → Wf h2 → h2.next = h1.next + 1 →
      ∃ I : List Value → Nat → Hp → Prop, (∃ q, I [.int .u8 x, .int .i64 0] q h2) ∧ ∀ (n n_1 : Int) (q : Nat) (hh : Hp), I [.int .u8 n, .int .i64 n_1] q hh → ∃ i : Nat, n_1 = i ∧ n = textX x y i ∧ i ≤ m ∧ q = m - i ∧ Kept h hh ∧ (i = m → readStr (some ⟨h1.next, 0, none⟩) m hh (textB x y m)) ∧
        (i < m → ∃ h3, hh.store h1.next i [.int .u8 n] = some h3 ∧ h3.cellsAt h.next 2 1 = some [.int .u8 y] ∧ I [.int .u8 (addW .u8 n y), .int .i64 (addW .i64 n_1 1)] (m - (i + 1)) h3) := by
    intro m hm h2 b2 k2 wf2 n2
    refine ⟨fun vals q hh => ∃ i : Nat, [.int .u8 (textX x y i), .int .i64 i] = vals ∧ i ≤ m ∧ q = m - i ∧ Wf hh ∧ Kept h hh ∧ Blk hh h.next (some h.next) [.int .i64 n, .int .u8 x, .int .u8 y] ∧ Blk hh h1.next (some h1.next) (textC x y i ++ List.replicate (m - i) (.int .u8 0)),
      ⟨_, 0, rfl, Nat.zero_le _, rfl, wf2, k1.trans wf k2 fun _ _ hf => hf, k2.blk b1, by simpa [textC] using b2⟩, ?_⟩
    rintro n0 n3 q hh ⟨i, e, hi, rfl, wf3, k3, b3, b4⟩
    simp at e
    obtain ⟨rfl, rfl⟩ := e
    refine ⟨i, rfl, rfl, hi, rfl, k3, fun him => by subst him; exact read b4, fun him => ?_⟩
    obtain ⟨h3, e3, b5, k5, n5, w5⟩ := b4.set (o := i) (v := .int .u8 (textX x y i)) (by simp [textC]; omega) rfl
    rw [fill_step him] at b5
    have b6 := k5.blk b3 fun z hz he => by simp at hz; omega
    exact ⟨h3, e3, b6.one rfl, i + 1, by rw [addW_small (by omega) (by omega)]; rfl, by omega, rfl, w5 wf3, k3.trans wf k5 fun z hz he => by omega, b6, b5⟩
  by_cases hc : n < 0 ∨ n > 10000
  · rw [if_pos (by rw [or_iff, ltI_iff, gtI_iff]; exact hc)]
    have hN : textN n p = p.toNat := by unfold textN; rw [if_pos hc]
    rw [hN]
    obtain ⟨h2, e2, b2, k2, n2, wf2⟩ := make_zeros wf1 (n := p) (m := p.toNat) (by omega) (by omega)
    obtain ⟨I, hI, hstep⟩ := main p.toNat (by omega) h2 b2 k2 wf2 n2
    refine ⟨_, _, _, h2, e2, rfl, x, ⟨rfl, (k2.blk b1).one rfl⟩, I, hI, ?_⟩
    intro n4 n5 q hh hi
    obtain ⟨i, rfl, rfl, him, rfl, kk, hend, hgo⟩ := hstep n4 n5 q hh hi
    split
    · rename_i hlt
      have hlt : i < p.toNat := by rw [ltI_iff] at hlt; omega
      obtain ⟨h3, e3, r3, i3⟩ := hgo hlt
      have hofs : plusI (off (some ⟨h1.next, 0, none⟩)) (i : Int) 1 = i := by simp [plusI, off]
      exact ⟨⟨rfl, by simp only [inR]; omega⟩, rfl, h3, by rw [hofs]; exact e3, rfl, y, ⟨rfl, r3⟩, _, by simp only [lessN]; omega, i3⟩
    · rename_i hlt
      have him' : i = p.toNat := by rw [ltI_iff] at hlt; omega
      exact ⟨_, hend him', rfl, kk⟩
  · rw [if_neg (by rw [or_iff, ltI_iff, gtI_iff]; exact hc)]
    have hN : textN n p = n.toNat := by unfold textN; rw [if_neg hc]
    rw [hN]
    obtain ⟨h2, e2, b2, k2, n2, wf2⟩ := make_zeros wf1 (n := n) (m := n.toNat) (by omega) (by omega)
    obtain ⟨I, hI, hstep⟩ := main n.toNat (by omega) h2 b2 k2 wf2 n2
    refine ⟨_, _, _, h2, e2, rfl, x, ⟨rfl, (k2.blk b1).one rfl⟩, I, hI, ?_⟩
    intro n4 n5 q hh hi
    obtain ⟨i, rfl, rfl, him, rfl, kk, hend, hgo⟩ := hstep n4 n5 q hh hi
    split
    · rename_i hlt
      have hlt : i < n.toNat := by rw [ltI_iff] at hlt; omega
      obtain ⟨h3, e3, r3, i3⟩ := hgo hlt
      have hofs : plusI (off (some ⟨h1.next, 0, none⟩)) (i : Int) 1 = i := by simp [plusI, off]
      exact ⟨⟨rfl, by simp only [inR]; omega⟩, rfl, h3, by rw [hofs]; exact e3, rfl, y, ⟨rfl, r3⟩, _, by simp only [lessN]; omega, i3⟩
    · rename_i hlt
      have him' : i = n.toNat := by rw [ltI_iff] at hlt; omega
      exact ⟨_, hend him', rfl, kk⟩
end Go.Proofs.Ytfkhjbfddeahaaa.kc
