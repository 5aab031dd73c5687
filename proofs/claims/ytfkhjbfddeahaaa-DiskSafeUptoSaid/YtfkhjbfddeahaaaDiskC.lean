/- The disk's memory, told by a plain record; small contracts. -/
import Derived.Test.YtfkhjbfddeahaaaCoG
import Derived.Test.YtfkhjbfddeahaaaDiskV
set_option linter.unusedVariables false
namespace Go.Proofs.Ytfkhjbfddeahaaa.kc
open Go Go.Cn Go.Proofs Go.Proofs.Ytfkhjbfddeahaaa.vc

theorem fol : Try.prog.follows .mixedOrders = true := by kernel_rfl
abbrev C := SCalls Try.prog

def encS (s : ByteArray) : List Value := [.string s]
def encF (n : Int) : List Value := [.int .u8 n]
theorem encS_w (x : ByteArray) : (encS x).length = 1 := rfl
theorem encF_w (x : Int) : (encF x).length = 1 := rfl

/-- What waits. -/
structure Wt where
  act : Int
  page : Int
  pages : Int
  data : ByteArray
def Wt.enc (x : Wt) : List Value := [.int .u8 x.act, .int .u32 x.page, .int .i64 x.pages, .string x.data]
theorem Wt.w (x : Wt) : x.enc.length = 4 := rfl

/-- An arm, and how many acts are left till it is due. -/
structure Ar where
  on : Int
  nth : Int
  pw : Bool
  fa : Option Addr
  fl : Nat
  fc : Nat
  left : Int
  fates : List Int
def Ar.enc (x : Ar) : List Value := [.int .u8 x.on, .int .i64 x.nth, .bool x.pw, .slice x.fa x.fl x.fc, .int .i64 x.left]
theorem Ar.w (x : Ar) : x.enc.length = 5 := rfl

structure Sv where
  a : Option Addr
  l : Nat
  c : Nat
abbrev Sv.v (s : Sv) : Value := .slice s.a s.l s.c

def OwT {α : Type} (enc : α → List Value) (w : Nat) (h : Hp) (g : Option Nat) (s : Sv) (L : List α) : Prop := Ow h w g s.a s.l s.c (L.flatMap enc) ∧ L.length = s.l

section
variable {α : Type} {enc : α → List Value} {w : Nat} {h : Hp} {g : Option Nat} {s : Sv} {L : List α}
theorem OwT.slT (o : OwT enc w h g s L) : SlT enc w h g s.a s.l s.c L := ⟨o.1.sl, o.2⟩
theorem OwT.keep {S : Nat → Prop} {h' : Hp} (k : Keep S h h') (o : OwT enc w h g s L) (hn : ∀ x, g = some x → ¬ S x) : OwT enc w h' g s L := ⟨o.1.keep k hn, o.2⟩
theorem OwT.nil : OwT enc w h none ⟨none, 0, 0⟩ ([] : List α) := ⟨Ow.nil h w, rfl⟩
end

/-- A disk, plainly. -/
structure Dk where
  bytes : Int
  seen : List ByteArray
  dur : List ByteArray
  most : Int
  off : Bool
  waits : List Wt
  arms : List Ar
  life : Int
  taken : Int
  wr : Int
  gr : Int
  sy : Int

def dcells (D : Dk) (s dd w a : Sv) : List Value :=
  [.int .i64 D.bytes, s.v, .int .i64 D.bytes, dd.v, .int .i64 D.most, .bool D.off, w.v, a.v, .int .i64 D.life, .int .i64 D.taken, .int .i64 D.wr, .int .i64 D.gr, .int .i64 D.sy]

structure DX (h : Hp) (d g0 : Nat) (gs gd gw ga : Option Nat) (R : Nat → Prop) (D : Dk) (s dd w a : Sv) : Prop where
  blk : Blk h d (some g0) (dcells D s dd w a)
  seen : OwT encS 1 h gs s D.seen
  dur : OwT encS 1 h gd dd D.dur
  waits : OwT Wt.enc 4 h gw w D.waits
  arms : OwT Ar.enc 5 h ga a D.arms
  fates : ∀ x ∈ D.arms, ∃ G, (∀ y, G = some y → R y) ∧ SlT encF 1 h G x.fa x.fl x.fc x.fates
  a1 : Ap (some g0) gs
  a2 : Ap (some g0) gd
  a3 : Ap (some g0) gw
  a4 : Ap (some g0) ga
  a5 : Ap gs gd
  a6 : Ap gs gw
  a7 : Ap gs ga
  a8 : Ap gd gw
  a9 : Ap gd ga
  a10 : Ap gw ga
  ro : ∀ y, R y → y ≠ g0 ∧ gs ≠ some y ∧ gd ≠ some y ∧ gw ≠ some y ∧ ga ≠ some y
  rlt : ∀ y, R y → y < h.next

def own (g0 : Nat) (gs gd gw ga : Option Nat) (y : Nat) : Prop := y = g0 ∨ gs = some y ∨ gd = some y ∨ gw = some y ∨ ga = some y

/-- A new group, or the old one. -/
def Nw (h : Hp) (g' g : Option Nat) : Prop := g' = g ∨ g' = none ∨ ∃ y, g' = some y ∧ h.next ≤ y
theorem Nw.same {h : Hp} {g : Option Nat} : Nw h g g := .inl _root_.rfl
theorem Nw.of {h : Hp} {g' g : Option Nat} (n : g' = g ∨ ∃ y, g' = some y ∧ h.next ≤ y) : Nw h g' g := by rcases n with n | n; exact .inl n; exact .inr (.inr n)
theorem Nw.ap {h : Hp} {g' g x : Option Nat} (n : Nw h g' g) (hx : ∀ y, x = some y → y < h.next) (ha : Ap x g) : Ap x g' := by
  rcases n with rfl | rfl | ⟨y, rfl, hy⟩
  · exact ha
  · exact Ap.nr x
  · intro z hz he; have := hx z hz; simp at he; omega

section
variable {h : Hp} {d g0 : Nat} {gs gd gw ga : Option Nat} {R : Nat → Prop} {D : Dk} {s dd w a : Sv}

theorem DX.lts (wf : Wf h) (x : DX h d g0 gs gd gw ga R D s dd w a) : g0 < h.next ∧ (∀ y, gs = some y → y < h.next) ∧ (∀ y, gd = some y → y < h.next) ∧ (∀ y, gw = some y → y < h.next) ∧ (∀ y, ga = some y → y < h.next) :=
  ⟨x.blk.glt wf, x.seen.1.glt wf, x.dur.1.glt wf, x.waits.1.glt wf, x.arms.1.glt wf⟩

theorem DX.keep {S : Nat → Prop} {h' : Hp} (k : Keep S h h') (x : DX h d g0 gs gd gw ga R D s dd w a) (hn : ∀ y, own g0 gs gd gw ga y ∨ R y → ¬ S y) : DX h' d g0 gs gd gw ga R D s dd w a := by
  refine ⟨k.blk x.blk fun y hy => hn y (.inl (.inl (by simpa using hy.symm))), x.seen.keep k fun y hy => hn y (.inl (.inr (.inl hy))), x.dur.keep k fun y hy => hn y (.inl (.inr (.inr (.inl hy)))), x.waits.keep k fun y hy => hn y (.inl (.inr (.inr (.inr (.inl hy))))),
    x.arms.keep k fun y hy => hn y (.inl (.inr (.inr (.inr (.inr hy))))), fun z hz => ?_, x.a1, x.a2, x.a3, x.a4, x.a5, x.a6, x.a7, x.a8, x.a9, x.a10, x.ro, fun y hy => Nat.lt_of_lt_of_le (x.rlt y hy) k.next⟩
  obtain ⟨G, hG, sG⟩ := x.fates z hz
  exact ⟨G, hG, sG.keep k fun y hy => hn y (.inr (hG y hy))⟩

theorem DX.kept {h' : Hp} (k : Kept h h') (x : DX h d g0 gs gd gw ga R D s dd w a) : DX h' d g0 gs gd gw ga R D s dd w a := x.keep k fun _ _ hf => hf

/-- The record alone was written. -/
theorem DX.base (x : DX h d g0 gs gd gw ga R D s dd w a) {h' : Hp} (k : Keep (· = g0) h h') {D' : Dk} (hb : Blk h' d (some g0) (dcells D' s dd w a)) (e1 : D'.seen = D.seen) (e2 : D'.dur = D.dur) (e3 : D'.waits = D.waits) (e4 : D'.arms = D.arms) :
    DX h' d g0 gs gd gw ga R D' s dd w a := by
  have n : ∀ {g : Option Nat}, Ap (some g0) g → ∀ y, g = some y → ¬ (y = g0) := fun ha y hy he => ha g0 rfl (by rw [hy, he])
  refine ⟨hb, by rw [e1]; exact x.seen.keep k (n x.a1), by rw [e2]; exact x.dur.keep k (n x.a2), by rw [e3]; exact x.waits.keep k (n x.a3), by rw [e4]; exact x.arms.keep k (n x.a4), fun z hz => ?_, x.a1, x.a2, x.a3, x.a4, x.a5, x.a6, x.a7, x.a8, x.a9, x.a10, x.ro, fun y hy => Nat.lt_of_lt_of_le (x.rlt y hy) k.next⟩
  rw [e4] at hz
  obtain ⟨G, hG, sG⟩ := x.fates z hz
  exact ⟨G, hG, sG.keep k fun y hy he => (x.ro y (hG y hy)).1 he⟩

/-- What is seen was changed, then the record. -/
theorem DX.setSeen (wf : Wf h) (x : DX h d g0 gs gd gw ga R D s dd w a) {h1 h2 : Hp} {gs' : Option Nat} {s' : Sv} {L : List ByteArray} (k1 : Keep (fun y => gs = some y) h h1) (o : OwT encS 1 h1 gs' s' L) (n : Nw h gs' gs) (k2 : Keep (· = g0) h1 h2)
    (hb : Blk h2 d (some g0) (dcells { D with seen := L } s' dd w a)) : DX h2 d g0 gs' gd gw ga R { D with seen := L } s' dd w a := by
  obtain ⟨l0, l1, l2, l3, l4⟩ := x.lts wf
  have m0 : ∀ {g : Option Nat}, Ap (some g0) g → ∀ y, g = some y → ¬ (y = g0) := fun ha y hy he => ha g0 rfl (by rw [hy, he])
  have m1 : ∀ {g : Option Nat}, Ap gs g → ∀ y, g = some y → ¬ (gs = some y) := fun ha y hy he => ha y he hy
  have c1 := n.ap (x := some g0) (by simpa using l0) x.a1
  refine ⟨hb, o.keep k2 (m0 c1), (x.dur.keep k1 (m1 x.a5)).keep k2 (m0 x.a2), (x.waits.keep k1 (m1 x.a6)).keep k2 (m0 x.a3), (x.arms.keep k1 (m1 x.a7)).keep k2 (m0 x.a4), fun z hz => ?_,
    c1, x.a2, x.a3, x.a4, (n.ap l2 x.a5.symm).symm, (n.ap l3 x.a6.symm).symm, (n.ap l4 x.a7.symm).symm, x.a8, x.a9, x.a10, fun y hy => ?_, fun y hy => Nat.lt_of_lt_of_le (x.rlt y hy) (Nat.le_trans k1.next k2.next)⟩
  · obtain ⟨G, hG, sG⟩ := x.fates z hz
    exact ⟨G, hG, (sG.keep k1 fun y hy he => (x.ro y (hG y hy)).2.1 he).keep k2 fun y hy he => (x.ro y (hG y hy)).1 he⟩
  · obtain ⟨r0, r1, r2, r3, r4⟩ := x.ro y hy
    refine ⟨r0, ?_, r2, r3, r4⟩
    rcases n with rfl | rfl | ⟨z, rfl, hz⟩
    · exact r1
    · simp
    · have := x.rlt y hy; simp; omega

theorem DX.setDur (wf : Wf h) (x : DX h d g0 gs gd gw ga R D s dd w a) {h1 h2 : Hp} {gd' : Option Nat} {dd' : Sv} {L : List ByteArray} (k1 : Keep (fun y => gd = some y) h h1) (o : OwT encS 1 h1 gd' dd' L) (n : Nw h gd' gd) (k2 : Keep (· = g0) h1 h2)
    (hb : Blk h2 d (some g0) (dcells { D with dur := L } s dd' w a)) : DX h2 d g0 gs gd' gw ga R { D with dur := L } s dd' w a := by
  obtain ⟨l0, l1, l2, l3, l4⟩ := x.lts wf
  have m0 : ∀ {g : Option Nat}, Ap (some g0) g → ∀ y, g = some y → ¬ (y = g0) := fun ha y hy he => ha g0 rfl (by rw [hy, he])
  have m1 : ∀ {g : Option Nat}, Ap gd g → ∀ y, g = some y → ¬ (gd = some y) := fun ha y hy he => ha y he hy
  have c1 := n.ap (x := some g0) (by simpa using l0) x.a2
  refine ⟨hb, (x.seen.keep k1 (m1 x.a5.symm)).keep k2 (m0 x.a1), o.keep k2 (m0 c1), (x.waits.keep k1 (m1 x.a8)).keep k2 (m0 x.a3), (x.arms.keep k1 (m1 x.a9)).keep k2 (m0 x.a4), fun z hz => ?_,
    x.a1, c1, x.a3, x.a4, n.ap l1 x.a5, x.a6, x.a7, (n.ap l3 x.a8.symm).symm, (n.ap l4 x.a9.symm).symm, x.a10, fun y hy => ?_, fun y hy => Nat.lt_of_lt_of_le (x.rlt y hy) (Nat.le_trans k1.next k2.next)⟩
  · obtain ⟨G, hG, sG⟩ := x.fates z hz
    exact ⟨G, hG, (sG.keep k1 fun y hy he => (x.ro y (hG y hy)).2.2.1 he).keep k2 fun y hy he => (x.ro y (hG y hy)).1 he⟩
  · obtain ⟨r0, r1, r2, r3, r4⟩ := x.ro y hy
    refine ⟨r0, r1, ?_, r3, r4⟩
    rcases n with rfl | rfl | ⟨z, rfl, hz⟩
    · exact r2
    · simp
    · have := x.rlt y hy; simp; omega

theorem DX.setWaits (wf : Wf h) (x : DX h d g0 gs gd gw ga R D s dd w a) {h1 h2 : Hp} {gw' : Option Nat} {w' : Sv} {L : List Wt} (k1 : Keep (fun y => gw = some y) h h1) (o : OwT Wt.enc 4 h1 gw' w' L) (n : Nw h gw' gw) (k2 : Keep (· = g0) h1 h2)
    (hb : Blk h2 d (some g0) (dcells { D with waits := L } s dd w' a)) : DX h2 d g0 gs gd gw' ga R { D with waits := L } s dd w' a := by
  obtain ⟨l0, l1, l2, l3, l4⟩ := x.lts wf
  have m0 : ∀ {g : Option Nat}, Ap (some g0) g → ∀ y, g = some y → ¬ (y = g0) := fun ha y hy he => ha g0 rfl (by rw [hy, he])
  have m1 : ∀ {g : Option Nat}, Ap gw g → ∀ y, g = some y → ¬ (gw = some y) := fun ha y hy he => ha y he hy
  have c1 := n.ap (x := some g0) (by simpa using l0) x.a3
  refine ⟨hb, (x.seen.keep k1 (m1 x.a6.symm)).keep k2 (m0 x.a1), (x.dur.keep k1 (m1 x.a8.symm)).keep k2 (m0 x.a2), o.keep k2 (m0 c1), (x.arms.keep k1 (m1 x.a10)).keep k2 (m0 x.a4), fun z hz => ?_,
    x.a1, x.a2, c1, x.a4, x.a5, n.ap l1 x.a6, x.a7, n.ap l2 x.a8, x.a9, (n.ap l4 x.a10.symm).symm, fun y hy => ?_, fun y hy => Nat.lt_of_lt_of_le (x.rlt y hy) (Nat.le_trans k1.next k2.next)⟩
  · obtain ⟨G, hG, sG⟩ := x.fates z hz
    exact ⟨G, hG, (sG.keep k1 fun y hy he => (x.ro y (hG y hy)).2.2.2.1 he).keep k2 fun y hy he => (x.ro y (hG y hy)).1 he⟩
  · obtain ⟨r0, r1, r2, r3, r4⟩ := x.ro y hy
    refine ⟨r0, r1, r2, ?_, r4⟩
    rcases n with rfl | rfl | ⟨z, rfl, hz⟩
    · exact r3
    · simp
    · have := x.rlt y hy; simp; omega

/-- The arms were changed (R': the groups of their fates), then the record. -/
theorem DX.setArms (wf : Wf h) (x : DX h d g0 gs gd gw ga R D s dd w a) {h1 h2 : Hp} {ga' : Option Nat} {a' : Sv} {L : List Ar} (k1 : Keep (fun y => ga = some y) h h1) (o : OwT Ar.enc 5 h1 ga' a' L) (n : Nw h ga' ga) (k2 : Keep (· = g0) h1 h2)
    (hb : Blk h2 d (some g0) (dcells { D with arms := L } s dd w a')) {R' : Nat → Prop} (hR : ∀ y, R' y → (R y ∨ h.next ≤ y) ∧ y < h1.next ∧ ga' ≠ some y)
    (hf : ∀ z ∈ L, ∃ G, (∀ y, G = some y → R' y) ∧ SlT encF 1 h1 G z.fa z.fl z.fc z.fates) : DX h2 d g0 gs gd gw ga' R' { D with arms := L } s dd w a' := by
  obtain ⟨l0, l1, l2, l3, l4⟩ := x.lts wf
  have m0 : ∀ {g : Option Nat}, Ap (some g0) g → ∀ y, g = some y → ¬ (y = g0) := fun ha y hy he => ha g0 rfl (by rw [hy, he])
  have m1 : ∀ {g : Option Nat}, Ap ga g → ∀ y, g = some y → ¬ (ga = some y) := fun ha y hy he => ha y he hy
  have c1 := n.ap (x := some g0) (by simpa using l0) x.a4
  have hR' : ∀ y, R' y → y ≠ g0 ∧ gs ≠ some y ∧ gd ≠ some y ∧ gw ≠ some y ∧ ga' ≠ some y := by
    intro y hy
    obtain ⟨h3, h4, h5⟩ := hR y hy
    rcases h3 with h3 | h3
    · obtain ⟨r0, r1, r2, r3, r4⟩ := x.ro y h3
      exact ⟨r0, r1, r2, r3, h5⟩
    · refine ⟨by omega, fun he => ?_, fun he => ?_, fun he => ?_, h5⟩
      · have := l1 y he; omega
      · have := l2 y he; omega
      · have := l3 y he; omega
  refine ⟨hb, (x.seen.keep k1 (m1 x.a7.symm)).keep k2 (m0 x.a1), (x.dur.keep k1 (m1 x.a9.symm)).keep k2 (m0 x.a2), (x.waits.keep k1 (m1 x.a10.symm)).keep k2 (m0 x.a3), o.keep k2 (m0 c1), fun z hz => ?_,
    x.a1, x.a2, x.a3, c1, x.a5, x.a6, n.ap l1 x.a7, x.a8, n.ap l2 x.a9, n.ap l3 x.a10, hR', fun y hy => Nat.lt_of_lt_of_le (hR y hy).2.1 k2.next⟩
  obtain ⟨G, hG, sG⟩ := hf z hz
  exact ⟨G, hG, sG.keep k2 fun y hy he => (hR' y (hG y hy)).1 he⟩
end
end Go.Proofs.Ytfkhjbfddeahaaa.kc
