/- Contracts of Then of package diff and of its reference. -/
import Derived.Test.YtfkhjbfddeahaaaDiffD
set_option linter.unusedVariables false
namespace Go.Proofs.Ytfkhjbfddeahaaa.dc
open Go Go.Cn Go.Proofs Go.Proofs.Ytfkhjbfddeahaaa.vc

/-- What is read of an element. -/
structure Fl (h : Hp) (a : Option Addr) (i : Int) (l : Nat) (x : Chg) : Prop where
  is : a.isSome = true
  ir : inR i l
  all : h.cellsAt (blk a) (plusI (off a) i 5) 5 = some [.string x.k, .bool x.a, .bool x.b, .string x.o, .string x.n]
  f0 : h.cellsAt (blk a) (plusI (off a) i 5) 1 = some [.string x.k]
  f1 : h.cellsAt (blk a) (plusN (plusI (off a) i 5) 1) 1 = some [.bool x.a]
  f2 : h.cellsAt (blk a) (plusN (plusI (off a) i 5) 2) 1 = some [.bool x.b]
  f3 : h.cellsAt (blk a) (plusN (plusI (off a) i 5) 3) 1 = some [.string x.o]
  f4 : h.cellsAt (blk a) (plusN (plusI (off a) i 5) 4) 1 = some [.string x.n]

theorem flds {h : Hp} {g : Option Nat} {a : Option Addr} {l c : Nat} {L : List Chg} (s : ChL h g a l c L) {i : Nat} {x : Chg} (hx : L[i]? = some x) : Fl h a (i : Int) l x :=
  ⟨(fld s hx 0 5 (by omega)).1, (fld s hx 0 5 (by omega)).2.1, (fld s hx 0 5 (by omega)).2.2, (fld s hx 0 1 (by omega)).2.2, (fld s hx 1 1 (by omega)).2.2, (fld s hx 2 1 (by omega)).2.2, (fld s hx 3 1 (by omega)).2.2, (fld s hx 4 1 (by omega)).2.2⟩

def Chg.join (x y : Chg) : Chg := ⟨x.k, x.a, y.b, x.o, y.n⟩

def thenR : List Chg → List Chg → Option (List Chg)
  | [], [] => some []
  | x :: A, [] => (thenR A []).map (x :: ·)
  | [], y :: B => (thenR [] B).map (y :: ·)
  | x :: A, y :: B =>
    if Go.Cn.strLt x.k y.k then (thenR A (y :: B)).map (x :: ·)
    else if Go.Cn.strLt y.k x.k then (thenR (x :: A) B).map (y :: ·)
    else if (x.b == y.a) && strEq x.n y.o then (if (x.join y).may then (thenR A B).map (x.join y :: ·) else thenR A B)
    else none
termination_by A B => A.length + B.length

def thenL (A B : List Chg) : List Chg × Int := if chk none A && chk none B then (match thenR A B with | some R => (R, 0) | none => ([], 230)) else ([], 230)

theorem thenR_len : ∀ (A B : List Chg) {R : List Chg}, thenR A B = some R → R.length ≤ A.length + B.length
  | [], [], R, h => by rw [thenR] at h; simp at h; subst h; simp
  | x :: A, [], R, h => by
    rw [thenR] at h; simp at h; obtain ⟨R', h1, rfl⟩ := h
    have := thenR_len A [] h1; simp at this ⊢; omega
  | [], y :: B, R, h => by
    rw [thenR] at h; simp at h; obtain ⟨R', h1, rfl⟩ := h
    have := thenR_len [] B h1; simp at this ⊢; omega
  | x :: A, y :: B, R, h => by
    rw [thenR] at h
    split at h
    · simp at h; obtain ⟨R', h1, rfl⟩ := h
      have := thenR_len A (y :: B) h1; simp at this ⊢; omega
    · split at h
      · simp at h; obtain ⟨R', h1, rfl⟩ := h
        have := thenR_len (x :: A) B h1; simp at this ⊢; omega
      · split at h
        · split at h
          · simp at h; obtain ⟨R', h1, rfl⟩ := h
            have := thenR_len A B h1; simp at this ⊢; omega
          · have := thenR_len A B h; simp at this ⊢; omega
        · simp at h
termination_by A B => A.length + B.length

theorem chk_all {L : List Chg} : ∀ {p : Option ByteArray}, chk p L = true → ∀ x ∈ L, x.may = true := by
  induction L with
  | nil => simp
  | cons y L ih =>
    intro p h x hx
    simp only [chk, Bool.and_eq_true] at h
    rcases List.mem_cons.mp hx with rfl | hx
    · exact h.1.1
    · exact ih h.2 x hx

/-- Of two changes that may be, what diff.Then keeps of a joined one is what may be. -/
theorem join_may {x y : Chg} (hx : x.may = true) (hy : y.may = true) : sel (notB (eqB x.a y.b)) true (notB (strEq x.o y.n)) = (x.join y).may := by
  have h1 : x.o.toList = [] → y.n.toList = [] → (x.o.toList == y.n.toList) = true := fun e1 e2 => by rw [e1, e2]; rfl
  simp only [Chg.may] at hx hy
  simp only [Chg.may, Chg.join, sel, notB, eqB, strEq]
  generalize x.a = xa at *
  generalize x.b = xb at *
  generalize y.a = ya at *
  generalize y.b = yb at *
  generalize (x.k.toList == []) = p at *
  revert hx hy
  by_cases e1 : x.o.toList = [] <;> by_cases e2 : y.n.toList = [] <;> cases xa <;> cases xb <;> cases ya <;> cases yb <;> cases p <;> first | (simp [e1, e2]; done) | (simp_all; done)
theorem sl_gt (n : Nat) : gtI (natI (n + 1)) 0 = true := by simp [gtI, natI]
theorem sl_eq (n : Nat) : eqI (natI (n + 1)) 0 = false := by simp [eqI, natI]; omega
theorem gt00 : gtI (natI 0) 0 = false := by simp [gtI, natI]
theorem eq00 : eqI (natI 0) 0 = true := by simp [eqI, natI]

theorem gd1 (n : Nat) : andB true (notB (eqI (natI (n + 1)) 0)) = true := by rw [sl_eq]; rfl
theorem gd0 : andB true true = true := rfl
theorem gd2 (m : Nat) : notB (eqI (natI (m + 1)) 0) = true := by rw [sl_eq]; rfl
theorem gd3 (n : Nat) (x : Bool) : sel (eqI (natI (n + 1)) 0) true (sel true x false) = x := by rw [sl_eq]; rfl
theorem gd4 (m : Nat) (x : Bool) : sel (eqI (natI (m + 1)) 0) true x = x := by rw [sl_eq]; rfl

theorem app_list {acc : List Chg} {x : Chg} {o : Option (List Chg)} : (o.map (x :: ·)).map (acc ++ ·) = o.map ((acc ++ [x]) ++ ·) := by
  cases o <;> simp

/-- diff.Then. -/
theorem c22 {h : Hp} {g g' : Option Nat} {a b : Option Addr} {l c l' c' : Nat} {A B : List Chg} (s : ChL h g a l c A) (t : ChL h g' b l' c' B) (hl : l ≤ 1073741824) (hl' : l' ≤ 1073741824) :
    C 22 [.slice a l c, .slice b l' c'] h fun v h' => (∃ a' m k, v = .tuple #[.slice a' m k, .int .i64 (thenL A B).2] ∧ Ans h' h.next a' m k (thenL A B).1) ∧ Kept h h' := by
  refine SCalls_of_vw fol (pf := pf) (shp := shp22) (f := 22) (fn := Try.f22) (by kernel_rfl) (c := Try.f22.body.getD .skip) (by kernel_rfl) (by kernel_rfl) fun wf => ?_
  rw [vc22]
  have hA := s.len
  have hB := t.len
  have nof : ∀ {g : Option Nat}, ∀ x, g = some x → ¬ (fun _ : Nat => False) x := fun _ _ hf => hf
  obtain ⟨g, hg, s⟩ := s.grp wf
  obtain ⟨g', hg', t⟩ := t.grp wf
  have ng : ∀ x, g = some x → ¬ (h.next ≤ x) := fun x hx => by have := hg x hx; omega
  have ng' : ∀ x, g' = some x → ¬ (h.next ≤ x) := fun x hx => by have := hg' x hx; omega
  refine (c16 s (by omega)).wf fun v h1 wf1 hn1 ⟨e, k1⟩ => ⟨_, e, ?_⟩
  rw [code_ne]
  refine ⟨fun v hh => (∃ n, v = .int .i64 n ∧ (chk none A = true → n = code (chk none B))) ∧ Kept h hh ∧ Wf hh, fun _ => ?_, fun _ => ⟨0, ⟨0, rfl, ?_⟩, k1, wf1⟩, ?_⟩
  · refine (c16 (t.keep k1 nof) (by omega)).wf fun v h2 wf2 _ ⟨e, k2⟩ => ⟨_, e, ⟨_, rfl, fun _ => rfl⟩, k1.trans wf k2 fun _ _ hf => hf, wf2⟩
  · rename_i hf; intro hc; simp [hc, notB] at hf
  · rintro n h2 ⟨⟨n', e, hn⟩, k2, wf2⟩
    simp at e; subst e
    split
    · rename_i hc
      have hbad : thenL A B = ([], 230) := by
        unfold thenL
        cases hcA : chk none A with
        | false => simp
        | true =>
          have := hn hcA
          subst this
          cases hcB : chk none B with
          | false => simp
          | true => simp [hcA, hcB, code, neI, sel] at hc
      exact ⟨⟨none, 0, 0, by rw [hbad], by rw [hbad]; exact ⟨Bd.nil _ _ _, rfl⟩⟩, k2⟩
    · rename_i hc
      have hAB : chk none A = true ∧ chk none B = true := by
        cases hcA : chk none A with
        | false => simp [hcA, sel] at hc
        | true =>
          have := hn hcA
          subst this
          cases hcB : chk none B with
          | false => simp [hcA, hcB, code, neI, sel] at hc
          | true => simp
      have hT : thenL A B = match thenR A B with | some R => (R, 0) | none => ([], 230) := by simp [thenL, hAB]
      have mA := chk_all hAB.1
      have mB := chk_all hAB.2
      refine ⟨fun vals m hh => ∃ (aa bb oo : Option Addr) (ll cc l2 c2 n : Nat) (A' B' acc : List Chg), [.slice aa ll cc, .slice bb l2 c2, .slice oo n n] = vals ∧ m = A'.length + B'.length ∧ Wf hh ∧ Keep (h.next ≤ ·) h2 hh ∧
          ChL hh g aa ll cc A' ∧ ChL hh g' bb l2 c2 B' ∧ Ans hh h.next oo n n acc ∧ thenR A B = (thenR A' B').map (acc ++ ·) ∧ (∀ x ∈ A', x.may = true) ∧ (∀ x ∈ B', x.may = true) ∧ acc.length + A'.length + B'.length ≤ A.length + B.length,
        ⟨A.length + B.length, a, b, none, l, c, l', c', 0, A, B, [], rfl, rfl, wf2, Keep.refl _ _, s.keep k2 nof, t.keep k2 nof, ⟨Bd.nil _ _ _, rfl⟩, by cases thenR A B <;> simp, mA, mB, by simp⟩, ?_⟩
      rintro aa ll cc bb l2 c2 oo n nn m hh ⟨aa', bb', oo', ll', cc', l2', c2', n', A', B', acc, e, rfl, wf3, k3, s3, t3, o3, hTT, mA', mB', hlen⟩
      simp at e
      obtain ⟨⟨rfl, rfl, rfl⟩, ⟨rfl, rfl, rfl⟩, rfl, rfl, rfl⟩ := e
      have kk : Keep (h.next ≤ ·) h hh := (k2.mono wf (S' := (h.next ≤ ·)) fun _ _ hf => hf.elim).trans wf k3 fun _ _ hg => hg
      have kS : Kept h hh := kk.mono wf fun g hg h2 => by omega
      have hS : ∀ x, hh.next ≤ x → h.next ≤ x := fun _ hx => Nat.le_trans kk.next hx
      have hnl : n' ≤ 4294967296 := by rw [← o3.2]; omega
      match A', B' with
      | [], [] =>
        have e1 := s3.len; have e2 := t3.len
        simp at e1 e2
        subst e1 e2
        rw [gt00, if_neg (by simp [sel])]
        rw [thenR] at hTT
        simp at hTT
        refine ⟨⟨oo', n', n', ?_, ?_⟩, kS⟩
        · rw [hT, hTT]
        · rw [hT, hTT]; exact o3
      | x :: A', [] =>
        have e2 := t3.len
        simp at e2
        subst e2
        obtain ⟨s4, hcut, hspot, hpos⟩ := s3.drop1 Chg.w
        obtain ⟨ln, rfl⟩ : ∃ ln, ll' = ln + 1 := ⟨ll' - 1, by omega⟩
        rw [sl_gt, if_pos (by simp [sel])]
        obtain ⟨i1, i2, i3, i4, i5, i6, i7, i8⟩ := flds s3 (i := 0) (x := x) rfl
        simp only [eq00, andB, notB, sel, gt00, sl_gt, Bool.and_false, Bool.false_eq_true, false_implies, true_and, cond_true, cond_false, if_true, Bool.not_true]
        refine ⟨.empty, .empty, ⟨i1, i2⟩, _, _, _, _, _, ⟨rfl, i3⟩, ?_⟩
        intro h4 e4
        obtain ⟨a7, h7, e7, b7, k7, wf7⟩ := Bd.append1 wf3 app23 (S := (h.next ≤ ·)) hS o3.1 (new := x.enc) e4 rfl x.cell (app_room (by omega))
        refine ⟨_, _, _, h7, e7, ⟨hcut, hspot⟩, _, ?_, cutA 1 5 aa', bb', a7, _, _, 0, c2', n' + 1, A', [], acc ++ [x], rfl, rfl, wf7, k3.trans wf2 k7 (fun _ _ hg => hg), s4.keep k7 ng, t3.keep k7 ng', ⟨by rw [flat_snoc]; exact b7, by simp [o3.2]⟩, ?_, fun z hz => mA' z (by simp [hz]), mB', by simp at hlen ⊢; omega⟩
        · simp [lessN]
        · rw [hTT, thenR, app_list]
      | [], y :: B' =>
        have e2 := s3.len
        simp at e2
        subst e2
        obtain ⟨t4, hcut, hspot, hpos⟩ := t3.drop1 Chg.w
        obtain ⟨ln, rfl⟩ : ∃ ln, l2' = ln + 1 := ⟨l2' - 1, by omega⟩
        rw [sl_gt, if_pos (by simp [sel])]
        obtain ⟨i1, i2, i3, i4, i5, i6, i7, i8⟩ := flds t3 (i := 0) (x := y) rfl
        simp only [eq00, sl_eq, andB, notB, sel, gt00, sl_gt, Bool.and_false, Bool.false_and, Bool.false_eq_true, false_implies, true_and, cond_true, cond_false, if_true, if_false, Bool.not_true]
        refine ⟨.empty, .empty, .empty, .empty, ⟨i1, i2⟩, _, _, _, _, _, ⟨rfl, i3⟩, ?_⟩
        intro h4 e4
        obtain ⟨a7, h7, e7, b7, k7, wf7⟩ := Bd.append1 wf3 app23 (S := (h.next ≤ ·)) hS o3.1 (new := y.enc) e4 rfl y.cell (app_room (by omega))
        refine ⟨_, _, _, h7, e7, ⟨hcut, hspot⟩, _, ?_, aa', cutA 1 5 bb', a7, 0, cc', _, _, n' + 1, [], B', acc ++ [y], rfl, rfl, wf7, k3.trans wf2 k7 (fun _ _ hg => hg), s3.keep k7 ng, t4.keep k7 ng', ⟨by rw [flat_snoc]; exact b7, by simp [o3.2]⟩, ?_, mA', fun z hz => mB' z (by simp [hz]), by simp at hlen ⊢; omega⟩
        · simp [lessN]
        · rw [hTT, thenR, app_list]
      | x :: A', y :: B' =>
        obtain ⟨s4, hcut, hspot, hpos⟩ := s3.drop1 Chg.w
        obtain ⟨t4, hcut', hspot', hpos'⟩ := t3.drop1 Chg.w
        obtain ⟨lm, rfl⟩ : ∃ ln, ll' = ln + 1 := ⟨ll' - 1, by omega⟩
        obtain ⟨ln, rfl⟩ : ∃ ln, l2' = ln + 1 := ⟨l2' - 1, by omega⟩
        rw [sl_gt, if_pos (by simp [sel])]
        have F := flds s3 (i := 0) (x := x) rfl
        have G := flds t3 (i := 0) (x := y) rfl
        obtain ⟨i1, i2, i3, i4, i5, i6, i7, i8⟩ := F
        obtain ⟨j1, j2, j3, j4, j5, j6, j7, j8⟩ := G
        simp only [gd0, gd2, gd3, gd4, forall_const]
        refine ⟨⟨i1, i2⟩, rfl, _, ⟨rfl, i4⟩, ⟨j1, j2⟩, rfl, _, ⟨rfl, j4⟩, ?_⟩
        rw [thenR] at hTT
        split
        · rename_i hlt
          have hlt : Go.Cn.strLt x.k y.k = true := hlt
          rw [if_pos hlt] at hTT
          refine ⟨⟨i1, i2⟩, _, _, _, _, _, ⟨rfl, i3⟩, ?_⟩
          intro h4 e4
          obtain ⟨a7, h7, e7, b7, k7, wf7⟩ := Bd.append1 wf3 app23 (S := (h.next ≤ ·)) hS o3.1 (new := x.enc) e4 rfl x.cell (app_room (by omega))
          refine ⟨_, _, _, h7, e7, ⟨hcut, hspot⟩, _, ?_, cutA 1 5 aa', bb', a7, _, _, ln + 1, c2', n' + 1, A', y :: B', acc ++ [x], rfl, rfl, wf7, k3.trans wf2 k7 (fun _ _ hg => hg), s4.keep k7 ng, t3.keep k7 ng', ⟨by rw [flat_snoc]; exact b7, by simp [o3.2]⟩, ?_, fun z hz => mA' z (by simp [hz]), mB', by simp at hlen ⊢; omega⟩
          · simp [lessN]
          · rw [hTT, app_list]
        · rename_i hlt
          have hlt : ¬ Go.Cn.strLt x.k y.k = true := hlt
          rw [if_neg hlt] at hTT
          refine ⟨⟨j1, j2⟩, rfl, _, ⟨rfl, j4⟩, ⟨i1, i2⟩, rfl, _, ⟨rfl, i4⟩, ?_⟩
          split
          · rename_i hlt2
            rw [if_pos hlt2] at hTT
            refine ⟨⟨j1, j2⟩, _, _, _, _, _, ⟨rfl, j3⟩, ?_⟩
            intro h4 e4
            obtain ⟨a7, h7, e7, b7, k7, wf7⟩ := Bd.append1 wf3 app23 (S := (h.next ≤ ·)) hS o3.1 (new := y.enc) e4 rfl y.cell (app_room (by omega))
            refine ⟨_, _, _, h7, e7, ⟨hcut', hspot'⟩, _, ?_, aa', cutA 1 5 bb', a7, lm + 1, cc', _, _, n' + 1, x :: A', B', acc ++ [y], rfl, rfl, wf7, k3.trans wf2 k7 (fun _ _ hg => hg), s3.keep k7 ng, t4.keep k7 ng', ⟨by rw [flat_snoc]; exact b7, by simp [o3.2]⟩, ?_, mA', fun z hz => mB' z (by simp [hz]), by simp at hlen ⊢; omega⟩
            · simp [lessN]
            · rw [hTT, app_list]
          · rename_i hlt2
            rw [if_neg hlt2] at hTT
            intro h4 e4
            obtain ⟨k4, wf4, b4, b5⟩ : Kept hh h4 ∧ Wf h4 ∧ Blk h4 hh.next (some hh.next) zchg ∧ Blk h4 (hh.next + 1) (some (hh.next + 1)) zchg := by
              obtain ⟨b1, k1, n1, wf1⟩ := new_blk wf3 (cs := zchg) (e := 88) rfl
              obtain ⟨b2, k2, n2, wf2⟩ := new_blk wf1 (cs := zchg) (e := 88) (h1 := h4) e4
              exact ⟨k1.trans wf3 k2 fun _ _ hf => hf, wf2, Keep.blk k2 b1 fun _ _ hf => hf, b2⟩
            have s5 := s3.keep k4 nof
            have t5 := t3.keep k4 nof
            obtain ⟨_, _, i3, _, _, _, _, _⟩ := flds s5 (i := 0) (x := x) rfl
            obtain ⟨_, _, j3, _, _, _, _, _⟩ := flds t5 (i := 0) (x := y) rfl
            refine ⟨⟨i1, i2⟩, _, _, _, _, _, ⟨rfl, i3⟩, ⟨j1, j2⟩, _, _, _, _, _, ⟨rfl, j3⟩, rfl, ?_⟩
            obtain ⟨h5, e5, c5, k5, k5', n5, wf5⟩ := set_blk wf4 b4 k4 wf3 (Nat.le_refl _) (vs := x.enc) rfl x.cell
            have t6 := t3.keep k5 nof
            obtain ⟨_, _, j3, _, _, _, _, _⟩ := flds t6 (i := 0) (x := y) rfl
            refine ⟨h5, e5, ⟨rfl, j3⟩, rfl, ?_⟩
            have b5' : Blk h5 (hh.next + 1) (some (hh.next + 1)) zchg := Keep.blk k5' b5 fun z hz => by simp at hz; omega
            obtain ⟨h6, e6, c6, k6, k6', n6, wf6⟩ := set_blk wf5 b5' k5 wf3 (by omega) (vs := y.enc) rfl y.cell
            have c5 := Keep.blk k6' c5 fun z hz => by simp at hz; omega
            refine ⟨h6, e6, ?_⟩
            have kA : Kept hh h6 := k6
            (repeat' first | refine ⟨rfl, ?_⟩ | refine ⟨fun _ => rfl, ?_⟩ | refine ⟨_, ⟨rfl, (Blk.cells (by assumption) (Nat.le_of_ble_eq_true rfl)).trans rfl⟩, ?_⟩ | refine ⟨_, fun _ => ⟨rfl, (Blk.cells (by assumption) (Nat.le_of_ble_eq_true rfl)).trans rfl⟩, ?_⟩ | refine ⟨_, _, ⟨rfl, (Blk.cells (by assumption) (Nat.le_of_ble_eq_true rfl)).trans rfl⟩, ?_⟩ | refine ⟨_, _, fun _ => ⟨rfl, (Blk.cells (by assumption) (Nat.le_of_ble_eq_true rfl)).trans rfl⟩, ?_⟩ | refine ⟨_, _, _, ⟨rfl, (Blk.cells (by assumption) (Nat.le_of_ble_eq_true rfl)).trans rfl⟩, ?_⟩ | refine ⟨_, _, _, fun _ => ⟨rfl, (Blk.cells (by assumption) (Nat.le_of_ble_eq_true rfl)).trans rfl⟩, ?_⟩ | refine ⟨_, _, _, _, ⟨rfl, (Blk.cells (by assumption) (Nat.le_of_ble_eq_true rfl)).trans rfl⟩, ?_⟩ | refine ⟨_, _, _, _, fun _ => ⟨rfl, (Blk.cells (by assumption) (Nat.le_of_ble_eq_true rfl)).trans rfl⟩, ?_⟩ | refine ⟨_, _, _, _, _, ⟨rfl, (Blk.cells (by assumption) (Nat.le_of_ble_eq_true rfl)).trans rfl⟩, ?_⟩ | refine ⟨_, _, _, _, _, fun _ => ⟨rfl, (Blk.cells (by assumption) (Nat.le_of_ble_eq_true rfl)).trans rfl⟩, ?_⟩ | refine ⟨_, _, _, _, _, _, ⟨rfl, (Blk.cells (by assumption) (Nat.le_of_ble_eq_true rfl)).trans rfl⟩, ?_⟩ | refine ⟨_, _, _, _, _, _, fun _ => ⟨rfl, (Blk.cells (by assumption) (Nat.le_of_ble_eq_true rfl)).trans rfl⟩, ?_⟩ | fail)
            have hcond : (sel (notB (eqB x.b y.a)) true (notB (strEq x.n y.o)) = true) ↔ ¬ (((x.b == y.a) && strEq x.n y.o) = true) := by
              cases hb : eqB x.b y.a <;> cases hs : strEq x.n y.o <;> simp [sel, notB, eqB] at hb ⊢ <;> simp [hb]
            split
            · rename_i hbad
              rw [if_neg (hcond.mp hbad)] at hTT
              simp at hTT
              refine ⟨⟨none, 0, 0, by rw [hT, hTT], by rw [hT, hTT]; exact ⟨Bd.nil _ _ _, rfl⟩⟩, kS.trans wf kA fun _ _ hf => hf⟩
            · rename_i hok
              have hok : ((x.b == y.a) && strEq x.n y.o) = true := by
                apply Classical.byContradiction; intro hh; exact hok (hcond.mpr hh)
              rw [if_pos hok] at hTT
              (repeat' first | refine ⟨rfl, ?_⟩ | refine ⟨fun _ => rfl, ?_⟩ | refine ⟨_, ⟨rfl, (Blk.cells (by assumption) (Nat.le_of_ble_eq_true rfl)).trans rfl⟩, ?_⟩ | refine ⟨_, fun _ => ⟨rfl, (Blk.cells (by assumption) (Nat.le_of_ble_eq_true rfl)).trans rfl⟩, ?_⟩ | refine ⟨_, _, ⟨rfl, (Blk.cells (by assumption) (Nat.le_of_ble_eq_true rfl)).trans rfl⟩, ?_⟩ | refine ⟨_, _, fun _ => ⟨rfl, (Blk.cells (by assumption) (Nat.le_of_ble_eq_true rfl)).trans rfl⟩, ?_⟩ | refine ⟨_, _, _, ⟨rfl, (Blk.cells (by assumption) (Nat.le_of_ble_eq_true rfl)).trans rfl⟩, ?_⟩ | refine ⟨_, _, _, fun _ => ⟨rfl, (Blk.cells (by assumption) (Nat.le_of_ble_eq_true rfl)).trans rfl⟩, ?_⟩ | refine ⟨_, _, _, _, ⟨rfl, (Blk.cells (by assumption) (Nat.le_of_ble_eq_true rfl)).trans rfl⟩, ?_⟩ | refine ⟨_, _, _, _, fun _ => ⟨rfl, (Blk.cells (by assumption) (Nat.le_of_ble_eq_true rfl)).trans rfl⟩, ?_⟩ | refine ⟨_, _, _, _, _, ⟨rfl, (Blk.cells (by assumption) (Nat.le_of_ble_eq_true rfl)).trans rfl⟩, ?_⟩ | refine ⟨_, _, _, _, _, fun _ => ⟨rfl, (Blk.cells (by assumption) (Nat.le_of_ble_eq_true rfl)).trans rfl⟩, ?_⟩ | refine ⟨_, _, _, _, _, _, ⟨rfl, (Blk.cells (by assumption) (Nat.le_of_ble_eq_true rfl)).trans rfl⟩, ?_⟩ | refine ⟨_, _, _, _, _, _, fun _ => ⟨rfl, (Blk.cells (by assumption) (Nat.le_of_ble_eq_true rfl)).trans rfl⟩, ?_⟩ | fail)
              intro h7 e7
              obtain ⟨b7, k7, n7, wf7⟩ := new_blk wf6 e7
              obtain ⟨h8, e8, b8, k8, _, n8, wf8⟩ := set_blk wf7 b7 k7 wf6 (Nat.le_refl _) (vs := (x.join y).enc) rfl rfl
              refine ⟨rfl, h8, e8, ?_⟩
              have kB : Kept hh h8 := kA.trans wf3 k8 fun _ _ hf => hf
              (repeat' first | refine ⟨rfl, ?_⟩ | refine ⟨fun _ => rfl, ?_⟩ | refine ⟨_, ⟨rfl, (Blk.cells (by assumption) (Nat.le_of_ble_eq_true rfl)).trans rfl⟩, ?_⟩ | refine ⟨_, fun _ => ⟨rfl, (Blk.cells (by assumption) (Nat.le_of_ble_eq_true rfl)).trans rfl⟩, ?_⟩ | refine ⟨_, _, ⟨rfl, (Blk.cells (by assumption) (Nat.le_of_ble_eq_true rfl)).trans rfl⟩, ?_⟩ | refine ⟨_, _, fun _ => ⟨rfl, (Blk.cells (by assumption) (Nat.le_of_ble_eq_true rfl)).trans rfl⟩, ?_⟩ | refine ⟨_, _, _, ⟨rfl, (Blk.cells (by assumption) (Nat.le_of_ble_eq_true rfl)).trans rfl⟩, ?_⟩ | refine ⟨_, _, _, fun _ => ⟨rfl, (Blk.cells (by assumption) (Nat.le_of_ble_eq_true rfl)).trans rfl⟩, ?_⟩ | refine ⟨_, _, _, _, ⟨rfl, (Blk.cells (by assumption) (Nat.le_of_ble_eq_true rfl)).trans rfl⟩, ?_⟩ | refine ⟨_, _, _, _, fun _ => ⟨rfl, (Blk.cells (by assumption) (Nat.le_of_ble_eq_true rfl)).trans rfl⟩, ?_⟩ | refine ⟨_, _, _, _, _, ⟨rfl, (Blk.cells (by assumption) (Nat.le_of_ble_eq_true rfl)).trans rfl⟩, ?_⟩ | refine ⟨_, _, _, _, _, fun _ => ⟨rfl, (Blk.cells (by assumption) (Nat.le_of_ble_eq_true rfl)).trans rfl⟩, ?_⟩ | refine ⟨_, _, _, _, _, _, ⟨rfl, (Blk.cells (by assumption) (Nat.le_of_ble_eq_true rfl)).trans rfl⟩, ?_⟩ | refine ⟨_, _, _, _, _, _, fun _ => ⟨rfl, (Blk.cells (by assumption) (Nat.le_of_ble_eq_true rfl)).trans rfl⟩, ?_⟩ | fail)
              have hjm := join_may (mA' x (by simp)) (mB' y (by simp))
              have kkB : Keep (h.next ≤ ·) h2 h8 := k3.trans wf2 (kB.mono wf3 (S' := (h.next ≤ ·)) fun _ _ hf => hf.elim) fun _ _ hg => hg
              have nB : h.next ≤ h8.next := Nat.le_trans kk.next kB.next
              split
              · rename_i hmay
                have hmay : (x.join y).may = true := hjm.symm.trans hmay
                rw [if_pos hmay] at hTT
                (repeat' first | refine ⟨rfl, ?_⟩ | refine ⟨fun _ => rfl, ?_⟩ | refine ⟨_, ⟨rfl, (Blk.cells (by assumption) (Nat.le_of_ble_eq_true rfl)).trans rfl⟩, ?_⟩ | refine ⟨_, fun _ => ⟨rfl, (Blk.cells (by assumption) (Nat.le_of_ble_eq_true rfl)).trans rfl⟩, ?_⟩ | refine ⟨_, _, ⟨rfl, (Blk.cells (by assumption) (Nat.le_of_ble_eq_true rfl)).trans rfl⟩, ?_⟩ | refine ⟨_, _, fun _ => ⟨rfl, (Blk.cells (by assumption) (Nat.le_of_ble_eq_true rfl)).trans rfl⟩, ?_⟩ | refine ⟨_, _, _, ⟨rfl, (Blk.cells (by assumption) (Nat.le_of_ble_eq_true rfl)).trans rfl⟩, ?_⟩ | refine ⟨_, _, _, fun _ => ⟨rfl, (Blk.cells (by assumption) (Nat.le_of_ble_eq_true rfl)).trans rfl⟩, ?_⟩ | refine ⟨_, _, _, _, ⟨rfl, (Blk.cells (by assumption) (Nat.le_of_ble_eq_true rfl)).trans rfl⟩, ?_⟩ | refine ⟨_, _, _, _, fun _ => ⟨rfl, (Blk.cells (by assumption) (Nat.le_of_ble_eq_true rfl)).trans rfl⟩, ?_⟩ | refine ⟨_, _, _, _, _, ⟨rfl, (Blk.cells (by assumption) (Nat.le_of_ble_eq_true rfl)).trans rfl⟩, ?_⟩ | refine ⟨_, _, _, _, _, fun _ => ⟨rfl, (Blk.cells (by assumption) (Nat.le_of_ble_eq_true rfl)).trans rfl⟩, ?_⟩ | refine ⟨_, _, _, _, _, _, ⟨rfl, (Blk.cells (by assumption) (Nat.le_of_ble_eq_true rfl)).trans rfl⟩, ?_⟩ | refine ⟨_, _, _, _, _, _, fun _ => ⟨rfl, (Blk.cells (by assumption) (Nat.le_of_ble_eq_true rfl)).trans rfl⟩, ?_⟩ | fail)
                intro h9 e9
                obtain ⟨a10, h10, e10, b10, k10, wf10⟩ := Bd.append1 wf8 app23 (S := (h.next ≤ ·)) (fun _ hx => Nat.le_trans nB hx) (o3.1.keep kB fun _ _ hf => hf) (new := (x.join y).enc) e9 rfl (x.join y).cell (app_room (by omega))
                refine ⟨_, _, _, h10, e10, ⟨hcut, hspot⟩, ⟨hcut', hspot'⟩, _, ?_, cutA 1 5 aa', cutA 1 5 bb', a10, _, _, _, _, n' + 1, A', B', acc ++ [x.join y], rfl, rfl, wf10, kkB.trans wf2 k10 (fun _ _ hg => hg), (s4.keep kB nof).keep k10 ng, (t4.keep kB nof).keep k10 ng', ⟨by rw [flat_snoc]; exact b10, by simp [o3.2]⟩, ?_, fun z hz => mA' z (by simp [hz]), fun z hz => mB' z (by simp [hz]), by simp at hlen ⊢; omega⟩
                · simp [lessN]; omega
                · rw [hTT, app_list]
              · rename_i hmay
                have hmay : ¬ (x.join y).may = true := fun hx => hmay (hjm.trans hx)
                rw [if_neg hmay] at hTT
                refine ⟨⟨hcut, hspot⟩, ⟨hcut', hspot'⟩, _, ?_, cutA 1 5 aa', cutA 1 5 bb', oo', _, _, _, _, n', A', B', acc, rfl, rfl, wf8, kkB, s4.keep kB nof, t4.keep kB nof, ⟨o3.1.keep kB fun _ _ hf => hf, o3.2⟩, hTT, fun z hz => mA' z (by simp [hz]), fun z hz => mB' z (by simp [hz]), by simp at hlen ⊢; omega⟩
                simp [lessN]; omega
end Go.Proofs.Ytfkhjbfddeahaaa.dc
