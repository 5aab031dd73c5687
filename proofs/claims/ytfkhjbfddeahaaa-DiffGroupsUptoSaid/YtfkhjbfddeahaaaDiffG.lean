/- The contract of Then of the reference; DiffThens. -/
import Derived.Test.YtfkhjbfddeahaaaDiffE
set_option linter.unusedVariables false
namespace Go.Proofs.Ytfkhjbfddeahaaa.dc
open Go Go.Cn Go.Proofs Go.Proofs.Ytfkhjbfddeahaaa.vc

theorem drop_cons {α : Type} {L A : List α} {i : Nat} {x : α} (h : L.drop i = x :: A) : i < L.length ∧ L[i]? = some x ∧ L.drop (i + 1) = A := by
  have hi : i < L.length := by
    apply Nat.lt_of_not_le; intro hn
    rw [List.drop_eq_nil_of_le hn] at h; simp at h
  rw [List.drop_eq_getElem_cons hi] at h
  injection h with h1 h2
  exact ⟨hi, by rw [List.getElem?_eq_getElem hi, h1], h2⟩

theorem drop_nil {α : Type} {L : List α} {i : Nat} (h : L.drop i = []) : L.length ≤ i := by simpa using h

theorem lt_yes {i l : Nat} (h : i < l) : ltI (i : Int) (natI l) = true := by simp [ltI, natI]; omega
theorem lt_no {i l : Nat} (h : l ≤ i) : ltI (i : Int) (natI l) = false := by simp [ltI, natI]; omega
theorem eq_yes {i l : Nat} (h : i = l) : eqI (i : Int) (natI l) = true := by subst h; simp [eqI, natI]
theorem eq_no {i l : Nat} (h : i < l) : eqI (i : Int) (natI l) = false := by simp [eqI, natI]; omega
theorem next1 {i : Nat} (h : i < 4294967296) : addW .i64 (i : Int) 1 = ((i + 1 : Nat) : Int) := by rw [addW_small (by omega) (by omega)]; rfl

/-- The reference's Then. -/
theorem c23 {h : Hp} {g g' : Option Nat} {a b : Option Addr} {l c l' c' : Nat} {A B : List Chg} (s : ChL h g a l c A) (t : ChL h g' b l' c' B) (hl : l ≤ 1073741824) (hl' : l' ≤ 1073741824) :
    C 23 [.slice a l c, .slice b l' c'] h fun v h' => (∃ a' m k, v = .tuple #[.slice a' m k, .int .i64 (thenL A B).2] ∧ Ans h' h.next a' m k (thenL A B).1) ∧ Kept h h' := by
  refine SCalls_of_vw fol (pf := pf) (shp := shp23) (f := 23) (fn := Try.f23) (by kernel_rfl) (c := Try.f23.body.getD .skip) (by kernel_rfl) (by kernel_rfl) fun wf => ?_
  rw [vc23]
  have hA := s.len
  have hB := t.len
  have nof : ∀ {g : Option Nat}, ∀ x, g = some x → ¬ (fun _ : Nat => False) x := fun _ _ hf => hf
  obtain ⟨g, hg, s⟩ := s.grp wf
  obtain ⟨g', hg', t⟩ := t.grp wf
  have ng : ∀ x, g = some x → ¬ (h.next ≤ x) := fun x hx => by have := hg x hx; omega
  have ng' : ∀ x, g' = some x → ¬ (h.next ≤ x) := fun x hx => by have := hg' x hx; omega
  refine (c17 s (by omega)).wf fun v h1 wf1 hn1 ⟨e, k1⟩ => ⟨_, e, ?_⟩
  rw [code_ne]
  refine ⟨fun v hh => (∃ n, v = .int .i64 n ∧ (chk none A = true → n = code (chk none B))) ∧ Kept h hh ∧ Wf hh, fun _ => ?_, fun _ => ⟨0, ⟨0, rfl, ?_⟩, k1, wf1⟩, ?_⟩
  · refine (c17 (t.keep k1 nof) (by omega)).wf fun v h2 wf2 _ ⟨e, k2⟩ => ⟨_, e, ⟨_, rfl, fun _ => rfl⟩, k1.trans wf k2 fun _ _ hf => hf, wf2⟩
  · rename_i hf; intro hc; simp [hc, notB] at hf
  · rintro n h2 ⟨⟨n', e, hn⟩, k2, wf2⟩
    simp at e; subst e
    split
    · rename_i hc
      have hbad : thenL A B = ([], 230) := by
        unfold thenL
        cases hcA : chk none A with
        | false => simp
        | true =>
          have := hn hcA
          subst this
          cases hcB : chk none B with
          | false => simp
          | true => simp [hcA, hcB, code, neI, sel] at hc
      exact ⟨⟨none, 0, 0, by rw [hbad], by rw [hbad]; exact ⟨Bd.nil _ _ _, rfl⟩⟩, k2⟩
    · rename_i hc
      have hAB : chk none A = true ∧ chk none B = true := by
        cases hcA : chk none A with
        | false => simp [hcA, sel] at hc
        | true =>
          have := hn hcA
          subst this
          cases hcB : chk none B with
          | false => simp [hcA, hcB, code, neI, sel] at hc
          | true => simp
      have hT : thenL A B = match thenR A B with | some R => (R, 0) | none => ([], 230) := by simp [thenL, hAB]; cases thenR A B <;> rfl
      refine ⟨fun vals m hh => ∃ (oo : Option Addr) (n i k : Nat) (acc : List Chg), [.slice oo n n, .int .i64 i, .int .i64 k] = vals ∧ m = (A.length - i) + (B.length - k) ∧ Wf hh ∧ Keep (h.next ≤ ·) h2 hh ∧
          Ans hh h.next oo n n acc ∧ thenR A B = (thenR (A.drop i) (B.drop k)).map (acc ++ ·) ∧ i ≤ A.length ∧ k ≤ B.length ∧ acc.length ≤ i + k,
        ⟨A.length + B.length, none, 0, 0, 0, [], rfl, by simp, wf2, Keep.refl _ _, ⟨Bd.nil _ _ _, rfl⟩, by rw [List.drop_zero, List.drop_zero]; cases thenR A B <;> simp, by omega, by omega, by simp⟩, ?_⟩
      rintro oo n nn n1 n2 m hh ⟨oo', n', i, k, acc, e, rfl, wf3, k3, o3, hTT, hi, hk, hlen⟩
      simp at e
      obtain ⟨⟨rfl, rfl, rfl⟩, rfl, rfl⟩ := e
      have kk : Keep (h.next ≤ ·) h hh := (k2.mono wf (S' := (h.next ≤ ·)) fun _ _ hf => hf.elim).trans wf k3 fun _ _ hg => hg
      have kS : Kept h hh := kk.mono wf fun g hg h2 => by omega
      have hS : ∀ x, hh.next ≤ x → h.next ≤ x := fun _ hx => Nat.le_trans kk.next hx
      have hnl : n' ≤ 4294967296 := by rw [← o3.2]; omega
      have s3 := s.keep kS nof
      have t3 := t.keep kS nof
      match hdA : A.drop i, hdB : B.drop k with
      | [], [] =>
        have e1 := drop_nil hdA
        have e2 := drop_nil hdB
        rw [lt_no (by omega), lt_no (by omega), if_neg (by simp [sel])]
        rw [hdA, hdB, thenR] at hTT
        simp at hTT
        refine ⟨⟨oo', n', n', ?_, ?_⟩, kS⟩
        · rw [hT, hTT]
        · rw [hT, hTT]; exact o3
      | x :: A', [] =>
        obtain ⟨e1, hx, hd⟩ := drop_cons hdA
        have e2 := drop_nil hdB
        obtain ⟨i1, i2, i3, i4, i5, i6, i7, i8⟩ := flds s3 hx
        rw [lt_yes (by omega), if_pos (by simp [sel]), eq_yes (by omega)]
        simp only [andB, notB, sel, Bool.and_false, Bool.false_eq_true, false_implies, true_and, cond_true, cond_false, if_true, Bool.not_true]
        refine ⟨.empty, .empty, ⟨i1, i2⟩, _, _, _, _, _, ⟨rfl, i3⟩, ?_⟩
        intro h4 e4
        obtain ⟨a7, h7, e7, b7, k7, wf7⟩ := Bd.append1 wf3 app23 (S := (h.next ≤ ·)) hS o3.1 (new := x.enc) e4 rfl x.cell (app_room (by omega))
        refine ⟨_, _, _, h7, e7, _, ?_, a7, n' + 1, i + 1, k, acc ++ [x], ?_, rfl, wf7, k3.trans wf2 k7 (fun _ _ hg => hg), ⟨by rw [flat_snoc]; exact b7, by simp [o3.2]⟩, ?_, by omega, by omega, by simp; omega⟩
        · simp [lessN]; omega
        · rw [next1 (by omega)]
        · rw [hTT, hdA, hdB, hd, thenR, app_list]
      | [], y :: B' =>
        obtain ⟨e1, hy, hd⟩ := drop_cons hdB
        have e2 := drop_nil hdA
        obtain ⟨i1, i2, i3, i4, i5, i6, i7, i8⟩ := flds t3 hy
        rw [lt_no (l := l) (by omega), lt_yes (l := l') (by omega), if_pos (by simp [sel]), eq_no (l := l') (by omega), eq_yes (l := l) (by omega)]
        simp only [andB, notB, sel, Bool.and_false, Bool.false_and, Bool.false_eq_true, false_implies, true_and, cond_true, cond_false, if_true, if_false, Bool.not_true]
        refine ⟨.empty, .empty, .empty, .empty, ⟨i1, i2⟩, _, _, _, _, _, ⟨rfl, i3⟩, ?_⟩
        intro h4 e4
        obtain ⟨a7, h7, e7, b7, k7, wf7⟩ := Bd.append1 wf3 app23 (S := (h.next ≤ ·)) hS o3.1 (new := y.enc) e4 rfl y.cell (app_room (by omega))
        refine ⟨_, _, _, h7, e7, _, ?_, a7, n' + 1, i, k + 1, acc ++ [y], ?_, rfl, wf7, k3.trans wf2 k7 (fun _ _ hg => hg), ⟨by rw [flat_snoc]; exact b7, by simp [o3.2]⟩, ?_, by omega, by omega, by simp; omega⟩
        · simp [lessN]; omega
        · rw [next1 (by omega)]
        · rw [hTT, hdA, hdB, hd, thenR, app_list]
      | x :: A', y :: B' =>
        obtain ⟨e1, hx, hd⟩ := drop_cons hdA
        obtain ⟨e2, hy, hd'⟩ := drop_cons hdB
        obtain ⟨i1, i2, i3, i4, i5, i6, i7, i8⟩ := flds s3 hx
        obtain ⟨j1, j2, j3, j4, j5, j6, j7, j8⟩ := flds t3 hy
        rw [lt_yes (l := l) (by omega), if_pos (by simp [sel]), eq_no (l := l') (by omega), eq_no (l := l) (by omega)]
        rw [hdA, hdB, thenR] at hTT
        (repeat' first | refine ⟨rfl, ?_⟩ | refine ⟨fun _ => rfl, ?_⟩ | refine ⟨⟨by assumption, by assumption⟩, ?_⟩ | refine ⟨fun _ => ⟨by assumption, by assumption⟩, ?_⟩ | refine ⟨_, ⟨rfl, (Blk.cells (by assumption) (Nat.le_of_ble_eq_true rfl)).trans rfl⟩, ?_⟩ | refine ⟨_, fun _ => ⟨rfl, (Blk.cells (by assumption) (Nat.le_of_ble_eq_true rfl)).trans rfl⟩, ?_⟩ | refine ⟨_, ⟨rfl, by assumption⟩, ?_⟩ | refine ⟨_, fun _ => ⟨rfl, by assumption⟩, ?_⟩ | refine ⟨_, _, ⟨rfl, (Blk.cells (by assumption) (Nat.le_of_ble_eq_true rfl)).trans rfl⟩, ?_⟩ | refine ⟨_, _, fun _ => ⟨rfl, (Blk.cells (by assumption) (Nat.le_of_ble_eq_true rfl)).trans rfl⟩, ?_⟩ | refine ⟨_, _, ⟨rfl, by assumption⟩, ?_⟩ | refine ⟨_, _, fun _ => ⟨rfl, by assumption⟩, ?_⟩ | refine ⟨_, _, _, ⟨rfl, (Blk.cells (by assumption) (Nat.le_of_ble_eq_true rfl)).trans rfl⟩, ?_⟩ | refine ⟨_, _, _, fun _ => ⟨rfl, (Blk.cells (by assumption) (Nat.le_of_ble_eq_true rfl)).trans rfl⟩, ?_⟩ | refine ⟨_, _, _, ⟨rfl, by assumption⟩, ?_⟩ | refine ⟨_, _, _, fun _ => ⟨rfl, by assumption⟩, ?_⟩ | refine ⟨_, _, _, _, ⟨rfl, (Blk.cells (by assumption) (Nat.le_of_ble_eq_true rfl)).trans rfl⟩, ?_⟩ | refine ⟨_, _, _, _, fun _ => ⟨rfl, (Blk.cells (by assumption) (Nat.le_of_ble_eq_true rfl)).trans rfl⟩, ?_⟩ | refine ⟨_, _, _, _, ⟨rfl, by assumption⟩, ?_⟩ | refine ⟨_, _, _, _, fun _ => ⟨rfl, by assumption⟩, ?_⟩ | refine ⟨_, _, _, _, _, ⟨rfl, (Blk.cells (by assumption) (Nat.le_of_ble_eq_true rfl)).trans rfl⟩, ?_⟩ | refine ⟨_, _, _, _, _, fun _ => ⟨rfl, (Blk.cells (by assumption) (Nat.le_of_ble_eq_true rfl)).trans rfl⟩, ?_⟩ | refine ⟨_, _, _, _, _, ⟨rfl, by assumption⟩, ?_⟩ | refine ⟨_, _, _, _, _, fun _ => ⟨rfl, by assumption⟩, ?_⟩ | refine ⟨_, _, _, _, _, _, ⟨rfl, (Blk.cells (by assumption) (Nat.le_of_ble_eq_true rfl)).trans rfl⟩, ?_⟩ | refine ⟨_, _, _, _, _, _, fun _ => ⟨rfl, (Blk.cells (by assumption) (Nat.le_of_ble_eq_true rfl)).trans rfl⟩, ?_⟩ | refine ⟨_, _, _, _, _, _, ⟨rfl, by assumption⟩, ?_⟩ | refine ⟨_, _, _, _, _, _, fun _ => ⟨rfl, by assumption⟩, ?_⟩ | fail)
        split
        · rename_i hlt
          have hlt : Go.Cn.strLt x.k y.k = true := hlt
          rw [if_pos hlt] at hTT
          (repeat' first | refine ⟨rfl, ?_⟩ | refine ⟨fun _ => rfl, ?_⟩ | refine ⟨⟨by assumption, by assumption⟩, ?_⟩ | refine ⟨fun _ => ⟨by assumption, by assumption⟩, ?_⟩ | refine ⟨_, ⟨rfl, (Blk.cells (by assumption) (Nat.le_of_ble_eq_true rfl)).trans rfl⟩, ?_⟩ | refine ⟨_, fun _ => ⟨rfl, (Blk.cells (by assumption) (Nat.le_of_ble_eq_true rfl)).trans rfl⟩, ?_⟩ | refine ⟨_, ⟨rfl, by assumption⟩, ?_⟩ | refine ⟨_, fun _ => ⟨rfl, by assumption⟩, ?_⟩ | refine ⟨_, _, ⟨rfl, (Blk.cells (by assumption) (Nat.le_of_ble_eq_true rfl)).trans rfl⟩, ?_⟩ | refine ⟨_, _, fun _ => ⟨rfl, (Blk.cells (by assumption) (Nat.le_of_ble_eq_true rfl)).trans rfl⟩, ?_⟩ | refine ⟨_, _, ⟨rfl, by assumption⟩, ?_⟩ | refine ⟨_, _, fun _ => ⟨rfl, by assumption⟩, ?_⟩ | refine ⟨_, _, _, ⟨rfl, (Blk.cells (by assumption) (Nat.le_of_ble_eq_true rfl)).trans rfl⟩, ?_⟩ | refine ⟨_, _, _, fun _ => ⟨rfl, (Blk.cells (by assumption) (Nat.le_of_ble_eq_true rfl)).trans rfl⟩, ?_⟩ | refine ⟨_, _, _, ⟨rfl, by assumption⟩, ?_⟩ | refine ⟨_, _, _, fun _ => ⟨rfl, by assumption⟩, ?_⟩ | refine ⟨_, _, _, _, ⟨rfl, (Blk.cells (by assumption) (Nat.le_of_ble_eq_true rfl)).trans rfl⟩, ?_⟩ | refine ⟨_, _, _, _, fun _ => ⟨rfl, (Blk.cells (by assumption) (Nat.le_of_ble_eq_true rfl)).trans rfl⟩, ?_⟩ | refine ⟨_, _, _, _, ⟨rfl, by assumption⟩, ?_⟩ | refine ⟨_, _, _, _, fun _ => ⟨rfl, by assumption⟩, ?_⟩ | refine ⟨_, _, _, _, _, ⟨rfl, (Blk.cells (by assumption) (Nat.le_of_ble_eq_true rfl)).trans rfl⟩, ?_⟩ | refine ⟨_, _, _, _, _, fun _ => ⟨rfl, (Blk.cells (by assumption) (Nat.le_of_ble_eq_true rfl)).trans rfl⟩, ?_⟩ | refine ⟨_, _, _, _, _, ⟨rfl, by assumption⟩, ?_⟩ | refine ⟨_, _, _, _, _, fun _ => ⟨rfl, by assumption⟩, ?_⟩ | refine ⟨_, _, _, _, _, _, ⟨rfl, (Blk.cells (by assumption) (Nat.le_of_ble_eq_true rfl)).trans rfl⟩, ?_⟩ | refine ⟨_, _, _, _, _, _, fun _ => ⟨rfl, (Blk.cells (by assumption) (Nat.le_of_ble_eq_true rfl)).trans rfl⟩, ?_⟩ | refine ⟨_, _, _, _, _, _, ⟨rfl, by assumption⟩, ?_⟩ | refine ⟨_, _, _, _, _, _, fun _ => ⟨rfl, by assumption⟩, ?_⟩ | fail)
          intro h4 e4
          obtain ⟨a7, h7, e7, b7, k7, wf7⟩ := Bd.append1 wf3 app23 (S := (h.next ≤ ·)) hS o3.1 (new := x.enc) e4 rfl x.cell (app_room (by omega))
          refine ⟨_, _, _, h7, e7, _, ?_, a7, n' + 1, i + 1, k, acc ++ [x], ?_, rfl, wf7, k3.trans wf2 k7 (fun _ _ hg => hg), ⟨by rw [flat_snoc]; exact b7, by simp [o3.2]⟩, ?_, by omega, by omega, by simp; omega⟩
          · simp [lessN]; omega
          · rw [next1 (by omega)]
          · rw [hTT, hd, hdB, app_list]
        · rename_i hlt
          have hlt : ¬ Go.Cn.strLt x.k y.k = true := hlt
          rw [if_neg hlt] at hTT
          (repeat' first | refine ⟨rfl, ?_⟩ | refine ⟨fun _ => rfl, ?_⟩ | refine ⟨⟨by assumption, by assumption⟩, ?_⟩ | refine ⟨fun _ => ⟨by assumption, by assumption⟩, ?_⟩ | refine ⟨_, ⟨rfl, (Blk.cells (by assumption) (Nat.le_of_ble_eq_true rfl)).trans rfl⟩, ?_⟩ | refine ⟨_, fun _ => ⟨rfl, (Blk.cells (by assumption) (Nat.le_of_ble_eq_true rfl)).trans rfl⟩, ?_⟩ | refine ⟨_, ⟨rfl, by assumption⟩, ?_⟩ | refine ⟨_, fun _ => ⟨rfl, by assumption⟩, ?_⟩ | refine ⟨_, _, ⟨rfl, (Blk.cells (by assumption) (Nat.le_of_ble_eq_true rfl)).trans rfl⟩, ?_⟩ | refine ⟨_, _, fun _ => ⟨rfl, (Blk.cells (by assumption) (Nat.le_of_ble_eq_true rfl)).trans rfl⟩, ?_⟩ | refine ⟨_, _, ⟨rfl, by assumption⟩, ?_⟩ | refine ⟨_, _, fun _ => ⟨rfl, by assumption⟩, ?_⟩ | refine ⟨_, _, _, ⟨rfl, (Blk.cells (by assumption) (Nat.le_of_ble_eq_true rfl)).trans rfl⟩, ?_⟩ | refine ⟨_, _, _, fun _ => ⟨rfl, (Blk.cells (by assumption) (Nat.le_of_ble_eq_true rfl)).trans rfl⟩, ?_⟩ | refine ⟨_, _, _, ⟨rfl, by assumption⟩, ?_⟩ | refine ⟨_, _, _, fun _ => ⟨rfl, by assumption⟩, ?_⟩ | refine ⟨_, _, _, _, ⟨rfl, (Blk.cells (by assumption) (Nat.le_of_ble_eq_true rfl)).trans rfl⟩, ?_⟩ | refine ⟨_, _, _, _, fun _ => ⟨rfl, (Blk.cells (by assumption) (Nat.le_of_ble_eq_true rfl)).trans rfl⟩, ?_⟩ | refine ⟨_, _, _, _, ⟨rfl, by assumption⟩, ?_⟩ | refine ⟨_, _, _, _, fun _ => ⟨rfl, by assumption⟩, ?_⟩ | refine ⟨_, _, _, _, _, ⟨rfl, (Blk.cells (by assumption) (Nat.le_of_ble_eq_true rfl)).trans rfl⟩, ?_⟩ | refine ⟨_, _, _, _, _, fun _ => ⟨rfl, (Blk.cells (by assumption) (Nat.le_of_ble_eq_true rfl)).trans rfl⟩, ?_⟩ | refine ⟨_, _, _, _, _, ⟨rfl, by assumption⟩, ?_⟩ | refine ⟨_, _, _, _, _, fun _ => ⟨rfl, by assumption⟩, ?_⟩ | refine ⟨_, _, _, _, _, _, ⟨rfl, (Blk.cells (by assumption) (Nat.le_of_ble_eq_true rfl)).trans rfl⟩, ?_⟩ | refine ⟨_, _, _, _, _, _, fun _ => ⟨rfl, (Blk.cells (by assumption) (Nat.le_of_ble_eq_true rfl)).trans rfl⟩, ?_⟩ | refine ⟨_, _, _, _, _, _, ⟨rfl, by assumption⟩, ?_⟩ | refine ⟨_, _, _, _, _, _, fun _ => ⟨rfl, by assumption⟩, ?_⟩ | fail)
          split
          · rename_i hlt2
            have hlt2 : Go.Cn.strLt y.k x.k = true := hlt2
            rw [if_pos hlt2] at hTT
            (repeat' first | refine ⟨rfl, ?_⟩ | refine ⟨fun _ => rfl, ?_⟩ | refine ⟨⟨by assumption, by assumption⟩, ?_⟩ | refine ⟨fun _ => ⟨by assumption, by assumption⟩, ?_⟩ | refine ⟨_, ⟨rfl, (Blk.cells (by assumption) (Nat.le_of_ble_eq_true rfl)).trans rfl⟩, ?_⟩ | refine ⟨_, fun _ => ⟨rfl, (Blk.cells (by assumption) (Nat.le_of_ble_eq_true rfl)).trans rfl⟩, ?_⟩ | refine ⟨_, ⟨rfl, by assumption⟩, ?_⟩ | refine ⟨_, fun _ => ⟨rfl, by assumption⟩, ?_⟩ | refine ⟨_, _, ⟨rfl, (Blk.cells (by assumption) (Nat.le_of_ble_eq_true rfl)).trans rfl⟩, ?_⟩ | refine ⟨_, _, fun _ => ⟨rfl, (Blk.cells (by assumption) (Nat.le_of_ble_eq_true rfl)).trans rfl⟩, ?_⟩ | refine ⟨_, _, ⟨rfl, by assumption⟩, ?_⟩ | refine ⟨_, _, fun _ => ⟨rfl, by assumption⟩, ?_⟩ | refine ⟨_, _, _, ⟨rfl, (Blk.cells (by assumption) (Nat.le_of_ble_eq_true rfl)).trans rfl⟩, ?_⟩ | refine ⟨_, _, _, fun _ => ⟨rfl, (Blk.cells (by assumption) (Nat.le_of_ble_eq_true rfl)).trans rfl⟩, ?_⟩ | refine ⟨_, _, _, ⟨rfl, by assumption⟩, ?_⟩ | refine ⟨_, _, _, fun _ => ⟨rfl, by assumption⟩, ?_⟩ | refine ⟨_, _, _, _, ⟨rfl, (Blk.cells (by assumption) (Nat.le_of_ble_eq_true rfl)).trans rfl⟩, ?_⟩ | refine ⟨_, _, _, _, fun _ => ⟨rfl, (Blk.cells (by assumption) (Nat.le_of_ble_eq_true rfl)).trans rfl⟩, ?_⟩ | refine ⟨_, _, _, _, ⟨rfl, by assumption⟩, ?_⟩ | refine ⟨_, _, _, _, fun _ => ⟨rfl, by assumption⟩, ?_⟩ | refine ⟨_, _, _, _, _, ⟨rfl, (Blk.cells (by assumption) (Nat.le_of_ble_eq_true rfl)).trans rfl⟩, ?_⟩ | refine ⟨_, _, _, _, _, fun _ => ⟨rfl, (Blk.cells (by assumption) (Nat.le_of_ble_eq_true rfl)).trans rfl⟩, ?_⟩ | refine ⟨_, _, _, _, _, ⟨rfl, by assumption⟩, ?_⟩ | refine ⟨_, _, _, _, _, fun _ => ⟨rfl, by assumption⟩, ?_⟩ | refine ⟨_, _, _, _, _, _, ⟨rfl, (Blk.cells (by assumption) (Nat.le_of_ble_eq_true rfl)).trans rfl⟩, ?_⟩ | refine ⟨_, _, _, _, _, _, fun _ => ⟨rfl, (Blk.cells (by assumption) (Nat.le_of_ble_eq_true rfl)).trans rfl⟩, ?_⟩ | refine ⟨_, _, _, _, _, _, ⟨rfl, by assumption⟩, ?_⟩ | refine ⟨_, _, _, _, _, _, fun _ => ⟨rfl, by assumption⟩, ?_⟩ | fail)
            intro h4 e4
            obtain ⟨a7, h7, e7, b7, k7, wf7⟩ := Bd.append1 wf3 app23 (S := (h.next ≤ ·)) hS o3.1 (new := y.enc) e4 rfl y.cell (app_room (by omega))
            refine ⟨_, _, _, h7, e7, _, ?_, a7, n' + 1, i, k + 1, acc ++ [y], ?_, rfl, wf7, k3.trans wf2 k7 (fun _ _ hg => hg), ⟨by rw [flat_snoc]; exact b7, by simp [o3.2]⟩, ?_, by omega, by omega, by simp; omega⟩
            · simp [lessN]; omega
            · rw [next1 (by omega)]
            · rw [hTT, hd', hdA, app_list]
          · rename_i hlt2
            have hlt2 : ¬ Go.Cn.strLt y.k x.k = true := hlt2
            rw [if_neg hlt2] at hTT
            (repeat' first | refine ⟨rfl, ?_⟩ | refine ⟨fun _ => rfl, ?_⟩ | refine ⟨⟨by assumption, by assumption⟩, ?_⟩ | refine ⟨fun _ => ⟨by assumption, by assumption⟩, ?_⟩ | refine ⟨_, ⟨rfl, (Blk.cells (by assumption) (Nat.le_of_ble_eq_true rfl)).trans rfl⟩, ?_⟩ | refine ⟨_, fun _ => ⟨rfl, (Blk.cells (by assumption) (Nat.le_of_ble_eq_true rfl)).trans rfl⟩, ?_⟩ | refine ⟨_, ⟨rfl, by assumption⟩, ?_⟩ | refine ⟨_, fun _ => ⟨rfl, by assumption⟩, ?_⟩ | refine ⟨_, _, ⟨rfl, (Blk.cells (by assumption) (Nat.le_of_ble_eq_true rfl)).trans rfl⟩, ?_⟩ | refine ⟨_, _, fun _ => ⟨rfl, (Blk.cells (by assumption) (Nat.le_of_ble_eq_true rfl)).trans rfl⟩, ?_⟩ | refine ⟨_, _, ⟨rfl, by assumption⟩, ?_⟩ | refine ⟨_, _, fun _ => ⟨rfl, by assumption⟩, ?_⟩ | refine ⟨_, _, _, ⟨rfl, (Blk.cells (by assumption) (Nat.le_of_ble_eq_true rfl)).trans rfl⟩, ?_⟩ | refine ⟨_, _, _, fun _ => ⟨rfl, (Blk.cells (by assumption) (Nat.le_of_ble_eq_true rfl)).trans rfl⟩, ?_⟩ | refine ⟨_, _, _, ⟨rfl, by assumption⟩, ?_⟩ | refine ⟨_, _, _, fun _ => ⟨rfl, by assumption⟩, ?_⟩ | refine ⟨_, _, _, _, ⟨rfl, (Blk.cells (by assumption) (Nat.le_of_ble_eq_true rfl)).trans rfl⟩, ?_⟩ | refine ⟨_, _, _, _, fun _ => ⟨rfl, (Blk.cells (by assumption) (Nat.le_of_ble_eq_true rfl)).trans rfl⟩, ?_⟩ | refine ⟨_, _, _, _, ⟨rfl, by assumption⟩, ?_⟩ | refine ⟨_, _, _, _, fun _ => ⟨rfl, by assumption⟩, ?_⟩ | refine ⟨_, _, _, _, _, ⟨rfl, (Blk.cells (by assumption) (Nat.le_of_ble_eq_true rfl)).trans rfl⟩, ?_⟩ | refine ⟨_, _, _, _, _, fun _ => ⟨rfl, (Blk.cells (by assumption) (Nat.le_of_ble_eq_true rfl)).trans rfl⟩, ?_⟩ | refine ⟨_, _, _, _, _, ⟨rfl, by assumption⟩, ?_⟩ | refine ⟨_, _, _, _, _, fun _ => ⟨rfl, by assumption⟩, ?_⟩ | refine ⟨_, _, _, _, _, _, ⟨rfl, (Blk.cells (by assumption) (Nat.le_of_ble_eq_true rfl)).trans rfl⟩, ?_⟩ | refine ⟨_, _, _, _, _, _, fun _ => ⟨rfl, (Blk.cells (by assumption) (Nat.le_of_ble_eq_true rfl)).trans rfl⟩, ?_⟩ | refine ⟨_, _, _, _, _, _, ⟨rfl, by assumption⟩, ?_⟩ | refine ⟨_, _, _, _, _, _, fun _ => ⟨rfl, by assumption⟩, ?_⟩ | fail)
            have hcond : (sel (notB (eqB x.b y.a)) true (notB (strEq x.n y.o)) = true) ↔ ¬ (((x.b == y.a) && strEq x.n y.o) = true) := by
              cases hb : eqB x.b y.a <;> cases hs : strEq x.n y.o <;> simp [sel, notB, eqB] at hb ⊢ <;> simp [hb]
            split
            · rename_i hbad
              rw [if_neg (hcond.mp hbad)] at hTT
              simp at hTT
              exact ⟨⟨none, 0, 0, by rw [hT, hTT], by rw [hT, hTT]; exact ⟨Bd.nil _ _ _, rfl⟩⟩, kS⟩
            · rename_i hok
              have hok : ((x.b == y.a) && strEq x.n y.o) = true := by
                apply Classical.byContradiction; intro hh; exact hok (hcond.mpr hh)
              rw [if_pos hok] at hTT
              intro h4 e4
              obtain ⟨b4, k4, n4, wf4⟩ := new_blk wf3 e4
              obtain ⟨_, _, i3, i4, i5, i6, i7, i8⟩ := flds (s3.keep k4 nof) hx
              obtain ⟨_, _, j3, j4, j5, j6, j7, j8⟩ := flds (t3.keep k4 nof) hy
              refine ⟨⟨i1, i2⟩, rfl, _, ⟨rfl, i4⟩, ⟨i1, i2⟩, rfl, _, ⟨rfl, i5⟩, ⟨i1, i2⟩, rfl, _, ⟨rfl, i7⟩, ⟨j1, j2⟩, rfl, _, ⟨rfl, j6⟩, ⟨j1, j2⟩, rfl, _, ⟨rfl, j8⟩, rfl, ?_⟩
              obtain ⟨h5, e5, b5, k5, _, n5, wf5⟩ := set_blk wf4 b4 k4 wf3 (Nat.le_refl _) (vs := (x.join y).enc) rfl rfl
              refine ⟨h5, e5, ?_⟩
              (repeat' first | refine ⟨rfl, ?_⟩ | refine ⟨fun _ => rfl, ?_⟩ | refine ⟨_, ⟨rfl, (Blk.cells (by assumption) (Nat.le_of_ble_eq_true rfl)).trans rfl⟩, ?_⟩ | refine ⟨_, fun _ => ⟨rfl, (Blk.cells (by assumption) (Nat.le_of_ble_eq_true rfl)).trans rfl⟩, ?_⟩ | refine ⟨_, _, ⟨rfl, (Blk.cells (by assumption) (Nat.le_of_ble_eq_true rfl)).trans rfl⟩, ?_⟩ | refine ⟨_, _, fun _ => ⟨rfl, (Blk.cells (by assumption) (Nat.le_of_ble_eq_true rfl)).trans rfl⟩, ?_⟩ | refine ⟨_, _, _, ⟨rfl, (Blk.cells (by assumption) (Nat.le_of_ble_eq_true rfl)).trans rfl⟩, ?_⟩ | refine ⟨_, _, _, fun _ => ⟨rfl, (Blk.cells (by assumption) (Nat.le_of_ble_eq_true rfl)).trans rfl⟩, ?_⟩ | refine ⟨_, _, _, _, ⟨rfl, (Blk.cells (by assumption) (Nat.le_of_ble_eq_true rfl)).trans rfl⟩, ?_⟩ | refine ⟨_, _, _, _, fun _ => ⟨rfl, (Blk.cells (by assumption) (Nat.le_of_ble_eq_true rfl)).trans rfl⟩, ?_⟩ | refine ⟨_, _, _, _, _, ⟨rfl, (Blk.cells (by assumption) (Nat.le_of_ble_eq_true rfl)).trans rfl⟩, ?_⟩ | refine ⟨_, _, _, _, _, fun _ => ⟨rfl, (Blk.cells (by assumption) (Nat.le_of_ble_eq_true rfl)).trans rfl⟩, ?_⟩ | refine ⟨_, _, _, _, _, _, ⟨rfl, (Blk.cells (by assumption) (Nat.le_of_ble_eq_true rfl)).trans rfl⟩, ?_⟩ | refine ⟨_, _, _, _, _, _, fun _ => ⟨rfl, (Blk.cells (by assumption) (Nat.le_of_ble_eq_true rfl)).trans rfl⟩, ?_⟩ | fail)
              refine (c51 (x.join y) h5).wf fun v h6 wf6 n56 ⟨e, k6⟩ => ⟨_, e, ?_⟩
              have b6 := Keep.blk k6 b5 fun _ _ hf => hf
              have kB : Kept hh h6 := k5.trans wf3 k6 fun _ _ hf => hf
              have kkB : Keep (h.next ≤ ·) h2 h6 := k3.trans wf2 (kB.mono wf3 (S' := (h.next ≤ ·)) fun _ _ hf => hf.elim) fun _ _ hg => hg
              have nB : h.next ≤ h6.next := Nat.le_trans kk.next kB.next
              split
              · rename_i hmay
                rw [if_pos hmay] at hTT
                (repeat' first | refine ⟨rfl, ?_⟩ | refine ⟨fun _ => rfl, ?_⟩ | refine ⟨_, ⟨rfl, (Blk.cells (by assumption) (Nat.le_of_ble_eq_true rfl)).trans rfl⟩, ?_⟩ | refine ⟨_, fun _ => ⟨rfl, (Blk.cells (by assumption) (Nat.le_of_ble_eq_true rfl)).trans rfl⟩, ?_⟩ | refine ⟨_, _, ⟨rfl, (Blk.cells (by assumption) (Nat.le_of_ble_eq_true rfl)).trans rfl⟩, ?_⟩ | refine ⟨_, _, fun _ => ⟨rfl, (Blk.cells (by assumption) (Nat.le_of_ble_eq_true rfl)).trans rfl⟩, ?_⟩ | refine ⟨_, _, _, ⟨rfl, (Blk.cells (by assumption) (Nat.le_of_ble_eq_true rfl)).trans rfl⟩, ?_⟩ | refine ⟨_, _, _, fun _ => ⟨rfl, (Blk.cells (by assumption) (Nat.le_of_ble_eq_true rfl)).trans rfl⟩, ?_⟩ | refine ⟨_, _, _, _, ⟨rfl, (Blk.cells (by assumption) (Nat.le_of_ble_eq_true rfl)).trans rfl⟩, ?_⟩ | refine ⟨_, _, _, _, fun _ => ⟨rfl, (Blk.cells (by assumption) (Nat.le_of_ble_eq_true rfl)).trans rfl⟩, ?_⟩ | refine ⟨_, _, _, _, _, ⟨rfl, (Blk.cells (by assumption) (Nat.le_of_ble_eq_true rfl)).trans rfl⟩, ?_⟩ | refine ⟨_, _, _, _, _, fun _ => ⟨rfl, (Blk.cells (by assumption) (Nat.le_of_ble_eq_true rfl)).trans rfl⟩, ?_⟩ | refine ⟨_, _, _, _, _, _, ⟨rfl, (Blk.cells (by assumption) (Nat.le_of_ble_eq_true rfl)).trans rfl⟩, ?_⟩ | refine ⟨_, _, _, _, _, _, fun _ => ⟨rfl, (Blk.cells (by assumption) (Nat.le_of_ble_eq_true rfl)).trans rfl⟩, ?_⟩ | fail)
                intro h9 e9
                obtain ⟨a10, h10, e10, b10, k10, wf10⟩ := Bd.append1 wf6 app23 (S := (h.next ≤ ·)) (fun _ hx => Nat.le_trans nB hx) (o3.1.keep kB fun _ _ hf => hf) (new := (x.join y).enc) e9 rfl (x.join y).cell (app_room (by omega))
                refine ⟨_, _, _, h10, e10, _, ?_, a10, n' + 1, i + 1, k + 1, acc ++ [x.join y], ?_, rfl, wf10, kkB.trans wf2 k10 (fun _ _ hg => hg), ⟨by rw [flat_snoc]; exact b10, by simp [o3.2]⟩, ?_, by omega, by omega, by simp; omega⟩
                · simp [lessN]; omega
                · rw [next1 (by omega), next1 (by omega)]
                · rw [hTT, hd, hd', app_list]
              · rename_i hmay
                rw [if_neg hmay] at hTT
                refine ⟨_, ?_, oo', n', i + 1, k + 1, acc, ?_, rfl, wf6, kkB, ⟨o3.1.keep kB fun _ _ hf => hf, o3.2⟩, ?_, by omega, by omega, by omega⟩
                · simp [lessN]; omega
                · rw [next1 (by omega), next1 (by omega)]
                · rw [hTT, hd, hd']
theorem thenL_len (A B : List Chg) : (thenL A B).1.length ≤ A.length + B.length := by
  unfold thenL
  split
  · cases h : thenR A B with
    | none => simp
    | some R => exact thenR_len A B h
  · simp

theorem Lent.glt {h : Hp} (wf : Wf h) {g : Nat} {a : Option Addr} {l c : Nat} {L : List Chg} (s : Lent h g a l c L) : g < h.next := by
  have := s.all.sl.mem
  obtain ⟨bb, hbb⟩ := s.at_
  rw [hbb] at this
  obtain ⟨CS, hblk, _⟩ := this.2 (by omega)
  exact hblk.glt wf

/-- DiffThens. -/
theorem c6 {h : Hp} {a b : Option Addr} {l c l' c' : Nat} {L M : List Chg} (s : ChL h none a l c L) (t : ChL h none b l' c' M) (hl : l ≤ 1048576) (hl' : l' ≤ 1048576) : C 6 [.slice a l c, .slice b l' c'] h fun v h' => v = .bool true := by
  refine SCalls_of_vw fol (pf := pf) (shp := shp6) (f := 6) (fn := Try.f6) (by kernel_rfl) (c := Try.f6.body.getD .skip) (by kernel_rfl) (by kernel_rfl) fun wf => ?_
  rw [vc6]
  have no : ∀ {S : Nat → Prop}, ∀ x, (none : Option Nat) = some x → ¬ S x := by simp
  have nf : ¬ False := fun hf => hf
  have e1 := s.len
  have e2 := t.len
  refine (c15 s (by omega)).wf fun v h1 wf1 _ ⟨⟨gx, ax, cx, e, hg, x1⟩, k1⟩ => ⟨_, _, _, e, ?_⟩
  have hx1 := x1.glt wf1
  refine (c15 (t.keep k1 no) (by omega)).wf fun v h2 wf2 n12 ⟨⟨gy, ay, cy, e, hg', y2⟩, k2⟩ => ⟨_, _, _, e, ?_⟩
  have hy2 := y2.glt wf2
  have x2 := x1.keep k2 nf
  refine (c22 x2.list y2.list (by omega) (by omega)).wf fun v h3 wf3 n23 ⟨⟨a3, l3, c3, e, b3⟩, k3⟩ => ⟨_, _, _, _, e, ?_⟩
  have x3 := x2.keep k3 nf
  have y3 := y2.keep k3 nf
  refine (c22 x3.list y3.list (by omega) (by omega)).wf fun v h4 wf4 n34 ⟨⟨a4, l4, c4, e, b4⟩, k4⟩ => ⟨_, _, _, _, e, ?_⟩
  have x4 := x3.keep k4 nf
  have y4 := y3.keep k4 nf
  have s4 := (((s.keep k1 no).keep k2 no).keep k3 no).keep k4 no
  have t4 := (((t.keep k1 no).keep k2 no).keep k3 no).keep k4 no
  refine (c23 s4 t4 (by omega) (by omega)).wf fun v h5 wf5 n45 ⟨⟨a5, l5, c5, e, b5⟩, k5⟩ => ⟨_, _, _, _, e, ?_⟩
  have x5 := x4.keep k5 nf
  have y5 := y4.keep k5 nf
  have s5 := s4.keep k5 no
  have t5 := t4.keep k5 no
  have hlen := thenL_len L M
  have hll : l3 ≤ 4294967296 := by rw [← b3.2]; omega
  have b3' := ((b3.1.bound wf3).keep k4 fun _ _ hf => hf).keep k5 fun _ _ hf => hf
  have b4' := (b4.1.bound wf4).keep k5 fun _ _ hf => hf
  obtain ⟨g4, hg4, sl4⟩ := b4'.slT b4.2
  obtain ⟨g5, hg5, sl5⟩ := (b5.1.bound wf5).slT b5.2
  rw [eqI_self]
  refine ⟨fun v hh => v = .bool true ∧ Keep (fun g => (h2.next ≤ g ∧ g < h3.next) ∨ h5.next ≤ g) h5 hh, fun _ => ?_, fun hf => by simp [sel] at hf, ?_⟩
  · refine (c21 (S := fun g => (h2.next ≤ g ∧ g < h3.next) ∨ h5.next ≤ g) (fun _ hg => .inr hg) (b3'.mono fun g hg => .inl hg) b3.2 sl4 sl5 ?_ ?_ hll).mono fun v h6 ⟨e, k6⟩ => ⟨true, e, rfl, k6⟩
    · intro x hx hs; have := hg4 x hx; omega
    · intro x hx hs; have := hg5 x hx; omega
  · rintro b1 h6 ⟨e, k6⟩
    simp at e; subst e
    have x6 := x5.keep k6 (by omega)
    have y6 := y5.keep k6 (by omega)
    have s6 := s5.keep k6 no
    have t6 := t5.keep k6 no
    refine ⟨true, fun _ => c18 x6 s6 (by omega), true, fun _ => c18 y6 t6 (by omega), ?_⟩
    refine ⟨fun v _ => v = .bool true, fun _ => (c14 h6).mono fun v h' ⟨e, _⟩ => ⟨true, e, rfl⟩, fun hf => by simp [sel] at hf, fun b h' e => ?_⟩
    simp at e; subst e; rfl
end Go.Proofs.Ytfkhjbfddeahaaa.dc
