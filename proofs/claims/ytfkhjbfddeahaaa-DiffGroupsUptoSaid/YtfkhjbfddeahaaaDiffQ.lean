/- DiffGroups over the canonical heap. -/
import Derived.Test.YtfkhjbfddeahaaaDiffP
set_option linter.unusedVariables false
namespace Go.Proofs.Ytfkhjbfddeahaaa.dc
open Go Go.Cn Go.Proofs Go.Proofs.Ytfkhjbfddeahaaa.vc

theorem thenL_err (A B : List Chg) : (thenL A B).2 = 0 ∨ (thenL A B).2 = 230 := by
  unfold thenL
  split
  · split <;> simp
  · simp

theorem tail7 {h : Hp} {a b d : Option Addr} {l c l' c' m n : Nat} {L M N : List Chg} (s : ChL h none a l c L) (t : ChL h none b l' c' M) (u : ChL h none d m n N) (hl : l ≤ 1048576) (hl' : l' ≤ 1048576) (hm : m ≤ 1048576) :
    C 22 [Value.slice a l c, Value.slice b l' c'] h fun (v : Value) (h' : Hp) => ∃ (a_1 : Option Addr), ∃ (l_1 : Nat), ∃ (c_1 : Nat), ∃ (n_2 : Int),
      v = Value.tuple (Array.mk [Value.slice a_1 l_1 c_1, Value.int IntKind.i64 n_2]) ∧
        C 22 [Value.slice a_1 l_1 c_1, Value.slice d m n] h' fun (v : Value) (h' : Hp) => ∃ (a_2 : Option Addr), ∃ (l_2 : Nat), ∃ (c_2 : Nat), ∃ (n_3 : Int),
          v = Value.tuple (Array.mk [Value.slice a_2 l_2 c_2, Value.int IntKind.i64 n_3]) ∧
            C 22 [Value.slice b l' c', Value.slice d m n] h' fun (v : Value) (h' : Hp) => ∃ (a_3 : Option Addr), ∃ (l_3 : Nat), ∃ (c_3 : Nat), ∃ (n : Int),
              v = Value.tuple (Array.mk [Value.slice a_3 l_3 c_3, Value.int IntKind.i64 n]) ∧
                C 22 [Value.slice a l c, Value.slice a_3 l_3 c_3] h' fun (v : Value) (h' : Hp) => ∃ (a : Option Addr), ∃ (l : Nat), ∃ (c : Nat), ∃ (n_4 : Int),
                  v = Value.tuple (Array.mk [Value.slice a l c, Value.int IntKind.i64 n_4]) ∧
                    if sel (sel (sel (neI n_2 0) true (neI n_3 0)) true (neI n 0)) true (neI n_4 0) = true then C 14 [] h' fun (v : Value) (h' : Hp) => ∃ (b : Bool), v = Value.bool b ∧ Value.bool b = Value.bool true
                    else C 24 [Value.slice a_2 l_2 c_2, Value.slice a l c] h' fun (v : Value) (h' : Hp) => ∃ (b : Bool), v = Value.bool b ∧
                      ∃ (Q : Value → Hp → Prop), (b = true → C 14 [] h' fun (v : Value) (h' : Hp) => ∃ (b : Bool), v = Value.bool b ∧ Q (Value.bool b) h') ∧ (b = false → ∃ (b : Bool), Q (Value.bool b) h') ∧
                        ∀ (b_1 : Bool) (h' : Hp), Q (Value.bool b_1) h' → Value.bool (sel b b_1 false) = Value.bool true := by
  have no : ∀ {S : Nat → Prop}, ∀ x, (none : Option Nat) = some x → ¬ S x := by simp
  have nof : ∀ {g : Option Nat}, ∀ x, g = some x → ¬ (fun _ : Nat => False) x := fun _ _ hf => hf
  have e1 := s.len
  have e2 := t.len
  have e3 := u.len
  have i1 := thenL_len L M
  have i2 := thenL_len (thenL L M).1 N
  have i3 := thenL_len M N
  have i4 := thenL_len L (thenL M N).1
  refine (c22 s t (by omega) (by omega)).wf fun v h1 wf1 _ ⟨⟨a1, l1, c1, e, b1, q1⟩, k1⟩ => ⟨_, _, _, _, e, ?_⟩
  obtain ⟨g1, _, s1⟩ := b1.slT q1
  have u1 := u.keep k1 no
  refine (c22 s1 u1 (by omega) (by omega)).wf fun v h2 wf2 _ ⟨⟨a2, l2, c2, e, b2, q2⟩, k2⟩ => ⟨_, _, _, _, e, ?_⟩
  obtain ⟨g2, _, s2⟩ := b2.slT q2
  refine (c22 ((t.keep k1 no).keep k2 no) (u1.keep k2 no) (by omega) (by omega)).wf fun v h3 wf3 _ ⟨⟨a3, l3, c3, e, b3, q3⟩, k3⟩ => ⟨_, _, _, _, e, ?_⟩
  obtain ⟨g3, _, s3⟩ := b3.slT q3
  refine (c22 (((s.keep k1 no).keep k2 no).keep k3 no) s3 (by omega) (by omega)).wf fun v h4 wf4 _ ⟨⟨a4, l4, c4, e, b4, q4⟩, k4⟩ => ⟨_, _, _, _, e, ?_⟩
  obtain ⟨g4, _, s4⟩ := b4.slT q4
  split
  · exact (c14 h4).mono fun v h' ⟨e, _⟩ => ⟨true, e, rfl⟩
  · rename_i hc
    have z1 := thenL_err L M
    have z2 := thenL_err (thenL L M).1 N
    have z3 := thenL_err M N
    have z4 := thenL_err L (thenL M N).1
    have hz : (thenL L M).2 = 0 ∧ (thenL (thenL L M).1 N).2 = 0 ∧ (thenL M N).2 = 0 ∧ (thenL L (thenL M N).1).2 = 0 := by
      rcases z1 with z1 | z1 <;> rcases z2 with z2 | z2 <;> rcases z3 with z3 | z3 <;> rcases z4 with z4 | z4 <;> simp [z1, z2, z3, z4, sel, neI] at hc ⊢
    have hRQ : (thenL (thenL L M).1 N).1 = (thenL L (thenL M N).1).1 :=
      then_groups (L := L) (M := M) (N := N) (A := (thenL L M).1) (B := (thenL M N).1) (Prod.ext rfl hz.1) (Prod.ext rfl hz.2.1) (Prod.ext rfl hz.2.2.1) (Prod.ext rfl hz.2.2.2)
    refine (c24 ((s2.keep k3 nof).keep k4 nof) s4 (by omega)).mono fun v h5 ⟨⟨r, e, hr⟩, e'⟩ => ⟨true, by rw [e, hr.mpr hRQ], ?_⟩
    refine ⟨fun v _ => v = .bool true, fun _ => (c14 h5).mono fun v h' ⟨e, _⟩ => ⟨true, e, rfl⟩, fun hf => by simp at hf, fun b h' e => ?_⟩
    simp at e; subst e; rfl

/-- DiffGroups. -/
theorem c7 {h : Hp} {a b d : Option Addr} {l c l' c' m n : Nat} {L M N : List Chg} (s : ChL h none a l c L) (t : ChL h none b l' c' M) (u : ChL h none d m n N) (hl : l ≤ 1048576) (hl' : l' ≤ 1048576) (hm : m ≤ 1048576) :
    C 7 [.slice a l c, .slice b l' c', .slice d m n] h fun v h' => v = .bool true := by
  refine SCalls_of_vw fol (pf := pf) (shp := shp7) (f := 7) (fn := Try.f7) (by kernel_rfl) (c := Try.f7.body.getD .skip) (by kernel_rfl) (by kernel_rfl) fun wf => ?_
  rw [vc7]
  have no : ∀ {S : Nat → Prop}, ∀ x, (none : Option Nat) = some x → ¬ S x := by simp
  have nof : ∀ {g : Option Nat}, ∀ x, g = some x → ¬ (fun _ : Nat => False) x := fun _ _ hf => hf
  have e1 := s.len
  refine (c16 s (by omega)).wf fun v h1 wf1 _ ⟨e, k1⟩ => ⟨_, e, ?_⟩
  have s1 := s.keep k1 no
  have t1 := t.keep k1 no
  have u1 := u.keep k1 no
  split
  · rename_i hc
    have hcL : chk none L = true := by
      cases hx : chk none L with
      | true => rfl
      | false => simp [hx, code, eqI] at hc
    have hB : backL L = L.map Chg.back := by simp [backL, hcL]
    have hcB : chk none (L.map Chg.back) = true := by rw [back_chk]; exact hcL
    have hBB : backL (L.map Chg.back) = L := by unfold backL; rw [if_pos hcB, back_back]
    have hT : thenL L (L.map Chg.back) = ([], 0) := by unfold thenL; rw [hcL, hcB, then_back]; rfl
    refine (c19 s1 (by omega)).wf fun v h2 wf2 _ ⟨⟨a2, l2, c2, e, b2, q2⟩, k2⟩ => ⟨_, _, _, _, e, ?_⟩
    rw [hB] at b2 q2
    have q2' : L.length = l2 := by simpa using q2
    obtain ⟨g2, _, x2⟩ := b2.slT q2
    refine (c19 x2 (by omega)).wf fun v h3 wf3 _ ⟨⟨a3, l3, c3, e, b3, q3⟩, k3⟩ => ⟨_, _, _, _, e, ?_⟩
    rw [hBB] at b3 q3
    obtain ⟨g3, _, x3⟩ := b3.slT q3
    refine (c22 ((s1.keep k2 no).keep k3 no) (x2.keep k3 nof) (by omega) (by omega)).wf fun v h4 wf4 _ ⟨⟨a4, l4, c4, e, b4, q4⟩, k4⟩ => ⟨_, _, _, _, e, ?_⟩
    rw [hT] at q4 b4
    have s4 := ((s1.keep k2 no).keep k3 no).keep k4 no
    have t4 := ((t1.keep k2 no).keep k3 no).keep k4 no
    have u4 := ((u1.keep k2 no).keep k3 no).keep k4 no
    refine ⟨true, fun _ => (c24 (x3.keep k4 nof) s4 (by omega)).mono fun v h5 ⟨⟨r, e, hr⟩, e'⟩ => ⟨by rw [e, hr.mpr rfl], e'⟩, ?_⟩
    have hl4 : l4 = 0 := by simpa using q4.symm
    subst hl4
    rw [hcL, hcB, hT]
    rw [if_neg (by simp [sel, neI, code, notB, natI])]
    exact tail7 s4 t4 u4 hl hl' hm
  · exact tail7 s1 t1 u1 hl hl' hm
end Go.Proofs.Ytfkhjbfddeahaaa.dc
