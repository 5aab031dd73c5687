/- The plain law of changes: Back of Back, Then and its grouping. No program in sight. -/
import Derived.Test.YtfkhjbfddeahaaaDiffG
set_option linter.unusedVariables false
namespace Go.Proofs.Ytfkhjbfddeahaaa.dc
open Go Go.Cn

def Sorted (L : List Chg) : Prop := L.Pairwise fun x y => Go.Cn.strLt x.k y.k = true

theorem chk_some {k : ByteArray} : ∀ {L : List Chg}, chk (some k) L = true → Sorted L ∧ ∀ x ∈ L, Go.Cn.strLt k x.k = true
  | [], _ => ⟨List.Pairwise.nil, by simp⟩
  | x :: L, h => by
    simp only [chk, after, Bool.and_eq_true] at h
    obtain ⟨h1, h2⟩ := chk_some h.2
    refine ⟨List.pairwise_cons.mpr ⟨h2, h1⟩, fun y hy => ?_⟩
    rcases List.mem_cons.mp hy with rfl | hy
    · exact h.1.2
    · exact lt_trans h.1.2 (h2 y hy)

theorem chk_sorted {L : List Chg} (h : chk none L = true) : Sorted L := by
  cases L with
  | nil => exact List.Pairwise.nil
  | cons x L =>
    simp only [chk, after, Bool.and_eq_true] at h
    obtain ⟨h1, h2⟩ := chk_some h.2
    exact List.pairwise_cons.mpr ⟨h2, h1⟩

def look (L : List Chg) (k : ByteArray) : Option Chg := L.find? fun x => decide (x.k = k)

theorem look_nil (k : ByteArray) : look [] k = none := rfl
theorem look_eq (x : Chg) (L : List Chg) : look (x :: L) x.k = some x := by simp [look]
theorem look_ne {x : Chg} {k : ByteArray} (L : List Chg) (h : x.k ≠ k) : look (x :: L) k = look L k := by simp [look, h]
theorem look_none {L : List Chg} {k : ByteArray} (h : ∀ x ∈ L, x.k ≠ k) : look L k = none := by
  simp only [look, List.find?_eq_none, decide_eq_true_eq]; exact h
theorem lt_ne {s u : ByteArray} (h : Go.Cn.strLt s u = true) : u ≠ s := by rintro rfl; rw [lt_irrefl] at h; simp at h
theorem look_low {L : List Chg} {k : ByteArray} (h : ∀ x ∈ L, Go.Cn.strLt k x.k = true) : look L k = none := look_none fun x hx => lt_ne (h x hx)
theorem look_mem {L : List Chg} {k : ByteArray} {x : Chg} (h : look L k = some x) : x ∈ L ∧ x.k = k := by
  simp only [look] at h
  exact ⟨List.mem_of_find?_eq_some h, by simpa using List.find?_some h⟩

def comb : Option Chg → Option Chg → Option Chg
  | none, q => q
  | p, none => p
  | some x, some y => if (x.join y).may then some (x.join y) else none

def fits : Option Chg → Option Chg → Prop
  | some x, some y => x.b = y.a ∧ x.n = y.o
  | _, _ => True

theorem comb_none (p : Option Chg) : comb p none = p := by cases p <;> rfl

theorem thenR_look : ∀ (L M : List Chg) {R : List Chg}, Sorted L → Sorted M → thenR L M = some R → ∀ k, look R k = comb (look L k) (look M k) ∧ fits (look L k) (look M k)
  | [], [], R, _, _, h, k => by rw [thenR] at h; simp at h; subst h; exact ⟨rfl, trivial⟩
  | x :: A, [], R, hL, hM, h, k => by
    rw [thenR] at h; simp at h; obtain ⟨R', h1, rfl⟩ := h
    have hL' := List.pairwise_cons.mp hL
    by_cases hk : x.k = k
    · subst hk; rw [look_eq, look_eq]; exact ⟨rfl, trivial⟩
    · rw [look_ne _ hk, look_ne _ hk]; exact thenR_look A [] hL'.2 hM h1 k
  | [], y :: B, R, hL, hM, h, k => by
    rw [thenR] at h; simp at h; obtain ⟨R', h1, rfl⟩ := h
    have hM' := List.pairwise_cons.mp hM
    by_cases hk : y.k = k
    · subst hk; rw [look_eq, look_eq]; exact ⟨rfl, trivial⟩
    · rw [look_ne _ hk, look_ne _ hk]; exact thenR_look [] B hL hM'.2 h1 k
  | x :: A, y :: B, R, hL, hM, h, k => by
    have hL' := List.pairwise_cons.mp hL
    have hM' := List.pairwise_cons.mp hM
    rw [thenR] at h
    split at h
    · rename_i hlt
      simp at h; obtain ⟨R', h1, rfl⟩ := h
      by_cases hk : x.k = k
      · subst hk
        rw [look_eq, look_eq, look_low (L := y :: B)]
        · exact ⟨rfl, trivial⟩
        · intro z hz
          rcases List.mem_cons.mp hz with rfl | hz
          · exact hlt
          · exact lt_trans hlt (hM'.1 z hz)
      · rw [look_ne _ hk, look_ne _ hk]; exact thenR_look A (y :: B) hL'.2 hM h1 k
    · rename_i hlt
      split at h
      · rename_i hlt2
        simp at h; obtain ⟨R', h1, rfl⟩ := h
        by_cases hk : y.k = k
        · subst hk
          rw [look_eq, look_eq, look_low (L := x :: A)]
          · exact ⟨rfl, trivial⟩
          · intro z hz
            rcases List.mem_cons.mp hz with rfl | hz
            · exact hlt2
            · exact lt_trans hlt2 (hL'.1 z hz)
        · rw [look_ne _ hk, look_ne _ hk]; exact thenR_look (x :: A) B hL hM'.2 h1 k
      · rename_i hlt2
        have hxy : x.k = y.k := lt_total (by simpa using hlt) (by simpa using hlt2)
        split at h
        · rename_i hok
          simp only [Bool.and_eq_true, beq_iff_eq, eq_iff] at hok
          have hA : look A x.k = none := look_low hL'.1
          have hB : look B x.k = none := look_low (by rw [hxy]; exact hM'.1)
          by_cases hk : x.k = k
          · subst hk
            rw [look_eq, show look (y :: B) x.k = some y by rw [hxy]; exact look_eq y B]
            refine ⟨?_, hok⟩
            simp only [comb]
            split at h
            · rename_i hm
              simp at h; obtain ⟨R', h1, rfl⟩ := h
              rw [if_pos hm]
              exact look_eq (x.join y) R'
            · rename_i hm
              rw [if_neg hm]
              have := (thenR_look A B hL'.2 hM'.2 h x.k).1
              rw [this, hA, hB]; rfl
          · rw [look_ne _ hk, look_ne _ (by rw [← hxy]; exact hk)]
            split at h
            · simp at h; obtain ⟨R', h1, rfl⟩ := h
              rw [look_ne _ (show (x.join y).k ≠ k from hk)]
              exact thenR_look A B hL'.2 hM'.2 h1 k
            · exact thenR_look A B hL'.2 hM'.2 h k
        · simp at h
termination_by L M => L.length + M.length

theorem thenR_keys : ∀ (L M : List Chg) {R : List Chg}, thenR L M = some R → ∀ z ∈ R, (∃ x ∈ L, x.k = z.k) ∨ (∃ y ∈ M, y.k = z.k)
  | [], [], R, h, z, hz => by rw [thenR] at h; simp at h; subst h; simp at hz
  | x :: A, [], R, h, z, hz => by
    rw [thenR] at h; simp at h; obtain ⟨R', h1, rfl⟩ := h
    rcases List.mem_cons.mp hz with rfl | hz
    · exact .inl ⟨z, by simp, rfl⟩
    · rcases thenR_keys A [] h1 z hz with ⟨w, hw, e⟩ | ⟨w, hw, e⟩
      · exact .inl ⟨w, by simp [hw], e⟩
      · simp at hw
  | [], y :: B, R, h, z, hz => by
    rw [thenR] at h; simp at h; obtain ⟨R', h1, rfl⟩ := h
    rcases List.mem_cons.mp hz with rfl | hz
    · exact .inr ⟨z, by simp, rfl⟩
    · rcases thenR_keys [] B h1 z hz with ⟨w, hw, e⟩ | ⟨w, hw, e⟩
      · simp at hw
      · exact .inr ⟨w, by simp [hw], e⟩
  | x :: A, y :: B, R, h, z, hz => by
    rw [thenR] at h
    split at h
    · simp at h; obtain ⟨R', h1, rfl⟩ := h
      rcases List.mem_cons.mp hz with rfl | hz
      · exact .inl ⟨z, by simp, rfl⟩
      · rcases thenR_keys A (y :: B) h1 z hz with ⟨w, hw, e⟩ | ⟨w, hw, e⟩
        · exact .inl ⟨w, by simp [hw], e⟩
        · exact .inr ⟨w, hw, e⟩
    · split at h
      · simp at h; obtain ⟨R', h1, rfl⟩ := h
        rcases List.mem_cons.mp hz with rfl | hz
        · exact .inr ⟨z, by simp, rfl⟩
        · rcases thenR_keys (x :: A) B h1 z hz with ⟨w, hw, e⟩ | ⟨w, hw, e⟩
          · exact .inl ⟨w, hw, e⟩
          · exact .inr ⟨w, by simp [hw], e⟩
      · have lift : ∀ {R' : List Chg}, thenR A B = some R' → z ∈ R' → (∃ w ∈ x :: A, w.k = z.k) ∨ (∃ w ∈ y :: B, w.k = z.k) := by
          intro R' h1 hz
          rcases thenR_keys A B h1 z hz with ⟨w, hw, e⟩ | ⟨w, hw, e⟩
          · exact .inl ⟨w, by simp [hw], e⟩
          · exact .inr ⟨w, by simp [hw], e⟩
        split at h
        · split at h
          · simp at h; obtain ⟨R', h1, rfl⟩ := h
            rcases List.mem_cons.mp hz with rfl | hz
            · exact .inl ⟨x, by simp, rfl⟩
            · exact lift h1 hz
          · exact lift h hz
        · simp at h
termination_by L M => L.length + M.length

theorem thenR_sorted : ∀ (L M : List Chg) {R : List Chg}, Sorted L → Sorted M → thenR L M = some R → Sorted R
  | [], [], R, _, _, h => by rw [thenR] at h; simp at h; subst h; exact List.Pairwise.nil
  | x :: A, [], R, hL, hM, h => by
    rw [thenR] at h; simp at h; obtain ⟨R', h1, rfl⟩ := h
    have hL' := List.pairwise_cons.mp hL
    refine List.pairwise_cons.mpr ⟨fun z hz => ?_, thenR_sorted A [] hL'.2 hM h1⟩
    rcases thenR_keys A [] h1 z hz with ⟨w, hw, e⟩ | ⟨w, hw, e⟩
    · rw [← e]; exact hL'.1 w hw
    · simp at hw
  | [], y :: B, R, hL, hM, h => by
    rw [thenR] at h; simp at h; obtain ⟨R', h1, rfl⟩ := h
    have hM' := List.pairwise_cons.mp hM
    refine List.pairwise_cons.mpr ⟨fun z hz => ?_, thenR_sorted [] B hL hM'.2 h1⟩
    rcases thenR_keys [] B h1 z hz with ⟨w, hw, e⟩ | ⟨w, hw, e⟩
    · simp at hw
    · rw [← e]; exact hM'.1 w hw
  | x :: A, y :: B, R, hL, hM, h => by
    have hL' := List.pairwise_cons.mp hL
    have hM' := List.pairwise_cons.mp hM
    rw [thenR] at h
    split at h
    · rename_i hlt
      simp at h; obtain ⟨R', h1, rfl⟩ := h
      refine List.pairwise_cons.mpr ⟨fun z hz => ?_, thenR_sorted A (y :: B) hL'.2 hM h1⟩
      rcases thenR_keys A (y :: B) h1 z hz with ⟨w, hw, e⟩ | ⟨w, hw, e⟩
      · rw [← e]; exact hL'.1 w hw
      · rw [← e]
        rcases List.mem_cons.mp hw with rfl | hw
        · exact hlt
        · exact lt_trans hlt (hM'.1 w hw)
    · rename_i hlt
      split at h
      · rename_i hlt2
        simp at h; obtain ⟨R', h1, rfl⟩ := h
        refine List.pairwise_cons.mpr ⟨fun z hz => ?_, thenR_sorted (x :: A) B hL hM'.2 h1⟩
        rcases thenR_keys (x :: A) B h1 z hz with ⟨w, hw, e⟩ | ⟨w, hw, e⟩
        · rw [← e]
          rcases List.mem_cons.mp hw with rfl | hw
          · exact hlt2
          · exact lt_trans hlt2 (hL'.1 w hw)
        · rw [← e]; exact hM'.1 w hw
      · rename_i hlt2
        have hxy : x.k = y.k := lt_total (by simpa using hlt) (by simpa using hlt2)
        split at h
        · split at h
          · simp at h; obtain ⟨R', h1, rfl⟩ := h
            refine List.pairwise_cons.mpr ⟨fun z hz => ?_, thenR_sorted A B hL'.2 hM'.2 h1⟩
            show Go.Cn.strLt x.k z.k = true
            rcases thenR_keys A B h1 z hz with ⟨w, hw, e⟩ | ⟨w, hw, e⟩
            · rw [← e]; exact hL'.1 w hw
            · rw [← e, hxy]; exact hM'.1 w hw
          · exact thenR_sorted A B hL'.2 hM'.2 h
        · simp at h
termination_by L M => L.length + M.length

theorem look_ext : ∀ {R Q : List Chg}, Sorted R → Sorted Q → (∀ k, look R k = look Q k) → R = Q
  | [], [], _, _, _ => rfl
  | [], y :: B, _, _, h => by have := h y.k; rw [look_eq, look_nil] at this; simp at this
  | x :: A, [], _, _, h => by have := h x.k; rw [look_eq, look_nil] at this; simp at this
  | x :: A, y :: B, hR, hQ, h => by
    have hR' := List.pairwise_cons.mp hR
    have hQ' := List.pairwise_cons.mp hQ
    have hk : x.k = y.k := by
      apply lt_total
      · rw [Bool.eq_false_iff]; intro hlt
        have := h x.k
        rw [look_eq, look_low (L := y :: B)] at this
        · simp at this
        · intro z hz
          rcases List.mem_cons.mp hz with rfl | hz
          · exact hlt
          · exact lt_trans hlt (hQ'.1 z hz)
      · rw [Bool.eq_false_iff]; intro hlt
        have := h y.k
        rw [look_eq, look_low (L := x :: A)] at this
        · simp at this
        · intro z hz
          rcases List.mem_cons.mp hz with rfl | hz
          · exact hlt
          · exact lt_trans hlt (hR'.1 z hz)
    have hxy : x = y := by
      have := h x.k
      rw [look_eq, hk, look_eq] at this
      simpa using this
    subst hxy
    rw [look_ext hR'.2 hQ'.2 fun k => ?_]
    by_cases hk : x.k = k
    · subst hk; rw [look_low hR'.1, look_low hQ'.1]
    · have := h k
      rwa [look_ne _ hk, look_ne _ hk] at this

theorem join_no {x y : Chg} (hx : x.may = true) (hy : y.may = true) (h : ¬ (x.join y).may = true) : x.a = y.b ∧ x.o = y.n := by
  have := join_may hx hy
  rw [Bool.not_eq_true] at h
  rw [h] at this
  cases hb : eqB x.a y.b <;> cases hs : strEq x.o y.n <;> simp [sel, notB, hb, hs] at this
  exact ⟨by simpa [eqB] using hb, (eq_iff _ _).mp hs⟩

theorem comb_assoc {p q r : Option Chg} {k : ByteArray} (hp : ∀ x, p = some x → x.may = true ∧ x.k = k) (hq : ∀ x, q = some x → x.may = true ∧ x.k = k) (hr : ∀ x, r = some x → x.may = true ∧ x.k = k)
    (h1 : fits p q) (h3 : fits q r) : comb (comb p q) r = comb p (comb q r) := by
  cases p with
  | none => rfl
  | some x =>
    cases q with
    | none => rfl
    | some y =>
      cases r with
      | none => rw [comb_none, comb_none]
      | some z =>
        obtain ⟨mx, kx⟩ := hp x rfl
        obtain ⟨my, ky⟩ := hq y rfl
        obtain ⟨mz, kz⟩ := hr z rfl
        obtain ⟨a1, a2⟩ := h1
        obtain ⟨b1, b2⟩ := h3
        simp only [comb]
        by_cases hxy : (x.join y).may = true <;> by_cases hyz : (y.join z).may = true
        · rw [if_pos hxy, if_pos hyz]; rfl
        · obtain ⟨c1, c2⟩ := join_no my mz hyz
          rw [if_pos hxy, if_neg hyz]
          have : (x.join y).join z = x := by
            rw [Chg.ext_iff']; simp only [Chg.join]; simp [a1, a2, c1, c2]
          simp only [this, mx, if_true]
        · obtain ⟨c1, c2⟩ := join_no mx my hxy
          rw [if_neg hxy, if_pos hyz]
          have : x.join (y.join z) = z := by
            rw [Chg.ext_iff']; simp only [Chg.join]; simp [c1, c2, b1, b2, kx, kz]
          simp only [this, mz, if_true]
        · obtain ⟨c1, c2⟩ := join_no mx my hxy
          obtain ⟨d1, d2⟩ := join_no my mz hyz
          rw [if_neg hxy, if_neg hyz]
          have : x = z := by rw [Chg.ext_iff']; simp [c1, c2, b1, b2, a1, a2, d1, d2, kx, kz]
          rw [this]

theorem thenL_ok {A B R : List Chg} (h : thenL A B = (R, 0)) : chk none A = true ∧ chk none B = true ∧ thenR A B = some R := by
  unfold thenL at h
  split at h
  · rename_i hc
    simp only [Bool.and_eq_true] at hc
    split at h
    · rename_i R' hR; simp at h; subst h; exact ⟨hc.1, hc.2, hR⟩
    · simp at h
  · simp at h

/-- Then hangs on no grouping. -/
theorem then_groups {L M N A B R Q : List Chg} (h1 : thenL L M = (A, 0)) (h2 : thenL A N = (R, 0)) (h3 : thenL M N = (B, 0)) (h4 : thenL L B = (Q, 0)) : R = Q := by
  obtain ⟨cL, cM, t1⟩ := thenL_ok h1
  obtain ⟨cA, cN, t2⟩ := thenL_ok h2
  obtain ⟨_, _, t3⟩ := thenL_ok h3
  obtain ⟨_, cB, t4⟩ := thenL_ok h4
  have sL := chk_sorted cL
  have sM := chk_sorted cM
  have sN := chk_sorted cN
  have sA := chk_sorted cA
  have sB := chk_sorted cB
  refine look_ext (thenR_sorted A N sA sN t2) (thenR_sorted L B sL sB t4) fun k => ?_
  obtain ⟨e1, f1⟩ := thenR_look L M sL sM t1 k
  obtain ⟨e2, f2⟩ := thenR_look A N sA sN t2 k
  obtain ⟨e3, f3⟩ := thenR_look M N sM sN t3 k
  obtain ⟨e4, f4⟩ := thenR_look L B sL sB t4 k
  rw [e2, e4, e1, e3]
  have fact : ∀ {X : List Chg}, chk none X = true → ∀ x, look X k = some x → x.may = true ∧ x.k = k := fun hX x hx => ⟨chk_all hX x (look_mem hx).1, (look_mem hx).2⟩
  exact comb_assoc (fact cL) (fact cM) (fact cN) f1 f3

theorem back_may (x : Chg) : x.back.may = x.may := by
  have e : (x.n.toList == x.o.toList) = (x.o.toList == x.n.toList) := by rw [Bool.eq_iff_iff]; simp; exact ⟨fun h => h.symm, fun h => h.symm⟩
  simp only [Chg.may, Chg.back, e]
  generalize (x.k.toList == []) = p
  generalize (x.o.toList == []) = q
  generalize (x.n.toList == []) = r
  generalize (x.o.toList == x.n.toList) = u
  cases x.a <;> cases x.b <;> cases p <;> cases q <;> cases r <;> cases u <;> rfl

theorem back_chk : ∀ (L : List Chg) (p : Option ByteArray), chk p (L.map Chg.back) = chk p L
  | [], _ => rfl
  | x :: L, p => by simp only [List.map_cons, chk, back_may, back_chk L]; rfl

theorem back_back (L : List Chg) : (L.map Chg.back).map Chg.back = L := by
  induction L with
  | nil => rfl
  | cons x L ih => rw [List.map_cons, List.map_cons, ih]; rfl

theorem then_back : ∀ (L : List Chg), thenR L (L.map Chg.back) = some []
  | [] => by rw [List.map_nil, thenR]
  | x :: L => by
    rw [List.map_cons, thenR]
    have hk : Go.Cn.strLt x.k x.back.k = false := lt_irrefl _
    have hk' : Go.Cn.strLt x.back.k x.k = false := lt_irrefl _
    rw [if_neg (by simp [hk]), if_neg (by simp [hk']), if_pos, if_neg]
    · exact then_back L
    · simp only [Chg.may, Chg.join, Chg.back]
      cases x.a <;> simp
    · have : strEq x.n x.back.o = true := (eq_iff _ _).mpr rfl
      simp [this]; rfl
end Go.Proofs.Ytfkhjbfddeahaaa.dc
