/- Joined: GrowD, GrowE, GrowF, GrowG. -/
import Derived.Test.YtpgedmighmolnaaGreatGw15
/- Contracts for GrowthNews (2): digests that are cut, and whether they fit. -/
set_option linter.unusedVariables false
namespace Go.Proofs.YtpgedmighmolnaaGreat.sb
open Go Go.Cn Go.Cn.Sha Go.Proofs Go.Proofs.YtpgedmighmolnaaGreat.vc

/-- Numbers as a digest's cells. -/
def b8 (n : Int) : Value := .int .u8 n
/-- The first numbers, then zeros. -/
def cutL (w : Nat) (l : List Int) : List Int := l.take w ++ List.replicate (32 - w) 0
/-- Two rows of numbers, one by one. -/
def chain : List Int → List Int → Bool
  | x :: xs, y :: ys => andB (eqI x y) (chain xs ys)
  | _, _ => true
def fitB (w : Nat) (l : List Int) : Bool := (l.drop w).all fun x => eqI x 0

theorem eqI_self (x : Int) : eqI x x = true := eqI_iff.2 rfl
theorem chain_self : ∀ l : List Int, chain l l = true
  | [] => rfl
  | x :: l => by unfold chain; rw [eqI_self, chain_self l]; rfl
theorem eqI_comm (x y : Int) : eqI x y = eqI y x := by
  rw [Bool.eq_iff_iff, eqI_iff, eqI_iff]
  exact ⟨fun h => h.symm, fun h => h.symm⟩
theorem chain_zero : ∀ (l : List Int) (n : Nat), n = l.length → chain (List.replicate n 0) l = l.all fun x => eqI x 0
  | [], n, h => by subst h; rfl
  | x :: l, n, h => by
    subst h
    simp only [List.length_cons, List.replicate_succ, List.all_cons]
    unfold chain
    rw [chain_zero l _ rfl, eqI_comm]
    rfl
theorem chain_cut : ∀ (w : Nat) (l : List Int), w ≤ l.length → chain (l.take w ++ List.replicate (l.length - w) 0) l = fitB w l
  | 0, l, h => by
    simp only [List.take_zero, List.nil_append, Nat.sub_zero]
    rw [chain_zero l _ rfl]
    rfl
  | w + 1, [], h => by simp at h
  | w + 1, x :: l, h => by
    simp only [List.length_cons, List.take_succ_cons, List.cons_append]
    unfold chain
    rw [show l.length + 1 - (w + 1) = l.length - w by omega, chain_cut w l (by simpa using h), eqI_self]
    rfl

theorem exI32 : ∀ {L : List Int}, L.length = 32 → ∃ d0 d1 d2 d3 d4 d5 d6 d7 d8 d9 d10 d11 d12 d13 d14 d15 d16 d17 d18 d19 d20 d21 d22 d23 d24 d25 d26 d27 d28 d29 d30 d31, L = [d0, d1, d2, d3, d4, d5, d6, d7, d8, d9, d10, d11, d12, d13, d14, d15, d16, d17, d18, d19, d20, d21, d22, d23, d24, d25, d26, d27, d28, d29, d30, d31] := by
  intro L h
  match L, h with
  | [d0, d1, d2, d3, d4, d5, d6, d7, d8, d9, d10, d11, d12, d13, d14, d15, d16, d17, d18, d19, d20, d21, d22, d23, d24, d25, d26, d27, d28, d29, d30, d31], _ => exact ⟨d0, d1, d2, d3, d4, d5, d6, d7, d8, d9, d10, d11, d12, d13, d14, d15, d16, d17, d18, d19, d20, d21, d22, d23, d24, d25, d26, d27, d28, d29, d30, d31, rfl⟩

set_option maxRecDepth 20000 in
theorem c111 {w : Nat} (h1 : 1 ≤ w) (h2 : w ≤ 32) (n0 n1 n2 n3 n4 n5 n6 n7 n8 n9 n10 n11 n12 n13 n14 n15 n16 n17 n18 n19 n20 n21 n22 n23 n24 n25 n26 n27 n28 n29 n30 n31 : Int) (h : Hp) : C 111 [.int .i64 w, .agg (Array.mk [.int .u8 n0, .int .u8 n1, .int .u8 n2, .int .u8 n3, .int .u8 n4, .int .u8 n5, .int .u8 n6, .int .u8 n7, .int .u8 n8, .int .u8 n9, .int .u8 n10, .int .u8 n11, .int .u8 n12, .int .u8 n13, .int .u8 n14, .int .u8 n15, .int .u8 n16, .int .u8 n17, .int .u8 n18, .int .u8 n19, .int .u8 n20, .int .u8 n21, .int .u8 n22, .int .u8 n23, .int .u8 n24, .int .u8 n25, .int .u8 n26, .int .u8 n27, .int .u8 n28, .int .u8 n29, .int .u8 n30, .int .u8 n31])] h fun v h' => v = .tuple #[.agg ((cutL w [n0, n1, n2, n3, n4, n5, n6, n7, n8, n9, n10, n11, n12, n13, n14, n15, n16, n17, n18, n19, n20, n21, n22, n23, n24, n25, n26, n27, n28, n29, n30, n31]).map b8).toArray, .int .i64 0] ∧ h' = h := by
  match w with
  | 1 => exact bareV fol natE_ok (m := 30000) (n := 100) (exp := .tuple #[.agg #[.int .u8 n0, .int .u8 0, .int .u8 0, .int .u8 0, .int .u8 0, .int .u8 0, .int .u8 0, .int .u8 0, .int .u8 0, .int .u8 0, .int .u8 0, .int .u8 0, .int .u8 0, .int .u8 0, .int .u8 0, .int .u8 0, .int .u8 0, .int .u8 0, .int .u8 0, .int .u8 0, .int .u8 0, .int .u8 0, .int .u8 0, .int .u8 0, .int .u8 0, .int .u8 0, .int .u8 0, .int .u8 0, .int .u8 0, .int .u8 0, .int .u8 0, .int .u8 0], .int .i64 0]) (of_decide_eq_true (by kernel_rfl)) rfl (by intro K; kernel_rfl) rfl h
  | 2 => exact bareV fol natE_ok (m := 30000) (n := 100) (exp := .tuple #[.agg #[.int .u8 n0, .int .u8 n1, .int .u8 0, .int .u8 0, .int .u8 0, .int .u8 0, .int .u8 0, .int .u8 0, .int .u8 0, .int .u8 0, .int .u8 0, .int .u8 0, .int .u8 0, .int .u8 0, .int .u8 0, .int .u8 0, .int .u8 0, .int .u8 0, .int .u8 0, .int .u8 0, .int .u8 0, .int .u8 0, .int .u8 0, .int .u8 0, .int .u8 0, .int .u8 0, .int .u8 0, .int .u8 0, .int .u8 0, .int .u8 0, .int .u8 0, .int .u8 0], .int .i64 0]) (of_decide_eq_true (by kernel_rfl)) rfl (by intro K; kernel_rfl) rfl h
  | 3 => exact bareV fol natE_ok (m := 30000) (n := 100) (exp := .tuple #[.agg #[.int .u8 n0, .int .u8 n1, .int .u8 n2, .int .u8 0, .int .u8 0, .int .u8 0, .int .u8 0, .int .u8 0, .int .u8 0, .int .u8 0, .int .u8 0, .int .u8 0, .int .u8 0, .int .u8 0, .int .u8 0, .int .u8 0, .int .u8 0, .int .u8 0, .int .u8 0, .int .u8 0, .int .u8 0, .int .u8 0, .int .u8 0, .int .u8 0, .int .u8 0, .int .u8 0, .int .u8 0, .int .u8 0, .int .u8 0, .int .u8 0, .int .u8 0, .int .u8 0], .int .i64 0]) (of_decide_eq_true (by kernel_rfl)) rfl (by intro K; kernel_rfl) rfl h
  | 4 => exact bareV fol natE_ok (m := 30000) (n := 100) (exp := .tuple #[.agg #[.int .u8 n0, .int .u8 n1, .int .u8 n2, .int .u8 n3, .int .u8 0, .int .u8 0, .int .u8 0, .int .u8 0, .int .u8 0, .int .u8 0, .int .u8 0, .int .u8 0, .int .u8 0, .int .u8 0, .int .u8 0, .int .u8 0, .int .u8 0, .int .u8 0, .int .u8 0, .int .u8 0, .int .u8 0, .int .u8 0, .int .u8 0, .int .u8 0, .int .u8 0, .int .u8 0, .int .u8 0, .int .u8 0, .int .u8 0, .int .u8 0, .int .u8 0, .int .u8 0], .int .i64 0]) (of_decide_eq_true (by kernel_rfl)) rfl (by intro K; kernel_rfl) rfl h
  | 5 => exact bareV fol natE_ok (m := 30000) (n := 100) (exp := .tuple #[.agg #[.int .u8 n0, .int .u8 n1, .int .u8 n2, .int .u8 n3, .int .u8 n4, .int .u8 0, .int .u8 0, .int .u8 0, .int .u8 0, .int .u8 0, .int .u8 0, .int .u8 0, .int .u8 0, .int .u8 0, .int .u8 0, .int .u8 0, .int .u8 0, .int .u8 0, .int .u8 0, .int .u8 0, .int .u8 0, .int .u8 0, .int .u8 0, .int .u8 0, .int .u8 0, .int .u8 0, .int .u8 0, .int .u8 0, .int .u8 0, .int .u8 0, .int .u8 0, .int .u8 0], .int .i64 0]) (of_decide_eq_true (by kernel_rfl)) rfl (by intro K; kernel_rfl) rfl h
  | 6 => exact bareV fol natE_ok (m := 30000) (n := 100) (exp := .tuple #[.agg #[.int .u8 n0, .int .u8 n1, .int .u8 n2, .int .u8 n3, .int .u8 n4, .int .u8 n5, .int .u8 0, .int .u8 0, .int .u8 0, .int .u8 0, .int .u8 0, .int .u8 0, .int .u8 0, .int .u8 0, .int .u8 0, .int .u8 0, .int .u8 0, .int .u8 0, .int .u8 0, .int .u8 0, .int .u8 0, .int .u8 0, .int .u8 0, .int .u8 0, .int .u8 0, .int .u8 0, .int .u8 0, .int .u8 0, .int .u8 0, .int .u8 0, .int .u8 0, .int .u8 0], .int .i64 0]) (of_decide_eq_true (by kernel_rfl)) rfl (by intro K; kernel_rfl) rfl h
  | 7 => exact bareV fol natE_ok (m := 30000) (n := 100) (exp := .tuple #[.agg #[.int .u8 n0, .int .u8 n1, .int .u8 n2, .int .u8 n3, .int .u8 n4, .int .u8 n5, .int .u8 n6, .int .u8 0, .int .u8 0, .int .u8 0, .int .u8 0, .int .u8 0, .int .u8 0, .int .u8 0, .int .u8 0, .int .u8 0, .int .u8 0, .int .u8 0, .int .u8 0, .int .u8 0, .int .u8 0, .int .u8 0, .int .u8 0, .int .u8 0, .int .u8 0, .int .u8 0, .int .u8 0, .int .u8 0, .int .u8 0, .int .u8 0, .int .u8 0, .int .u8 0], .int .i64 0]) (of_decide_eq_true (by kernel_rfl)) rfl (by intro K; kernel_rfl) rfl h
  | 8 => exact bareV fol natE_ok (m := 30000) (n := 100) (exp := .tuple #[.agg #[.int .u8 n0, .int .u8 n1, .int .u8 n2, .int .u8 n3, .int .u8 n4, .int .u8 n5, .int .u8 n6, .int .u8 n7, .int .u8 0, .int .u8 0, .int .u8 0, .int .u8 0, .int .u8 0, .int .u8 0, .int .u8 0, .int .u8 0, .int .u8 0, .int .u8 0, .int .u8 0, .int .u8 0, .int .u8 0, .int .u8 0, .int .u8 0, .int .u8 0, .int .u8 0, .int .u8 0, .int .u8 0, .int .u8 0, .int .u8 0, .int .u8 0, .int .u8 0, .int .u8 0], .int .i64 0]) (of_decide_eq_true (by kernel_rfl)) rfl (by intro K; kernel_rfl) rfl h
  | 9 => exact bareV fol natE_ok (m := 30000) (n := 100) (exp := .tuple #[.agg #[.int .u8 n0, .int .u8 n1, .int .u8 n2, .int .u8 n3, .int .u8 n4, .int .u8 n5, .int .u8 n6, .int .u8 n7, .int .u8 n8, .int .u8 0, .int .u8 0, .int .u8 0, .int .u8 0, .int .u8 0, .int .u8 0, .int .u8 0, .int .u8 0, .int .u8 0, .int .u8 0, .int .u8 0, .int .u8 0, .int .u8 0, .int .u8 0, .int .u8 0, .int .u8 0, .int .u8 0, .int .u8 0, .int .u8 0, .int .u8 0, .int .u8 0, .int .u8 0, .int .u8 0], .int .i64 0]) (of_decide_eq_true (by kernel_rfl)) rfl (by intro K; kernel_rfl) rfl h
  | 10 => exact bareV fol natE_ok (m := 30000) (n := 100) (exp := .tuple #[.agg #[.int .u8 n0, .int .u8 n1, .int .u8 n2, .int .u8 n3, .int .u8 n4, .int .u8 n5, .int .u8 n6, .int .u8 n7, .int .u8 n8, .int .u8 n9, .int .u8 0, .int .u8 0, .int .u8 0, .int .u8 0, .int .u8 0, .int .u8 0, .int .u8 0, .int .u8 0, .int .u8 0, .int .u8 0, .int .u8 0, .int .u8 0, .int .u8 0, .int .u8 0, .int .u8 0, .int .u8 0, .int .u8 0, .int .u8 0, .int .u8 0, .int .u8 0, .int .u8 0, .int .u8 0], .int .i64 0]) (of_decide_eq_true (by kernel_rfl)) rfl (by intro K; kernel_rfl) rfl h
  | 11 => exact bareV fol natE_ok (m := 30000) (n := 100) (exp := .tuple #[.agg #[.int .u8 n0, .int .u8 n1, .int .u8 n2, .int .u8 n3, .int .u8 n4, .int .u8 n5, .int .u8 n6, .int .u8 n7, .int .u8 n8, .int .u8 n9, .int .u8 n10, .int .u8 0, .int .u8 0, .int .u8 0, .int .u8 0, .int .u8 0, .int .u8 0, .int .u8 0, .int .u8 0, .int .u8 0, .int .u8 0, .int .u8 0, .int .u8 0, .int .u8 0, .int .u8 0, .int .u8 0, .int .u8 0, .int .u8 0, .int .u8 0, .int .u8 0, .int .u8 0, .int .u8 0], .int .i64 0]) (of_decide_eq_true (by kernel_rfl)) rfl (by intro K; kernel_rfl) rfl h
  | 12 => exact bareV fol natE_ok (m := 30000) (n := 100) (exp := .tuple #[.agg #[.int .u8 n0, .int .u8 n1, .int .u8 n2, .int .u8 n3, .int .u8 n4, .int .u8 n5, .int .u8 n6, .int .u8 n7, .int .u8 n8, .int .u8 n9, .int .u8 n10, .int .u8 n11, .int .u8 0, .int .u8 0, .int .u8 0, .int .u8 0, .int .u8 0, .int .u8 0, .int .u8 0, .int .u8 0, .int .u8 0, .int .u8 0, .int .u8 0, .int .u8 0, .int .u8 0, .int .u8 0, .int .u8 0, .int .u8 0, .int .u8 0, .int .u8 0, .int .u8 0, .int .u8 0], .int .i64 0]) (of_decide_eq_true (by kernel_rfl)) rfl (by intro K; kernel_rfl) rfl h
  | 13 => exact bareV fol natE_ok (m := 30000) (n := 100) (exp := .tuple #[.agg #[.int .u8 n0, .int .u8 n1, .int .u8 n2, .int .u8 n3, .int .u8 n4, .int .u8 n5, .int .u8 n6, .int .u8 n7, .int .u8 n8, .int .u8 n9, .int .u8 n10, .int .u8 n11, .int .u8 n12, .int .u8 0, .int .u8 0, .int .u8 0, .int .u8 0, .int .u8 0, .int .u8 0, .int .u8 0, .int .u8 0, .int .u8 0, .int .u8 0, .int .u8 0, .int .u8 0, .int .u8 0, .int .u8 0, .int .u8 0, .int .u8 0, .int .u8 0, .int .u8 0, .int .u8 0], .int .i64 0]) (of_decide_eq_true (by kernel_rfl)) rfl (by intro K; kernel_rfl) rfl h
  | 14 => exact bareV fol natE_ok (m := 30000) (n := 100) (exp := .tuple #[.agg #[.int .u8 n0, .int .u8 n1, .int .u8 n2, .int .u8 n3, .int .u8 n4, .int .u8 n5, .int .u8 n6, .int .u8 n7, .int .u8 n8, .int .u8 n9, .int .u8 n10, .int .u8 n11, .int .u8 n12, .int .u8 n13, .int .u8 0, .int .u8 0, .int .u8 0, .int .u8 0, .int .u8 0, .int .u8 0, .int .u8 0, .int .u8 0, .int .u8 0, .int .u8 0, .int .u8 0, .int .u8 0, .int .u8 0, .int .u8 0, .int .u8 0, .int .u8 0, .int .u8 0, .int .u8 0], .int .i64 0]) (of_decide_eq_true (by kernel_rfl)) rfl (by intro K; kernel_rfl) rfl h
  | 15 => exact bareV fol natE_ok (m := 30000) (n := 100) (exp := .tuple #[.agg #[.int .u8 n0, .int .u8 n1, .int .u8 n2, .int .u8 n3, .int .u8 n4, .int .u8 n5, .int .u8 n6, .int .u8 n7, .int .u8 n8, .int .u8 n9, .int .u8 n10, .int .u8 n11, .int .u8 n12, .int .u8 n13, .int .u8 n14, .int .u8 0, .int .u8 0, .int .u8 0, .int .u8 0, .int .u8 0, .int .u8 0, .int .u8 0, .int .u8 0, .int .u8 0, .int .u8 0, .int .u8 0, .int .u8 0, .int .u8 0, .int .u8 0, .int .u8 0, .int .u8 0, .int .u8 0], .int .i64 0]) (of_decide_eq_true (by kernel_rfl)) rfl (by intro K; kernel_rfl) rfl h
  | 16 => exact bareV fol natE_ok (m := 30000) (n := 100) (exp := .tuple #[.agg #[.int .u8 n0, .int .u8 n1, .int .u8 n2, .int .u8 n3, .int .u8 n4, .int .u8 n5, .int .u8 n6, .int .u8 n7, .int .u8 n8, .int .u8 n9, .int .u8 n10, .int .u8 n11, .int .u8 n12, .int .u8 n13, .int .u8 n14, .int .u8 n15, .int .u8 0, .int .u8 0, .int .u8 0, .int .u8 0, .int .u8 0, .int .u8 0, .int .u8 0, .int .u8 0, .int .u8 0, .int .u8 0, .int .u8 0, .int .u8 0, .int .u8 0, .int .u8 0, .int .u8 0, .int .u8 0], .int .i64 0]) (of_decide_eq_true (by kernel_rfl)) rfl (by intro K; kernel_rfl) rfl h
  | 17 => exact bareV fol natE_ok (m := 30000) (n := 100) (exp := .tuple #[.agg #[.int .u8 n0, .int .u8 n1, .int .u8 n2, .int .u8 n3, .int .u8 n4, .int .u8 n5, .int .u8 n6, .int .u8 n7, .int .u8 n8, .int .u8 n9, .int .u8 n10, .int .u8 n11, .int .u8 n12, .int .u8 n13, .int .u8 n14, .int .u8 n15, .int .u8 n16, .int .u8 0, .int .u8 0, .int .u8 0, .int .u8 0, .int .u8 0, .int .u8 0, .int .u8 0, .int .u8 0, .int .u8 0, .int .u8 0, .int .u8 0, .int .u8 0, .int .u8 0, .int .u8 0, .int .u8 0], .int .i64 0]) (of_decide_eq_true (by kernel_rfl)) rfl (by intro K; kernel_rfl) rfl h
  | 18 => exact bareV fol natE_ok (m := 30000) (n := 100) (exp := .tuple #[.agg #[.int .u8 n0, .int .u8 n1, .int .u8 n2, .int .u8 n3, .int .u8 n4, .int .u8 n5, .int .u8 n6, .int .u8 n7, .int .u8 n8, .int .u8 n9, .int .u8 n10, .int .u8 n11, .int .u8 n12, .int .u8 n13, .int .u8 n14, .int .u8 n15, .int .u8 n16, .int .u8 n17, .int .u8 0, .int .u8 0, .int .u8 0, .int .u8 0, .int .u8 0, .int .u8 0, .int .u8 0, .int .u8 0, .int .u8 0, .int .u8 0, .int .u8 0, .int .u8 0, .int .u8 0, .int .u8 0], .int .i64 0]) (of_decide_eq_true (by kernel_rfl)) rfl (by intro K; kernel_rfl) rfl h
  | 19 => exact bareV fol natE_ok (m := 30000) (n := 100) (exp := .tuple #[.agg #[.int .u8 n0, .int .u8 n1, .int .u8 n2, .int .u8 n3, .int .u8 n4, .int .u8 n5, .int .u8 n6, .int .u8 n7, .int .u8 n8, .int .u8 n9, .int .u8 n10, .int .u8 n11, .int .u8 n12, .int .u8 n13, .int .u8 n14, .int .u8 n15, .int .u8 n16, .int .u8 n17, .int .u8 n18, .int .u8 0, .int .u8 0, .int .u8 0, .int .u8 0, .int .u8 0, .int .u8 0, .int .u8 0, .int .u8 0, .int .u8 0, .int .u8 0, .int .u8 0, .int .u8 0, .int .u8 0], .int .i64 0]) (of_decide_eq_true (by kernel_rfl)) rfl (by intro K; kernel_rfl) rfl h
  | 20 => exact bareV fol natE_ok (m := 30000) (n := 100) (exp := .tuple #[.agg #[.int .u8 n0, .int .u8 n1, .int .u8 n2, .int .u8 n3, .int .u8 n4, .int .u8 n5, .int .u8 n6, .int .u8 n7, .int .u8 n8, .int .u8 n9, .int .u8 n10, .int .u8 n11, .int .u8 n12, .int .u8 n13, .int .u8 n14, .int .u8 n15, .int .u8 n16, .int .u8 n17, .int .u8 n18, .int .u8 n19, .int .u8 0, .int .u8 0, .int .u8 0, .int .u8 0, .int .u8 0, .int .u8 0, .int .u8 0, .int .u8 0, .int .u8 0, .int .u8 0, .int .u8 0, .int .u8 0], .int .i64 0]) (of_decide_eq_true (by kernel_rfl)) rfl (by intro K; kernel_rfl) rfl h
  | 21 => exact bareV fol natE_ok (m := 30000) (n := 100) (exp := .tuple #[.agg #[.int .u8 n0, .int .u8 n1, .int .u8 n2, .int .u8 n3, .int .u8 n4, .int .u8 n5, .int .u8 n6, .int .u8 n7, .int .u8 n8, .int .u8 n9, .int .u8 n10, .int .u8 n11, .int .u8 n12, .int .u8 n13, .int .u8 n14, .int .u8 n15, .int .u8 n16, .int .u8 n17, .int .u8 n18, .int .u8 n19, .int .u8 n20, .int .u8 0, .int .u8 0, .int .u8 0, .int .u8 0, .int .u8 0, .int .u8 0, .int .u8 0, .int .u8 0, .int .u8 0, .int .u8 0, .int .u8 0], .int .i64 0]) (of_decide_eq_true (by kernel_rfl)) rfl (by intro K; kernel_rfl) rfl h
  | 22 => exact bareV fol natE_ok (m := 30000) (n := 100) (exp := .tuple #[.agg #[.int .u8 n0, .int .u8 n1, .int .u8 n2, .int .u8 n3, .int .u8 n4, .int .u8 n5, .int .u8 n6, .int .u8 n7, .int .u8 n8, .int .u8 n9, .int .u8 n10, .int .u8 n11, .int .u8 n12, .int .u8 n13, .int .u8 n14, .int .u8 n15, .int .u8 n16, .int .u8 n17, .int .u8 n18, .int .u8 n19, .int .u8 n20, .int .u8 n21, .int .u8 0, .int .u8 0, .int .u8 0, .int .u8 0, .int .u8 0, .int .u8 0, .int .u8 0, .int .u8 0, .int .u8 0, .int .u8 0], .int .i64 0]) (of_decide_eq_true (by kernel_rfl)) rfl (by intro K; kernel_rfl) rfl h
  | 23 => exact bareV fol natE_ok (m := 30000) (n := 100) (exp := .tuple #[.agg #[.int .u8 n0, .int .u8 n1, .int .u8 n2, .int .u8 n3, .int .u8 n4, .int .u8 n5, .int .u8 n6, .int .u8 n7, .int .u8 n8, .int .u8 n9, .int .u8 n10, .int .u8 n11, .int .u8 n12, .int .u8 n13, .int .u8 n14, .int .u8 n15, .int .u8 n16, .int .u8 n17, .int .u8 n18, .int .u8 n19, .int .u8 n20, .int .u8 n21, .int .u8 n22, .int .u8 0, .int .u8 0, .int .u8 0, .int .u8 0, .int .u8 0, .int .u8 0, .int .u8 0, .int .u8 0, .int .u8 0], .int .i64 0]) (of_decide_eq_true (by kernel_rfl)) rfl (by intro K; kernel_rfl) rfl h
  | 24 => exact bareV fol natE_ok (m := 30000) (n := 100) (exp := .tuple #[.agg #[.int .u8 n0, .int .u8 n1, .int .u8 n2, .int .u8 n3, .int .u8 n4, .int .u8 n5, .int .u8 n6, .int .u8 n7, .int .u8 n8, .int .u8 n9, .int .u8 n10, .int .u8 n11, .int .u8 n12, .int .u8 n13, .int .u8 n14, .int .u8 n15, .int .u8 n16, .int .u8 n17, .int .u8 n18, .int .u8 n19, .int .u8 n20, .int .u8 n21, .int .u8 n22, .int .u8 n23, .int .u8 0, .int .u8 0, .int .u8 0, .int .u8 0, .int .u8 0, .int .u8 0, .int .u8 0, .int .u8 0], .int .i64 0]) (of_decide_eq_true (by kernel_rfl)) rfl (by intro K; kernel_rfl) rfl h
  | 25 => exact bareV fol natE_ok (m := 30000) (n := 100) (exp := .tuple #[.agg #[.int .u8 n0, .int .u8 n1, .int .u8 n2, .int .u8 n3, .int .u8 n4, .int .u8 n5, .int .u8 n6, .int .u8 n7, .int .u8 n8, .int .u8 n9, .int .u8 n10, .int .u8 n11, .int .u8 n12, .int .u8 n13, .int .u8 n14, .int .u8 n15, .int .u8 n16, .int .u8 n17, .int .u8 n18, .int .u8 n19, .int .u8 n20, .int .u8 n21, .int .u8 n22, .int .u8 n23, .int .u8 n24, .int .u8 0, .int .u8 0, .int .u8 0, .int .u8 0, .int .u8 0, .int .u8 0, .int .u8 0], .int .i64 0]) (of_decide_eq_true (by kernel_rfl)) rfl (by intro K; kernel_rfl) rfl h
  | 26 => exact bareV fol natE_ok (m := 30000) (n := 100) (exp := .tuple #[.agg #[.int .u8 n0, .int .u8 n1, .int .u8 n2, .int .u8 n3, .int .u8 n4, .int .u8 n5, .int .u8 n6, .int .u8 n7, .int .u8 n8, .int .u8 n9, .int .u8 n10, .int .u8 n11, .int .u8 n12, .int .u8 n13, .int .u8 n14, .int .u8 n15, .int .u8 n16, .int .u8 n17, .int .u8 n18, .int .u8 n19, .int .u8 n20, .int .u8 n21, .int .u8 n22, .int .u8 n23, .int .u8 n24, .int .u8 n25, .int .u8 0, .int .u8 0, .int .u8 0, .int .u8 0, .int .u8 0, .int .u8 0], .int .i64 0]) (of_decide_eq_true (by kernel_rfl)) rfl (by intro K; kernel_rfl) rfl h
  | 27 => exact bareV fol natE_ok (m := 30000) (n := 100) (exp := .tuple #[.agg #[.int .u8 n0, .int .u8 n1, .int .u8 n2, .int .u8 n3, .int .u8 n4, .int .u8 n5, .int .u8 n6, .int .u8 n7, .int .u8 n8, .int .u8 n9, .int .u8 n10, .int .u8 n11, .int .u8 n12, .int .u8 n13, .int .u8 n14, .int .u8 n15, .int .u8 n16, .int .u8 n17, .int .u8 n18, .int .u8 n19, .int .u8 n20, .int .u8 n21, .int .u8 n22, .int .u8 n23, .int .u8 n24, .int .u8 n25, .int .u8 n26, .int .u8 0, .int .u8 0, .int .u8 0, .int .u8 0, .int .u8 0], .int .i64 0]) (of_decide_eq_true (by kernel_rfl)) rfl (by intro K; kernel_rfl) rfl h
  | 28 => exact bareV fol natE_ok (m := 30000) (n := 100) (exp := .tuple #[.agg #[.int .u8 n0, .int .u8 n1, .int .u8 n2, .int .u8 n3, .int .u8 n4, .int .u8 n5, .int .u8 n6, .int .u8 n7, .int .u8 n8, .int .u8 n9, .int .u8 n10, .int .u8 n11, .int .u8 n12, .int .u8 n13, .int .u8 n14, .int .u8 n15, .int .u8 n16, .int .u8 n17, .int .u8 n18, .int .u8 n19, .int .u8 n20, .int .u8 n21, .int .u8 n22, .int .u8 n23, .int .u8 n24, .int .u8 n25, .int .u8 n26, .int .u8 n27, .int .u8 0, .int .u8 0, .int .u8 0, .int .u8 0], .int .i64 0]) (of_decide_eq_true (by kernel_rfl)) rfl (by intro K; kernel_rfl) rfl h
  | 29 => exact bareV fol natE_ok (m := 30000) (n := 100) (exp := .tuple #[.agg #[.int .u8 n0, .int .u8 n1, .int .u8 n2, .int .u8 n3, .int .u8 n4, .int .u8 n5, .int .u8 n6, .int .u8 n7, .int .u8 n8, .int .u8 n9, .int .u8 n10, .int .u8 n11, .int .u8 n12, .int .u8 n13, .int .u8 n14, .int .u8 n15, .int .u8 n16, .int .u8 n17, .int .u8 n18, .int .u8 n19, .int .u8 n20, .int .u8 n21, .int .u8 n22, .int .u8 n23, .int .u8 n24, .int .u8 n25, .int .u8 n26, .int .u8 n27, .int .u8 n28, .int .u8 0, .int .u8 0, .int .u8 0], .int .i64 0]) (of_decide_eq_true (by kernel_rfl)) rfl (by intro K; kernel_rfl) rfl h
  | 30 => exact bareV fol natE_ok (m := 30000) (n := 100) (exp := .tuple #[.agg #[.int .u8 n0, .int .u8 n1, .int .u8 n2, .int .u8 n3, .int .u8 n4, .int .u8 n5, .int .u8 n6, .int .u8 n7, .int .u8 n8, .int .u8 n9, .int .u8 n10, .int .u8 n11, .int .u8 n12, .int .u8 n13, .int .u8 n14, .int .u8 n15, .int .u8 n16, .int .u8 n17, .int .u8 n18, .int .u8 n19, .int .u8 n20, .int .u8 n21, .int .u8 n22, .int .u8 n23, .int .u8 n24, .int .u8 n25, .int .u8 n26, .int .u8 n27, .int .u8 n28, .int .u8 n29, .int .u8 0, .int .u8 0], .int .i64 0]) (of_decide_eq_true (by kernel_rfl)) rfl (by intro K; kernel_rfl) rfl h
  | 31 => exact bareV fol natE_ok (m := 30000) (n := 100) (exp := .tuple #[.agg #[.int .u8 n0, .int .u8 n1, .int .u8 n2, .int .u8 n3, .int .u8 n4, .int .u8 n5, .int .u8 n6, .int .u8 n7, .int .u8 n8, .int .u8 n9, .int .u8 n10, .int .u8 n11, .int .u8 n12, .int .u8 n13, .int .u8 n14, .int .u8 n15, .int .u8 n16, .int .u8 n17, .int .u8 n18, .int .u8 n19, .int .u8 n20, .int .u8 n21, .int .u8 n22, .int .u8 n23, .int .u8 n24, .int .u8 n25, .int .u8 n26, .int .u8 n27, .int .u8 n28, .int .u8 n29, .int .u8 n30, .int .u8 0], .int .i64 0]) (of_decide_eq_true (by kernel_rfl)) rfl (by intro K; kernel_rfl) rfl h
  | 32 => exact bareV fol natE_ok (m := 30000) (n := 100) (exp := .tuple #[.agg #[.int .u8 n0, .int .u8 n1, .int .u8 n2, .int .u8 n3, .int .u8 n4, .int .u8 n5, .int .u8 n6, .int .u8 n7, .int .u8 n8, .int .u8 n9, .int .u8 n10, .int .u8 n11, .int .u8 n12, .int .u8 n13, .int .u8 n14, .int .u8 n15, .int .u8 n16, .int .u8 n17, .int .u8 n18, .int .u8 n19, .int .u8 n20, .int .u8 n21, .int .u8 n22, .int .u8 n23, .int .u8 n24, .int .u8 n25, .int .u8 n26, .int .u8 n27, .int .u8 n28, .int .u8 n29, .int .u8 n30, .int .u8 n31], .int .i64 0]) (of_decide_eq_true (by kernel_rfl)) rfl (by intro K; kernel_rfl) rfl h
  | 0 => omega
  | n + 33 => omega

set_option maxRecDepth 20000 in
theorem c61 {w : Nat} (h1 : 1 ≤ w) (h2 : w ≤ 32) (n0 n1 n2 n3 n4 n5 n6 n7 n8 n9 n10 n11 n12 n13 n14 n15 n16 n17 n18 n19 n20 n21 n22 n23 n24 n25 n26 n27 n28 n29 n30 n31 : Int) (h : Hp) : C 61 [.int .i64 w, .agg (Array.mk [.int .u8 n0, .int .u8 n1, .int .u8 n2, .int .u8 n3, .int .u8 n4, .int .u8 n5, .int .u8 n6, .int .u8 n7, .int .u8 n8, .int .u8 n9, .int .u8 n10, .int .u8 n11, .int .u8 n12, .int .u8 n13, .int .u8 n14, .int .u8 n15, .int .u8 n16, .int .u8 n17, .int .u8 n18, .int .u8 n19, .int .u8 n20, .int .u8 n21, .int .u8 n22, .int .u8 n23, .int .u8 n24, .int .u8 n25, .int .u8 n26, .int .u8 n27, .int .u8 n28, .int .u8 n29, .int .u8 n30, .int .u8 n31])] h fun v h' => v = .bool (fitB w [n0, n1, n2, n3, n4, n5, n6, n7, n8, n9, n10, n11, n12, n13, n14, n15, n16, n17, n18, n19, n20, n21, n22, n23, n24, n25, n26, n27, n28, n29, n30, n31]) ∧ h' = h := by
  refine SCalls.trim (K := fun v h' => v = .bool (fitB w [n0, n1, n2, n3, n4, n5, n6, n7, n8, n9, n10, n11, n12, n13, n14, n15, n16, n17, n18, n19, n20, n21, n22, n23, n24, n25, n26, n27, n28, n29, n30, n31]) ∧ Kept h h') (of_decide_eq_true (by kernel_rfl)) ?_ fun v h' ⟨e, k⟩ => ⟨stay_of k, by rw [e]; rfl, e⟩
  refine SCalls_of_vw fol (pf := pfg) (shp := shp61) (f := 61) (fn := Tryz.f61) (by kernel_rfl) (c := Tryz.f61.body.getD .skip) (by kernel_rfl) (by kernel_rfl) fun wf => ?_
  rw [vc61]
  intro g1 e1
  obtain ⟨b1, k1, n1', wf1⟩ := new_blk wf e1
  have r1 : g1.cellsAt h.next 0 32 = some [.int .u8 n0, .int .u8 n1, .int .u8 n2, .int .u8 n3, .int .u8 n4, .int .u8 n5, .int .u8 n6, .int .u8 n7, .int .u8 n8, .int .u8 n9, .int .u8 n10, .int .u8 n11, .int .u8 n12, .int .u8 n13, .int .u8 n14, .int .u8 n15, .int .u8 n16, .int .u8 n17, .int .u8 n18, .int .u8 n19, .int .u8 n20, .int .u8 n21, .int .u8 n22, .int .u8 n23, .int .u8 n24, .int .u8 n25, .int .u8 n26, .int .u8 n27, .int .u8 n28, .int .u8 n29, .int .u8 n30, .int .u8 n31] := (b1.cells (Nat.le_of_ble_eq_true rfl)).trans rfl
  refine ⟨n0, n1, n2, n3, n4, n5, n6, n7, n8, n9, n10, n11, n12, n13, n14, n15, n16, n17, n18, n19, n20, n21, n22, n23, n24, n25, n26, n27, n28, n29, n30, n31, ⟨rfl, r1⟩, ?_⟩
  refine (c111 h1 h2 n0 n1 n2 n3 n4 n5 n6 n7 n8 n9 n10 n11 n12 n13 n14 n15 n16 n17 n18 n19 n20 n21 n22 n23 n24 n25 n26 n27 n28 n29 n30 n31 g1).mono fun v g2 ⟨e2, e3⟩ => ?_
  cases e3
  have hl : (cutL w [n0, n1, n2, n3, n4, n5, n6, n7, n8, n9, n10, n11, n12, n13, n14, n15, n16, n17, n18, n19, n20, n21, n22, n23, n24, n25, n26, n27, n28, n29, n30, n31]).length = 32 := by
    unfold cutL
    simp
    omega
  have hch : chain (cutL w [n0, n1, n2, n3, n4, n5, n6, n7, n8, n9, n10, n11, n12, n13, n14, n15, n16, n17, n18, n19, n20, n21, n22, n23, n24, n25, n26, n27, n28, n29, n30, n31]) [n0, n1, n2, n3, n4, n5, n6, n7, n8, n9, n10, n11, n12, n13, n14, n15, n16, n17, n18, n19, n20, n21, n22, n23, n24, n25, n26, n27, n28, n29, n30, n31] = fitB w [n0, n1, n2, n3, n4, n5, n6, n7, n8, n9, n10, n11, n12, n13, n14, n15, n16, n17, n18, n19, n20, n21, n22, n23, n24, n25, n26, n27, n28, n29, n30, n31] := chain_cut w [n0, n1, n2, n3, n4, n5, n6, n7, n8, n9, n10, n11, n12, n13, n14, n15, n16, n17, n18, n19, n20, n21, n22, n23, n24, n25, n26, n27, n28, n29, n30, n31] (by simpa using h2)
  generalize cutL w [n0, n1, n2, n3, n4, n5, n6, n7, n8, n9, n10, n11, n12, n13, n14, n15, n16, n17, n18, n19, n20, n21, n22, n23, n24, n25, n26, n27, n28, n29, n30, n31] = ds at e2 hl hch
  obtain ⟨d0, d1, d2, d3, d4, d5, d6, d7, d8, d9, d10, d11, d12, d13, d14, d15, d16, d17, d18, d19, d20, d21, d22, d23, d24, d25, d26, d27, d28, d29, d30, d31, rfl⟩ := exI32 hl
  refine ⟨d0, d1, d2, d3, d4, d5, d6, d7, d8, d9, d10, d11, d12, d13, d14, d15, d16, d17, d18, d19, d20, d21, d22, d23, d24, d25, d26, d27, d28, d29, d30, d31, 0, e2.trans rfl, ?_⟩
  intro g3 e3
  obtain ⟨b3, k3, n3', wf3⟩ := new_blk wf1 e3
  have k03 := k1.trans wf k3 fun _ _ hf => hf
  obtain ⟨g4, y1, y2, y3, y4, y5, y6⟩ := set_blk wf3 b3 k3 wf1 (Nat.le_refl _) (vs := [.int .u8 d0, .int .u8 d1, .int .u8 d2, .int .u8 d3, .int .u8 d4, .int .u8 d5, .int .u8 d6, .int .u8 d7, .int .u8 d8, .int .u8 d9, .int .u8 d10, .int .u8 d11, .int .u8 d12, .int .u8 d13, .int .u8 d14, .int .u8 d15, .int .u8 d16, .int .u8 d17, .int .u8 d18, .int .u8 d19, .int .u8 d20, .int .u8 d21, .int .u8 d22, .int .u8 d23, .int .u8 d24, .int .u8 d25, .int .u8 d26, .int .u8 d27, .int .u8 d28, .int .u8 d29, .int .u8 d30, .int .u8 d31]) rfl rfl
  have k04 := k1.trans wf y3 fun _ _ hf => hf
  have r2 : g4.cellsAt g1.next 0 32 = some [.int .u8 d0, .int .u8 d1, .int .u8 d2, .int .u8 d3, .int .u8 d4, .int .u8 d5, .int .u8 d6, .int .u8 d7, .int .u8 d8, .int .u8 d9, .int .u8 d10, .int .u8 d11, .int .u8 d12, .int .u8 d13, .int .u8 d14, .int .u8 d15, .int .u8 d16, .int .u8 d17, .int .u8 d18, .int .u8 d19, .int .u8 d20, .int .u8 d21, .int .u8 d22, .int .u8 d23, .int .u8 d24, .int .u8 d25, .int .u8 d26, .int .u8 d27, .int .u8 d28, .int .u8 d29, .int .u8 d30, .int .u8 d31] := (y2.cells (Nat.le_of_ble_eq_true rfl)).trans rfl
  have r3 : g4.cellsAt h.next 0 32 = some [.int .u8 n0, .int .u8 n1, .int .u8 n2, .int .u8 n3, .int .u8 n4, .int .u8 n5, .int .u8 n6, .int .u8 n7, .int .u8 n8, .int .u8 n9, .int .u8 n10, .int .u8 n11, .int .u8 n12, .int .u8 n13, .int .u8 n14, .int .u8 n15, .int .u8 n16, .int .u8 n17, .int .u8 n18, .int .u8 n19, .int .u8 n20, .int .u8 n21, .int .u8 n22, .int .u8 n23, .int .u8 n24, .int .u8 n25, .int .u8 n26, .int .u8 n27, .int .u8 n28, .int .u8 n29, .int .u8 n30, .int .u8 n31] := ((Kept.blk y3 b1).cells (Nat.le_of_ble_eq_true rfl)).trans rfl
  refine ⟨rfl, g4, y1, d0, d1, d2, d3, d4, d5, d6, d7, d8, d9, d10, d11, d12, d13, d14, d15, d16, d17, d18, d19, d20, d21, d22, d23, d24, d25, d26, d27, d28, d29, d30, d31, fun _ => ⟨rfl, r2⟩, n0, n1, n2, n3, n4, n5, n6, n7, n8, n9, n10, n11, n12, n13, n14, n15, n16, n17, n18, n19, n20, n21, n22, n23, n24, n25, n26, n27, n28, n29, n30, n31, fun _ => ⟨rfl, r3⟩, ?_, k04⟩
  rw [← hch]
  rfl
end Go.Proofs.YtpgedmighmolnaaGreat.sb

/- Contracts for GrowthNews (3): an Edit that nothing was changed of. -/
set_option linter.unusedVariables false
namespace Go.Proofs.YtpgedmighmolnaaGreat.sb
open Go Go.Cn Go.Cn.Sha Go.Proofs Go.Proofs.YtpgedmighmolnaaGreat.vc

theorem put_ne_some {ρ : Rho} {x b1 c : Nat} (h : ∀ b, ρ b ≠ some c) (hne : b1 ≠ c) : ∀ b, ρ.put x b1 b ≠ some c := by
  intro b hb
  unfold Rho.put at hb
  split at hb
  · simp at hb; exact hne hb
  · exact h b hb

/-- The cells of an Edit of that frame and root, over the source at nb, with its two maps. -/
def ecells (p w q : Int) (ns : List Int) (c v : Int) (nb m1 m2 : Nat) : List Value :=
  [.int .i64 p, .int .i64 w] ++ ([.iface 68 (.pointer (some ⟨nb, 0, none⟩))] ++ (((.int .u32 q :: ns.map b8) ++ [.int .u64 c, .int .u64 v]) ++ (((.int .u32 q :: ns.map b8) ++ [.int .u64 c, .int .u64 v]) ++ [.map (some m1), .map (some m2), .int .u32 2147483648])))

structure EditAt (h : Hp) (e nb m1 m2 : Nat) (p w q : Int) (ns : List Int) (c v : Int) : Prop where
  oe : Own1 h e (ecells p w q ns c v nb m1 m2)
  ob : Own1 h nb []
  om : Map0 h m1
  on : Map0 h m2
  ne : nb ≠ m1 ∧ nb ≠ m2 ∧ nb ≠ e ∧ m1 ≠ m2 ∧ m1 ≠ e ∧ m2 ≠ e

section
variable {h : Hp} {e nb m1 m2 : Nat} {p w q c v : Int} {ns : List Int}
theorem EditAt.keep {h' : Hp} (k : Kept h h') (x : EditAt h e nb m1 m2 p w q ns c v) : EditAt h' e nb m1 m2 p w q ns c v := ⟨x.oe.keep k, x.ob.keep k, x.om.keep k, x.on.keep k, x.ne⟩

/-- The small heap of an Edit. -/
def eheap (p w q : Int) (ns : List Int) (c v : Int) : Hp := (((Hp.empty.alloc [] 70).newOb (.map [] 0)).newOb (.map [] 0)).alloc (ecells p w q ns c v 0 1 2) 151

theorem plain_b8 (l : List Int) : (l.map b8).all (plainV 100) = true := by simp [b8, plainV]

theorem EditAt.emb (x : EditAt h e nb m1 m2 p w q ns c v) : Emb (Rho.put (Rho.put (Rho.put (Rho.put (fun _ => none) 0 nb) 1 m1) 2 m2) 3 e) (eheap p w q ns c v) h := by
  obtain ⟨n1, n2, n3, n4, n5, n6⟩ := x.ne
  have h0 : ∀ (c b : Nat), (fun _ => none : Nat → Option Nat) b ≠ some c := by simp
  have e1 := (Emb.empty h).alloc (cs := []) 70 x.ob (h0 nb) RL.nil
  have e2 := e1.newMap x.om (put_ne_some (h0 m1) n1)
  have e3 := e2.newMap x.on (put_ne_some (put_ne_some (h0 m2) n2) n4)
  refine e3.alloc (cs := ecells p w q ns c v 0 1 2) 151 x.oe (put_ne_some (put_ne_some (put_ne_some (h0 e) n3) n5) n6) ?_
  unfold ecells
  refine (RL.plain rfl).append (RL.append (RL.cons (.iface _ _ _ (.ptr _ _ _ rfl)) RL.nil) (RL.append (RL.plain ?_) (RL.append (RL.plain ?_) (RL.cons (.map _ _ rfl) (RL.cons (.map _ _ rfl) (RL.plain rfl))))))
  · simp [b8, plainV]
  · simp [b8, plainV]

theorem EditAt.arg (x : EditAt h e nb m1 m2 p w q ns c v) : RL (Rho.put (Rho.put (Rho.put (Rho.put (fun _ => none) 0 nb) 1 m1) 2 m2) 3 e) [.pointer (some ⟨3, 0, none⟩)] [.pointer (some ⟨e, 0, none⟩)] :=
  RL.cons (.ptr _ _ _ rfl) RL.nil
end

section
variable {h : Hp} {e nb m1 m2 : Nat} {p w q c v : Int} {n0 n1 n2 n3 n4 n5 n6 n7 n8 n9 n10 n11 n12 n13 n14 n15 n16 n17 n18 n19 n20 n21 n22 n23 n24 n25 n26 n27 n28 n29 n30 n31 : Int} (x : EditAt h e nb m1 m2 p w q [n0, n1, n2, n3, n4, n5, n6, n7, n8, n9, n10, n11, n12, n13, n14, n15, n16, n17, n18, n19, n20, n21, n22, n23, n24, n25, n26, n27, n28, n29, n30, n31] c v)
include x
set_option maxRecDepth 20000
theorem c27 : C 27 [.pointer (some ⟨e, 0, none⟩)] h fun y h' => y = .agg (Array.mk [.int .u32 q, .int .u8 n0, .int .u8 n1, .int .u8 n2, .int .u8 n3, .int .u8 n4, .int .u8 n5, .int .u8 n6, .int .u8 n7, .int .u8 n8, .int .u8 n9, .int .u8 n10, .int .u8 n11, .int .u8 n12, .int .u8 n13, .int .u8 n14, .int .u8 n15, .int .u8 n16, .int .u8 n17, .int .u8 n18, .int .u8 n19, .int .u8 n20, .int .u8 n21, .int .u8 n22, .int .u8 n23, .int .u8 n24, .int .u8 n25, .int .u8 n26, .int .u8 n27, .int .u8 n28, .int .u8 n29, .int .u8 n30, .int .u8 n31, .int .u64 c, .int .u64 v]) ∧ h' = h :=
  relocK fol natE_ok (m := 30000) (n := 100) (of_decide_eq_true (by kernel_rfl)) x.emb x.arg (fun b => b) rfl (by intro K; kernel_rfl) rfl
theorem c28 : C 28 [.pointer (some ⟨e, 0, none⟩)] h fun y h' => y = .agg (Array.mk [.int .u32 q, .int .u8 n0, .int .u8 n1, .int .u8 n2, .int .u8 n3, .int .u8 n4, .int .u8 n5, .int .u8 n6, .int .u8 n7, .int .u8 n8, .int .u8 n9, .int .u8 n10, .int .u8 n11, .int .u8 n12, .int .u8 n13, .int .u8 n14, .int .u8 n15, .int .u8 n16, .int .u8 n17, .int .u8 n18, .int .u8 n19, .int .u8 n20, .int .u8 n21, .int .u8 n22, .int .u8 n23, .int .u8 n24, .int .u8 n25, .int .u8 n26, .int .u8 n27, .int .u8 n28, .int .u8 n29, .int .u8 n30, .int .u8 n31, .int .u64 c, .int .u64 v]) ∧ h' = h :=
  relocK fol natE_ok (m := 30000) (n := 100) (of_decide_eq_true (by kernel_rfl)) x.emb x.arg (fun b => b) rfl (by intro K; kernel_rfl) rfl
theorem c29 : C 29 [.pointer (some ⟨e, 0, none⟩)] h fun y h' => y = .int .i64 0 ∧ h' = h :=
  relocK fol natE_ok (m := 30000) (n := 100) (of_decide_eq_true (by kernel_rfl)) x.emb x.arg (fun b => b) rfl (by intro K; kernel_rfl) rfl
theorem c30 : C 30 [.pointer (some ⟨e, 0, none⟩)] h fun y h' => y = .slice none 0 0 ∧ h' = h :=
  relocK fol natE_ok (m := 30000) (n := 100) (of_decide_eq_true (by kernel_rfl)) x.emb x.arg (fun b => b && true) rfl (by intro K; kernel_rfl) rfl
end
end Go.Proofs.YtpgedmighmolnaaGreat.sb

/- Contracts for GrowthNews (4): New, of the program and of the reference. -/
set_option linter.unusedVariables false
namespace Go.Proofs.YtpgedmighmolnaaGreat.sb
open Go Go.Cn Go.Cn.Sha Go.Proofs Go.Proofs.YtpgedmighmolnaaGreat.vc

theorem c60 {p : Int} {w : Nat} (hr : RightF p w) (h : Hp) : C 60 [.agg (Array.mk [.int .i64 p, .int .i64 w])] h fun v h' => v = .tuple #[.agg ((dgE w).map u8).toArray, .int .i64 0] ∧ h' = h := by
  obtain ⟨hp, h1, h2⟩ := hr
  have hf : 60 < Tryz.prog.funcs.size := of_decide_eq_true (by kernel_rfl)
  rcases hp with rfl | rfl | rfl | rfl
  · exact evE_use hf ev60a (by omega) (by omega) h
  · exact evE_use hf ev60b (by omega) (by omega) h
  · exact evE_use hf ev60c (by omega) (by omega) h
  · exact evE_use hf ev60d (by omega) (by omega) h
theorem c62 {p : Int} {w : Nat} (hr : RightF p w) (h : Hp) : C 62 [.agg (Array.mk [.int .i64 p, .int .i64 w])] h fun v h' => v = .tuple #[.agg ((dgE w).map u8).toArray, .int .i64 0] ∧ h' = h := by
  obtain ⟨hp, h1, h2⟩ := hr
  have hf : 62 < Tryz.prog.funcs.size := of_decide_eq_true (by kernel_rfl)
  rcases hp with rfl | rfl | rfl | rfl
  · exact evE_use hf ev62a (by omega) (by omega) h
  · exact evE_use hf ev62b (by omega) (by omega) h
  · exact evE_use hf ev62c (by omega) (by omega) h
  · exact evE_use hf ev62d (by omega) (by omega) h

def toI (n : Nat) : Int := n
/-- The digest of no node, as whole numbers. -/
def dgI (w : Nat) : List Int := (dgE w).map toI
def fullB (w : Nat) (q c v : Int) (l : List Int) : Bool := sel (sel (sel (sel (sel (geI q 2) (ltI q 2147483648) false) (gtI c 0) false) (geI v 1) false) (leI v 1099511627776) false) (fitB w l) false
def eqRB (w : Nat) (q c v : Int) (l : List Int) : Bool := andB (eqI q 0) (andB (chain l (dgI w)) (andB (eqI c 0) (andB (eqI v 0) true)))
def mayB (w : Nat) (q c v : Int) (l : List Int) : Bool := sel (eqRB w q c v l) true (fullB w q c v l)

theorem u8_int (l : List Nat) : l.map u8 = (l.map toI).map b8 := by
  rw [List.map_map]
  rfl

set_option maxRecDepth 20000 in
theorem c23 {p : Int} {w : Nat} (hr : RightF p w) (q c v : Int) (n0 n1 n2 n3 n4 n5 n6 n7 n8 n9 n10 n11 n12 n13 n14 n15 n16 n17 n18 n19 n20 n21 n22 n23 n24 n25 n26 n27 n28 n29 n30 n31 : Int) {h : Hp} {nb : Nat} (hnb : Own1 h nb []) (hlt : nb < h.next) : C 23 [.agg (Array.mk [.int .i64 p, .int .i64 w]), .iface 68 (.pointer (some ⟨nb, 0, none⟩)), .agg (Array.mk [.int .u32 q, .int .u8 n0, .int .u8 n1, .int .u8 n2, .int .u8 n3, .int .u8 n4, .int .u8 n5, .int .u8 n6, .int .u8 n7, .int .u8 n8, .int .u8 n9, .int .u8 n10, .int .u8 n11, .int .u8 n12, .int .u8 n13, .int .u8 n14, .int .u8 n15, .int .u8 n16, .int .u8 n17, .int .u8 n18, .int .u8 n19, .int .u8 n20, .int .u8 n21, .int .u8 n22, .int .u8 n23, .int .u8 n24, .int .u8 n25, .int .u8 n26, .int .u8 n27, .int .u8 n28, .int .u8 n29, .int .u8 n30, .int .u8 n31, .int .u64 c, .int .u64 v])] h fun x h' => Kept h h' ∧
    ((mayB w q c v [n0, n1, n2, n3, n4, n5, n6, n7, n8, n9, n10, n11, n12, n13, n14, n15, n16, n17, n18, n19, n20, n21, n22, n23, n24, n25, n26, n27, n28, n29, n30, n31] = false ∧ x = .tuple #[.pointer none, .int .i64 2]) ∨ (mayB w q c v [n0, n1, n2, n3, n4, n5, n6, n7, n8, n9, n10, n11, n12, n13, n14, n15, n16, n17, n18, n19, n20, n21, n22, n23, n24, n25, n26, n27, n28, n29, n30, n31] = true ∧ ∃ e m1 m2, x = .tuple #[.pointer (some ⟨e, 0, none⟩), .int .i64 0] ∧ EditAt h' e nb m1 m2 p w q [n0, n1, n2, n3, n4, n5, n6, n7, n8, n9, n10, n11, n12, n13, n14, n15, n16, n17, n18, n19, n20, n21, n22, n23, n24, n25, n26, n27, n28, n29, n30, n31] c v)) := by
  refine SCalls_of_vw fol (pf := pfg) (shp := shp23) (f := 23) (fn := Tryz.f23) (by kernel_rfl) (c := Tryz.f23.body.getD .skip) (by kernel_rfl) (by kernel_rfl) fun wf => ?_
  rw [vc23]
  have h1 : 1 ≤ w := by have := hr.2.1; omega
  have h2 : w ≤ 32 := by have := hr.2.2; omega
  intro g1 e1 g2 e2
  obtain ⟨b1, k1, n1', wf1⟩ := new_blk wf e1
  obtain ⟨b2, k2, n2', wf2⟩ := new_blk wf1 e2
  have k02 := k1.trans wf k2 fun _ _ hf => hf
  have b1' := Kept.blk k2 b1
  have rf : g2.cellsAt h.next 0 2 = some [.int .i64 p, .int .i64 w] := (b1'.cells (Nat.le_of_ble_eq_true rfl)).trans rfl
  refine ⟨p, w, ⟨rfl, rf⟩, (c59 p w g2).wf fun x g3 wf3 n3' ⟨e3, k3⟩ => ⟨_, e3, ?_⟩⟩
  rw [if_neg (by rw [decide_eq_true hr]; simp [notB])]
  have b13 := Kept.blk k3 b1'
  have b23 := Kept.blk k3 b2
  have k03 := k02.trans wf k3 fun _ _ hf => hf
  have rf3 : g3.cellsAt h.next 0 2 = some [.int .i64 p, .int .i64 w] := (b13.cells (Nat.le_of_ble_eq_true rfl)).trans rfl
  refine ⟨p, w, ⟨rfl, rf3⟩, (c60 hr g3).mono fun x g4 ⟨e4, e5⟩ => ?_⟩
  cases e5
  rw [u8_int] at e4
  have hdl : ((dgE w).map toI).length = 32 := by rw [List.length_map]; exact dgE_len h2
  have hdg : dgI w = (dgE w).map toI := rfl
  generalize ((dgE w).map toI) = ds at e4 hdl hdg
  obtain ⟨d0, d1, d2, d3, d4, d5, d6, d7, d8, d9, d10, d11, d12, d13, d14, d15, d16, d17, d18, d19, d20, d21, d22, d23, d24, d25, d26, d27, d28, d29, d30, d31, rfl⟩ := exI32 hdl
  refine ⟨d0, d1, d2, d3, d4, d5, d6, d7, d8, d9, d10, d11, d12, d13, d14, d15, d16, d17, d18, d19, d20, d21, d22, d23, d24, d25, d26, d27, d28, d29, d30, d31, 0, e4.trans rfl, ?_⟩
  intro g5 e5
  obtain ⟨b5, k5, n5', wf5⟩ := new_blk wf3 e5
  obtain ⟨g6, y1, y2, y3, y4, y5, y6⟩ := set_blk wf5 b5 k5 wf3 (Nat.le_refl _) (vs := [.int .u8 d0, .int .u8 d1, .int .u8 d2, .int .u8 d3, .int .u8 d4, .int .u8 d5, .int .u8 d6, .int .u8 d7, .int .u8 d8, .int .u8 d9, .int .u8 d10, .int .u8 d11, .int .u8 d12, .int .u8 d13, .int .u8 d14, .int .u8 d15, .int .u8 d16, .int .u8 d17, .int .u8 d18, .int .u8 d19, .int .u8 d20, .int .u8 d21, .int .u8 d22, .int .u8 d23, .int .u8 d24, .int .u8 d25, .int .u8 d26, .int .u8 d27, .int .u8 d28, .int .u8 d29, .int .u8 d30, .int .u8 d31]) rfl rfl
  have b16 := Kept.blk y3 b13
  have b26 := Kept.blk y3 b23
  have k06 := k03.trans wf y3 fun _ _ hf => hf
  have rq : g6.cellsAt g1.next 0 1 = some [.int .u32 q] := b26.one rfl
  have rc : g6.cellsAt g1.next 33 1 = some [.int .u64 c] := b26.one rfl
  have rv : g6.cellsAt g1.next 34 1 = some [.int .u64 v] := b26.one rfl
  have rw1 : g6.cellsAt h.next 1 1 = some [.int .i64 w] := b16.one rfl
  have rn : g6.cellsAt g1.next 1 32 = some [.int .u8 n0, .int .u8 n1, .int .u8 n2, .int .u8 n3, .int .u8 n4, .int .u8 n5, .int .u8 n6, .int .u8 n7, .int .u8 n8, .int .u8 n9, .int .u8 n10, .int .u8 n11, .int .u8 n12, .int .u8 n13, .int .u8 n14, .int .u8 n15, .int .u8 n16, .int .u8 n17, .int .u8 n18, .int .u8 n19, .int .u8 n20, .int .u8 n21, .int .u8 n22, .int .u8 n23, .int .u8 n24, .int .u8 n25, .int .u8 n26, .int .u8 n27, .int .u8 n28, .int .u8 n29, .int .u8 n30, .int .u8 n31] := (b26.cells (Nat.le_of_ble_eq_true rfl)).trans rfl
  have rr : g6.cellsAt g1.next 0 35 = some [.int .u32 q, .int .u8 n0, .int .u8 n1, .int .u8 n2, .int .u8 n3, .int .u8 n4, .int .u8 n5, .int .u8 n6, .int .u8 n7, .int .u8 n8, .int .u8 n9, .int .u8 n10, .int .u8 n11, .int .u8 n12, .int .u8 n13, .int .u8 n14, .int .u8 n15, .int .u8 n16, .int .u8 n17, .int .u8 n18, .int .u8 n19, .int .u8 n20, .int .u8 n21, .int .u8 n22, .int .u8 n23, .int .u8 n24, .int .u8 n25, .int .u8 n26, .int .u8 n27, .int .u8 n28, .int .u8 n29, .int .u8 n30, .int .u8 n31, .int .u64 c, .int .u64 v] := (b26.cells (Nat.le_of_ble_eq_true rfl)).trans rfl
  have re : g6.cellsAt g3.next 0 32 = some [.int .u8 d0, .int .u8 d1, .int .u8 d2, .int .u8 d3, .int .u8 d4, .int .u8 d5, .int .u8 d6, .int .u8 d7, .int .u8 d8, .int .u8 d9, .int .u8 d10, .int .u8 d11, .int .u8 d12, .int .u8 d13, .int .u8 d14, .int .u8 d15, .int .u8 d16, .int .u8 d17, .int .u8 d18, .int .u8 d19, .int .u8 d20, .int .u8 d21, .int .u8 d22, .int .u8 d23, .int .u8 d24, .int .u8 d25, .int .u8 d26, .int .u8 d27, .int .u8 d28, .int .u8 d29, .int .u8 d30, .int .u8 d31] := (y2.cells (Nat.le_of_ble_eq_true rfl)).trans rfl
  have rf6 : g6.cellsAt h.next 0 2 = some [.int .i64 p, .int .i64 w] := (b16.cells (Nat.le_of_ble_eq_true rfl)).trans rfl
  refine ⟨rfl, g6, y1, rfl, q, ⟨rfl, rq⟩, fun _ => rfl, q, fun _ => ⟨rfl, rq⟩, fun _ => rfl, c, fun _ => ⟨rfl, rc⟩, fun _ => rfl, v, fun _ => ⟨rfl, rv⟩, fun _ => rfl, v, fun _ => ⟨rfl, rv⟩, fun _ => rfl, w, fun _ => ⟨rfl, rw1⟩, fun _ => rfl, n0, n1, n2, n3, n4, n5, n6, n7, n8, n9, n10, n11, n12, n13, n14, n15, n16, n17, n18, n19, n20, n21, n22, n23, n24, n25, n26, n27, n28, n29, n30, n31, fun _ => ⟨rfl, rn⟩,
    fitB w [n0, n1, n2, n3, n4, n5, n6, n7, n8, n9, n10, n11, n12, n13, n14, n15, n16, n17, n18, n19, n20, n21, n22, n23, n24, n25, n26, n27, n28, n29, n30, n31], fun _ => c61 h1 h2 n0 n1 n2 n3 n4 n5 n6 n7 n8 n9 n10 n11 n12 n13 n14 n15 n16 n17 n18 n19 n20 n21 n22 n23 n24 n25 n26 n27 n28 n29 n30 n31 g6, q, n0, n1, n2, n3, n4, n5, n6, n7, n8, n9, n10, n11, n12, n13, n14, n15, n16, n17, n18, n19, n20, n21, n22, n23, n24, n25, n26, n27, n28, n29, n30, n31, c, v, fun _ => ⟨rfl, rr⟩, d0, d1, d2, d3, d4, d5, d6, d7, d8, d9, d10, d11, d12, d13, d14, d15, d16, d17, d18, d19, d20, d21, d22, d23, d24, d25, d26, d27, d28, d29, d30, d31, fun _ => ⟨rfl, re⟩, ?_⟩
  have hm : mayB w q c v [n0, n1, n2, n3, n4, n5, n6, n7, n8, n9, n10, n11, n12, n13, n14, n15, n16, n17, n18, n19, n20, n21, n22, n23, n24, n25, n26, n27, n28, n29, n30, n31] = sel (eqRB w q c v [n0, n1, n2, n3, n4, n5, n6, n7, n8, n9, n10, n11, n12, n13, n14, n15, n16, n17, n18, n19, n20, n21, n22, n23, n24, n25, n26, n27, n28, n29, n30, n31]) true (fullB w q c v [n0, n1, n2, n3, n4, n5, n6, n7, n8, n9, n10, n11, n12, n13, n14, n15, n16, n17, n18, n19, n20, n21, n22, n23, n24, n25, n26, n27, n28, n29, n30, n31]) := rfl
  have hq : eqRB w q c v [n0, n1, n2, n3, n4, n5, n6, n7, n8, n9, n10, n11, n12, n13, n14, n15, n16, n17, n18, n19, n20, n21, n22, n23, n24, n25, n26, n27, n28, n29, n30, n31] = andB (eqI q 0) (andB (chain [n0, n1, n2, n3, n4, n5, n6, n7, n8, n9, n10, n11, n12, n13, n14, n15, n16, n17, n18, n19, n20, n21, n22, n23, n24, n25, n26, n27, n28, n29, n30, n31] [d0, d1, d2, d3, d4, d5, d6, d7, d8, d9, d10, d11, d12, d13, d14, d15, d16, d17, d18, d19, d20, d21, d22, d23, d24, d25, d26, d27, d28, d29, d30, d31]) (andB (eqI c 0) (andB (eqI v 0) true))) := by unfold eqRB; rw [hdg]
  by_cases hc : sel (notB (fullB w q c v [n0, n1, n2, n3, n4, n5, n6, n7, n8, n9, n10, n11, n12, n13, n14, n15, n16, n17, n18, n19, n20, n21, n22, n23, n24, n25, n26, n27, n28, n29, n30, n31])) (notB (eqRB w q c v [n0, n1, n2, n3, n4, n5, n6, n7, n8, n9, n10, n11, n12, n13, n14, n15, n16, n17, n18, n19, n20, n21, n22, n23, n24, n25, n26, n27, n28, n29, n30, n31])) false = true
  · have hc' := hc
    rw [hq] at hc'
    refine Eq.mpr (if_pos hc') ?_
    refine ⟨k06, .inl ⟨?_, rfl⟩⟩
    rw [hm]
    rw [and_iff, notB_iff, notB_iff] at hc
    rw [hc.1, hc.2]
    rfl
  · have hc' := hc
    rw [hq] at hc'
    refine Eq.mpr (if_neg hc') ?_
    refine ⟨p, w, ⟨rfl, rf6⟩, q, n0, n1, n2, n3, n4, n5, n6, n7, n8, n9, n10, n11, n12, n13, n14, n15, n16, n17, n18, n19, n20, n21, n22, n23, n24, n25, n26, n27, n28, n29, n30, n31, c, v, ⟨rfl, rr⟩, q, n0, n1, n2, n3, n4, n5, n6, n7, n8, n9, n10, n11, n12, n13, n14, n15, n16, n17, n18, n19, n20, n21, n22, n23, n24, n25, n26, n27, n28, n29, n30, n31, c, v, ⟨rfl, rr⟩, ?_⟩
    intro g7 e7 g8 e8 g9 e9
    obtain ⟨m1, k7, n7', wf7⟩ := new_map y6 e7
    obtain ⟨m2, k8, n8', wf8⟩ := new_map wf7 e8
    obtain ⟨b9, k9, n9', wf9⟩ := new_blk wf8 e9
    have o9 := new_own wf8 e9
    have k89 := k8.trans wf7 k9 fun _ _ hf => hf
    have k09 := k06.trans wf (k7.trans y6 k89 fun _ _ hf => hf) fun _ _ hf => hf
    have hn06 := k06.next
    refine ⟨k09, .inr ⟨?_, g8.next, g6.next, g7.next, rfl, ⟨o9, hnb.keep k09, m1.keep k89, m2.keep k9, by omega⟩⟩⟩
    rw [hm]
    cases hx : eqRB w q c v [n0, n1, n2, n3, n4, n5, n6, n7, n8, n9, n10, n11, n12, n13, n14, n15, n16, n17, n18, n19, n20, n21, n22, n23, n24, n25, n26, n27, n28, n29, n30, n31] <;> cases hy : fullB w q c v [n0, n1, n2, n3, n4, n5, n6, n7, n8, n9, n10, n11, n12, n13, n14, n15, n16, n17, n18, n19, n20, n21, n22, n23, n24, n25, n26, n27, n28, n29, n30, n31] <;> rw [hx, hy] at hc <;> first | rfl | exact absurd rfl hc

set_option maxRecDepth 20000 in
theorem c23f {p w : Int} (hr : ¬ RightF p w) (q c v : Int) (n0 n1 n2 n3 n4 n5 n6 n7 n8 n9 n10 n11 n12 n13 n14 n15 n16 n17 n18 n19 n20 n21 n22 n23 n24 n25 n26 n27 n28 n29 n30 n31 : Int) (i : Value) (h : Hp) : C 23 [.agg (Array.mk [.int .i64 p, .int .i64 w]), .iface 68 i, .agg (Array.mk [.int .u32 q, .int .u8 n0, .int .u8 n1, .int .u8 n2, .int .u8 n3, .int .u8 n4, .int .u8 n5, .int .u8 n6, .int .u8 n7, .int .u8 n8, .int .u8 n9, .int .u8 n10, .int .u8 n11, .int .u8 n12, .int .u8 n13, .int .u8 n14, .int .u8 n15, .int .u8 n16, .int .u8 n17, .int .u8 n18, .int .u8 n19, .int .u8 n20, .int .u8 n21, .int .u8 n22, .int .u8 n23, .int .u8 n24, .int .u8 n25, .int .u8 n26, .int .u8 n27, .int .u8 n28, .int .u8 n29, .int .u8 n30, .int .u8 n31, .int .u64 c, .int .u64 v])] h fun x h' => x = .tuple #[.pointer none, .int .i64 2] ∧ Kept h h' := by
  refine SCalls_of_vw fol (pf := pfg) (shp := shp23) (f := 23) (fn := Tryz.f23) (by kernel_rfl) (c := Tryz.f23.body.getD .skip) (by kernel_rfl) (by kernel_rfl) fun wf => ?_
  rw [vc23]
  intro g1 e1 g2 e2
  obtain ⟨b1, k1, n1', wf1⟩ := new_blk wf e1
  obtain ⟨b2, k2, n2', wf2⟩ := new_blk wf1 e2
  have k02 := k1.trans wf k2 fun _ _ hf => hf
  have b1' := Kept.blk k2 b1
  have rf : g2.cellsAt h.next 0 2 = some [.int .i64 p, .int .i64 w] := (b1'.cells (Nat.le_of_ble_eq_true rfl)).trans rfl
  refine ⟨p, w, ⟨rfl, rf⟩, (c59 p w g2).wf fun x g3 wf3 n3' ⟨e3, k3⟩ => ⟨_, e3, ?_⟩⟩
  rw [if_pos (by rw [decide_eq_false hr]; rfl)]
  exact ⟨rfl, k02.trans wf k3 fun _ _ hf => hf⟩

set_option maxRecDepth 20000 in
theorem c23n (p w : Int) (q c v : Int) (n0 n1 n2 n3 n4 n5 n6 n7 n8 n9 n10 n11 n12 n13 n14 n15 n16 n17 n18 n19 n20 n21 n22 n23 n24 n25 n26 n27 n28 n29 n30 n31 : Int) (h : Hp) : C 23 [.agg (Array.mk [.int .i64 p, .int .i64 w]), .nilIface, .agg (Array.mk [.int .u32 q, .int .u8 n0, .int .u8 n1, .int .u8 n2, .int .u8 n3, .int .u8 n4, .int .u8 n5, .int .u8 n6, .int .u8 n7, .int .u8 n8, .int .u8 n9, .int .u8 n10, .int .u8 n11, .int .u8 n12, .int .u8 n13, .int .u8 n14, .int .u8 n15, .int .u8 n16, .int .u8 n17, .int .u8 n18, .int .u8 n19, .int .u8 n20, .int .u8 n21, .int .u8 n22, .int .u8 n23, .int .u8 n24, .int .u8 n25, .int .u8 n26, .int .u8 n27, .int .u8 n28, .int .u8 n29, .int .u8 n30, .int .u8 n31, .int .u64 c, .int .u64 v])] h fun x h' => x = .tuple #[.pointer none, .int .i64 (if RightF p w then 1 else 2)] ∧ Kept h h' := by
  refine SCalls_of_vw fol (pf := pfg) (shp := shp23n) (f := 23) (fn := Tryz.f23) (by kernel_rfl) (c := Tryz.f23.body.getD .skip) (by kernel_rfl) (by kernel_rfl) fun wf => ?_
  rw [vc23n]
  intro g1 e1 g2 e2
  obtain ⟨b1, k1, n1', wf1⟩ := new_blk wf e1
  obtain ⟨b2, k2, n2', wf2⟩ := new_blk wf1 e2
  have k02 := k1.trans wf k2 fun _ _ hf => hf
  have b1' := Kept.blk k2 b1
  have rf : g2.cellsAt h.next 0 2 = some [.int .i64 p, .int .i64 w] := (b1'.cells (Nat.le_of_ble_eq_true rfl)).trans rfl
  refine ⟨p, w, ⟨rfl, rf⟩, (c59 p w g2).wf fun x g3 wf3 n3' ⟨e3, k3⟩ => ⟨_, e3, ?_⟩⟩
  have k03 := k02.trans wf k3 fun _ _ hf => hf
  by_cases hr : RightF p w
  · rw [if_neg (by rw [decide_eq_true hr]; simp [notB])]
    exact ⟨by rw [if_pos hr], k03⟩
  · rw [if_pos (by rw [decide_eq_false hr]; rfl)]
    exact ⟨by rw [if_neg hr], k03⟩

theorem c25 (p w : Int) (h : Hp) : C 25 [.agg (Array.mk [.int .i64 p, .int .i64 w]), .slice none 0 0, .int .u64 0] h fun v h' => v = .agg (Array.mk [.int .i64 p, .int .i64 w, .int .u64 0, .slice none 0 0, .slice none 0 0]) ∧ Kept h h' := by
  refine SCalls_of_vw fol (pf := pfg) (shp := shp25) (f := 25) (fn := Tryz.f25) (by kernel_rfl) (c := Tryz.f25.body.getD .skip) (by kernel_rfl) (by kernel_rfl) fun wf => ?_
  rw [vc25]
  intro g1 e1 g2 e2
  obtain ⟨b1, k1, n1', wf1⟩ := new_blk wf e1
  obtain ⟨b2, k2, n2', wf2⟩ := new_blk wf1 e2
  have b1' := Kept.blk k2 b1
  have k02 := k1.trans wf k2 fun _ _ hf => hf
  obtain ⟨g3, y1, y2, y3, y4, y5, y6⟩ := set_blk wf2 b2 k2 wf1 (Nat.le_refl _) (vs := [.int .i64 p, .int .i64 w, .int .u64 0, .slice none 0 0, .slice none 0 0]) rfl rfl
  exact ⟨p, w, ⟨rfl, (b1'.cells (Nat.le_of_ble_eq_true rfl)).trans rfl⟩, rfl, g3, y1, _, _, _, _, _, _, _, _, _, ⟨rfl, (y2.cells (Nat.le_of_ble_eq_true rfl)).trans rfl⟩, rfl, k1.trans wf y3 fun _ _ hf => hf⟩

/-- The root of no node. -/
def rootC (ds : List Int) : List Value := Value.int .u32 0 :: (ds.map b8 ++ [Value.int .u64 0, Value.int .u64 0])
def rootE (w : Nat) : Value := .agg (rootC (dgI w)).toArray

set_option maxRecDepth 20000 in
theorem c26 {p : Int} {w : Nat} (hr : RightF p w) (h : Hp) : C 26 [.agg (Array.mk [.int .i64 p, .int .i64 w, .int .u64 0, .slice none 0 0, .slice none 0 0])] h fun v h' => v = rootE w ∧ h' = h := by
  refine SCalls.trim (K := fun v h' => v = rootE w ∧ Kept h h') (of_decide_eq_true (by kernel_rfl)) ?_ fun v h' ⟨e, k⟩ => ⟨stay_of k, by rw [e]; unfold rootE; exact plain_arr _ (fun y hy => by
    simp only [rootC, List.mem_cons, List.mem_append, List.mem_map, List.not_mem_nil, or_false] at hy
    rcases hy with rfl | ⟨z, _, rfl⟩ | rfl | rfl <;> rfl), e⟩
  refine SCalls_of_vw fol (pf := pfg) (shp := shp26) (f := 26) (fn := Tryz.f26) (by kernel_rfl) (c := Tryz.f26.body.getD .skip) (by kernel_rfl) (by kernel_rfl) fun wf => ?_
  rw [vc26]
  have h2 : w ≤ 32 := by have := hr.2.2; omega
  intro g1 e1 g2 e2
  obtain ⟨b1, k1, n1', wf1⟩ := new_blk wf e1
  obtain ⟨b2, k2, n2', wf2⟩ := new_blk wf1 e2
  have b1' := Kept.blk k2 b1
  have k02 := k1.trans wf k2 fun _ _ hf => hf
  refine ⟨rfl, _, _, _, ⟨rfl, b1'.one rfl⟩, ?_⟩
  refine Eq.mpr (if_pos (show eqI (natI 0) 0 = true from rfl)) ?_
  refine ⟨rfl, p, w, ⟨rfl, (b1'.cells (Nat.le_of_ble_eq_true rfl)).trans rfl⟩, (c62 hr g2).mono fun x g3 ⟨e3, e4⟩ => ?_⟩
  cases e4
  rw [u8_int] at e3
  have hdl : ((dgE w).map toI).length = 32 := by rw [List.length_map]; exact dgE_len h2
  have hdg : dgI w = (dgE w).map toI := rfl
  unfold rootE
  rw [hdg]
  generalize ((dgE w).map toI) = ds at e3 hdl hdg
  obtain ⟨d0, d1, d2, d3, d4, d5, d6, d7, d8, d9, d10, d11, d12, d13, d14, d15, d16, d17, d18, d19, d20, d21, d22, d23, d24, d25, d26, d27, d28, d29, d30, d31, rfl⟩ := exI32 hdl
  refine ⟨d0, d1, d2, d3, d4, d5, d6, d7, d8, d9, d10, d11, d12, d13, d14, d15, d16, d17, d18, d19, d20, d21, d22, d23, d24, d25, d26, d27, d28, d29, d30, d31, 0, e3.trans rfl, ?_⟩
  intro g4 e4
  obtain ⟨b4, k4, n4', wf4⟩ := new_blk wf2 e4
  obtain ⟨g5, y1, y2, y3, y4, y5, y6⟩ := set_blk wf4 b4 k4 wf2 (Nat.le_refl _) (vs := [.int .u8 d0, .int .u8 d1, .int .u8 d2, .int .u8 d3, .int .u8 d4, .int .u8 d5, .int .u8 d6, .int .u8 d7, .int .u8 d8, .int .u8 d9, .int .u8 d10, .int .u8 d11, .int .u8 d12, .int .u8 d13, .int .u8 d14, .int .u8 d15, .int .u8 d16, .int .u8 d17, .int .u8 d18, .int .u8 d19, .int .u8 d20, .int .u8 d21, .int .u8 d22, .int .u8 d23, .int .u8 d24, .int .u8 d25, .int .u8 d26, .int .u8 d27, .int .u8 d28, .int .u8 d29, .int .u8 d30, .int .u8 d31]) rfl rfl
  have b25 := Kept.blk y3 b2
  have k05 := k1.trans wf (k2.trans wf1 y3 fun _ _ hf => hf) fun _ _ hf => hf
  have k15 : Kept g1 g5 := k2.trans wf1 y3 fun _ _ hf => hf
  obtain ⟨g6, z1, z2, z3, z4, z5, z6⟩ := set_blk y6 b25 k15 wf1 (Nat.le_refl _) (vs := [.int .u32 0, .int .u8 d0, .int .u8 d1, .int .u8 d2, .int .u8 d3, .int .u8 d4, .int .u8 d5, .int .u8 d6, .int .u8 d7, .int .u8 d8, .int .u8 d9, .int .u8 d10, .int .u8 d11, .int .u8 d12, .int .u8 d13, .int .u8 d14, .int .u8 d15, .int .u8 d16, .int .u8 d17, .int .u8 d18, .int .u8 d19, .int .u8 d20, .int .u8 d21, .int .u8 d22, .int .u8 d23, .int .u8 d24, .int .u8 d25, .int .u8 d26, .int .u8 d27, .int .u8 d28, .int .u8 d29, .int .u8 d30, .int .u8 d31, .int .u64 0, .int .u64 0]) rfl rfl
  refine ⟨rfl, g5, y1, d0, d1, d2, d3, d4, d5, d6, d7, d8, d9, d10, d11, d12, d13, d14, d15, d16, d17, d18, d19, d20, d21, d22, d23, d24, d25, d26, d27, d28, d29, d30, d31, ⟨rfl, (y2.cells (Nat.le_of_ble_eq_true rfl)).trans rfl⟩, rfl, g6, z1, 0, d0, d1, d2, d3, d4, d5, d6, d7, d8, d9, d10, d11, d12, d13, d14, d15, d16, d17, d18, d19, d20, d21, d22, d23, d24, d25, d26, d27, d28, d29, d30, d31, 0, 0, ⟨rfl, (z2.cells (Nat.le_of_ble_eq_true rfl)).trans rfl⟩, rfl, k1.trans wf z3 fun _ _ hf => hf⟩
end Go.Proofs.YtpgedmighmolnaaGreat.sb

/- GrowthNews: the law's own code. -/
set_option linter.unusedVariables false
namespace Go.Proofs.YtpgedmighmolnaaGreat.sb
open Go Go.Cn Go.Cn.Sha Go.Proofs Go.Proofs.YtpgedmighmolnaaGreat.vc

def isT : Value → Bool
  | .bool b => b
  | _ => false
theorem ev22 : xK Tryz.prog 30000 nat 100 22 [] Hp.empty (fun v _ => plainV 100 v && isT v) = true := by kernel_rfl
theorem c22 (h : Hp) : C 22 [] h fun v h' => v = .bool true ∧ h' = h :=
  (bareK fol nat_ok (of_decide_eq_true (by kernel_rfl)) rfl ev22 h).mono fun v h' ⟨e1, e2⟩ => ⟨by
    cases v with
    | bool b => rw [show b = true from e1]
    | _ => simp [isT] at e1, e2⟩

theorem all_step {l : List Int} {i w : Nat} {x : Int} (hx : l[i]? = some x) (hw : w ≤ i) : sel (((l.take i).drop w).all fun y => eqI y 0) (eqI x 0) false = ((l.take (i + 1)).drop w).all fun y => eqI y 0 := by
  have hi : i < l.length := (List.getElem?_eq_some_iff.1 hx).1
  rw [List.take_add_one, hx, List.drop_append_of_le_length (by rw [List.length_take]; omega), List.all_append]
  cases ((l.take i).drop w).all fun y => eqI y 0 <;> simp [sel]

set_option maxRecDepth 20000 in
theorem c6 (p w : Int) (q c v : Int) (n0 n1 n2 n3 n4 n5 n6 n7 n8 n9 n10 n11 n12 n13 n14 n15 n16 n17 n18 n19 n20 n21 n22 n23 n24 n25 n26 n27 n28 n29 n30 n31 : Int) (h : Hp) : C 6 [.agg (Array.mk [.int .i64 p, .int .i64 w]), .agg (Array.mk [.int .u32 q, .int .u8 n0, .int .u8 n1, .int .u8 n2, .int .u8 n3, .int .u8 n4, .int .u8 n5, .int .u8 n6, .int .u8 n7, .int .u8 n8, .int .u8 n9, .int .u8 n10, .int .u8 n11, .int .u8 n12, .int .u8 n13, .int .u8 n14, .int .u8 n15, .int .u8 n16, .int .u8 n17, .int .u8 n18, .int .u8 n19, .int .u8 n20, .int .u8 n21, .int .u8 n22, .int .u8 n23, .int .u8 n24, .int .u8 n25, .int .u8 n26, .int .u8 n27, .int .u8 n28, .int .u8 n29, .int .u8 n30, .int .u8 n31, .int .u64 c, .int .u64 v])] h fun x _ => x = .bool true := by
  refine SCalls_of_vw fol (pf := pfg) (shp := shp6) (f := 6) (fn := Tryz.f6) (by kernel_rfl) (c := Tryz.f6.body.getD .skip) (by kernel_rfl) (by kernel_rfl) fun wf => ?_
  rw [vc6]
  intro g1 e1 g2 e2
  obtain ⟨b1, k1, n1', wf1⟩ := new_blk wf e1
  obtain ⟨b2, k2, n2', wf2⟩ := new_blk wf1 e2
  refine (c22 g2).mono fun x g3 ⟨e3, e4⟩ => ?_
  cases e4
  refine ⟨true, e3, ?_⟩
  rw [if_neg (by simp [notB])]
  have b1' := Kept.blk k2 b1
  refine ⟨p, w, ⟨rfl, (b1'.cells (Nat.le_of_ble_eq_true rfl)).trans rfl⟩, ?_⟩
  intro g3 e3
  have o3 := new_own wf2 e3
  obtain ⟨b3, k3, n3', wf3⟩ := new_blk wf2 e3
  have b13 := Kept.blk k3 b1'
  have b23 := Kept.blk k3 b2
  clear b1 b1' b2 b3
  refine ⟨q, n0, n1, n2, n3, n4, n5, n6, n7, n8, n9, n10, n11, n12, n13, n14, n15, n16, n17, n18, n19, n20, n21, n22, n23, n24, n25, n26, n27, n28, n29, n30, n31, c, v, ⟨rfl, (b23.cells (Nat.le_of_ble_eq_true rfl)).trans rfl⟩, ?_⟩
  by_cases hr : RightF p w
  · obtain ⟨W, rfl⟩ : ∃ W : Nat, w = (W : Int) := ⟨w.toNat, by have := hr.2.1; omega⟩
    have h1 : 1 ≤ W := by have := hr.2.1; omega
    have h2 : W ≤ 32 := by have := hr.2.2; omega
    refine (c23 hr q c v n0 n1 n2 n3 n4 n5 n6 n7 n8 n9 n10 n11 n12 n13 n14 n15 n16 n17 n18 n19 n20 n21 n22 n23 n24 n25 n26 n27 n28 n29 n30 n31 o3 (by omega)).wf fun x g4 wf4 _ ⟨k4, hx⟩ => ?_
    obtain ⟨a, n, hv, hx⟩ : ∃ (a : Option Addr) (n : Int), x = .tuple #[.pointer a, .int .i64 n] ∧ ((mayB W q c v [n0, n1, n2, n3, n4, n5, n6, n7, n8, n9, n10, n11, n12, n13, n14, n15, n16, n17, n18, n19, n20, n21, n22, n23, n24, n25, n26, n27, n28, n29, n30, n31] = false ∧ a = none ∧ n = 2) ∨ (mayB W q c v [n0, n1, n2, n3, n4, n5, n6, n7, n8, n9, n10, n11, n12, n13, n14, n15, n16, n17, n18, n19, n20, n21, n22, n23, n24, n25, n26, n27, n28, n29, n30, n31] = true ∧ n = 0 ∧ ∃ e m1 m2, a = some ⟨e, 0, none⟩ ∧ EditAt g4 e g2.next m1 m2 p W q [n0, n1, n2, n3, n4, n5, n6, n7, n8, n9, n10, n11, n12, n13, n14, n15, n16, n17, n18, n19, n20, n21, n22, n23, n24, n25, n26, n27, n28, n29, n30, n31] c v)) := by
      rcases hx with ⟨h3, h4⟩ | ⟨h3, e, m1, m2, h4, h5⟩
      · exact ⟨none, 2, h4, .inl ⟨h3, rfl, rfl⟩⟩
      · exact ⟨_, 0, h4, .inr ⟨h3, rfl, e, m1, m2, rfl, h5⟩⟩
    refine ⟨a, n, hv, ?_⟩
    have b14 := Kept.blk k4 b13
    have b24 := Kept.blk k4 b23
    refine ⟨p, W, ⟨rfl, (b14.cells (Nat.le_of_ble_eq_true rfl)).trans rfl⟩, q, n0, n1, n2, n3, n4, n5, n6, n7, n8, n9, n10, n11, n12, n13, n14, n15, n16, n17, n18, n19, n20, n21, n22, n23, n24, n25, n26, n27, n28, n29, n30, n31, c, v, ⟨rfl, (b24.cells (Nat.le_of_ble_eq_true rfl)).trans rfl⟩, ?_⟩
    refine (c23n p W q c v n0 n1 n2 n3 n4 n5 n6 n7 n8 n9 n10 n11 n12 n13 n14 n15 n16 n17 n18 n19 n20 n21 n22 n23 n24 n25 n26 n27 n28 n29 n30 n31 g4).wf fun x g5 wf5 _ ⟨e5, k5⟩ => ?_
    rw [if_pos hr] at e5
    have b15 := Kept.blk k5 b14
    have b25 := Kept.blk k5 b24
    refine ⟨none, 1, e5, p, W, ⟨rfl, (b15.cells (Nat.le_of_ble_eq_true rfl)).trans rfl⟩, ?_⟩
    refine (c24 p W g5).wf fun x g6 wf6 _ ⟨e6, k6⟩ => ?_
    refine ⟨_, e6, ?_⟩
    rw [if_neg (by rw [decide_eq_true hr]; simp [notB])]
    refine Eq.mpr (if_neg (show ¬ (sel (notB (isN none)) true (neI 1 1) = true) by simp [sel, notB, isN, neI])) ?_
    have b16 := Kept.blk k6 b15
    have b26 := Kept.blk k6 b25
    refine ⟨p, W, ⟨rfl, (b16.cells (Nat.le_of_ble_eq_true rfl)).trans rfl⟩, ?_⟩
    refine (c25 p W g6).wf fun x g7 wf7 _ ⟨e7, k7⟩ => ?_
    refine ⟨p, W, 0, none, 0, 0, none, 0, 0, e7, ?_⟩
    intro g8 e8
    obtain ⟨b8', k8, n8', wf8⟩ := new_blk wf7 e8
    obtain ⟨g9, y1, y2, y3, y4, y5, y6⟩ := set_blk wf8 b8' k8 wf7 (Nat.le_refl _) (vs := [.int .i64 p, .int .i64 W, .int .u64 0, .slice none 0 0, .slice none 0 0]) rfl rfl
    have k79 : Kept g7 g9 := y3
    have b19 := Kept.blk k79 (Kept.blk k7 b16)
    have b29 := Kept.blk k79 (Kept.blk k7 b26)
    have k49 : Kept g4 g9 := k5.trans wf4 (k6.trans wf5 (k7.trans wf6 k79 fun _ _ hf => hf) fun _ _ hf => hf) fun _ _ hf => hf
    refine ⟨rfl, g9, y1, rfl, W, ⟨rfl, b19.one rfl⟩, ?_⟩
    have hx9 : (mayB W q c v [n0, n1, n2, n3, n4, n5, n6, n7, n8, n9, n10, n11, n12, n13, n14, n15, n16, n17, n18, n19, n20, n21, n22, n23, n24, n25, n26, n27, n28, n29, n30, n31] = false ∧ a = none ∧ n = 2) ∨ (mayB W q c v [n0, n1, n2, n3, n4, n5, n6, n7, n8, n9, n10, n11, n12, n13, n14, n15, n16, n17, n18, n19, n20, n21, n22, n23, n24, n25, n26, n27, n28, n29, n30, n31] = true ∧ n = 0 ∧ ∃ e m1 m2, a = some ⟨e, 0, none⟩ ∧ EditAt g9 e g2.next m1 m2 p W q [n0, n1, n2, n3, n4, n5, n6, n7, n8, n9, n10, n11, n12, n13, n14, n15, n16, n17, n18, n19, n20, n21, n22, n23, n24, n25, n26, n27, n28, n29, n30, n31] c v) := by
      rcases hx with h3 | ⟨h3, h4, e, m1, m2, h5, h6⟩
      · exact .inl h3
      · exact .inr ⟨h3, h4, e, m1, m2, h5, h6.keep k49⟩
    clear hx hv b14 b24 b15 b25 b16 b26 b13 b23 y1 e8 b8'
    have rq : g9.cellsAt g1.next 0 1 = some [.int .u32 q] := b29.one rfl
    have rc : g9.cellsAt g1.next 33 1 = some [.int .u64 c] := b29.one rfl
    have rv : g9.cellsAt g1.next 34 1 = some [.int .u64 v] := b29.one rfl
    have rr : g9.cellsAt g1.next 0 35 = some [.int .u32 q, .int .u8 n0, .int .u8 n1, .int .u8 n2, .int .u8 n3, .int .u8 n4, .int .u8 n5, .int .u8 n6, .int .u8 n7, .int .u8 n8, .int .u8 n9, .int .u8 n10, .int .u8 n11, .int .u8 n12, .int .u8 n13, .int .u8 n14, .int .u8 n15, .int .u8 n16, .int .u8 n17, .int .u8 n18, .int .u8 n19, .int .u8 n20, .int .u8 n21, .int .u8 n22, .int .u8 n23, .int .u8 n24, .int .u8 n25, .int .u8 n26, .int .u8 n27, .int .u8 n28, .int .u8 n29, .int .u8 n30, .int .u8 n31, .int .u64 c, .int .u64 v] := (b29.cells (Nat.le_of_ble_eq_true rfl)).trans rfl
    have re : g9.cellsAt g7.next 0 5 = some [.int .i64 p, .int .i64 W, .int .u64 0, .slice none 0 0, .slice none 0 0] := (y2.cells (Nat.le_of_ble_eq_true rfl)).trans rfl
    have hcell : ∀ (i : Nat) (x : Int), ([n0, n1, n2, n3, n4, n5, n6, n7, n8, n9, n10, n11, n12, n13, n14, n15, n16, n17, n18, n19, n20, n21, n22, n23, n24, n25, n26, n27, n28, n29, n30, n31] : List Int)[i]? = some x → g9.cellsAt g1.next (1 + i) 1 = some [.int .u8 x] := by
      intro i x hi
      refine b29.one ?_
      have : ((Value.int .u32 q :: ([n0, n1, n2, n3, n4, n5, n6, n7, n8, n9, n10, n11, n12, n13, n14, n15, n16, n17, n18, n19, n20, n21, n22, n23, n24, n25, n26, n27, n28, n29, n30, n31] : List Int).map b8) ++ [.int .u64 c, .int .u64 v])[1 + i]? = some (.int .u8 x) := by
        rw [Nat.add_comm, List.getElem?_append_left (by have := (List.getElem?_eq_some_iff.1 hi).1; simp at this ⊢; omega), List.getElem?_cons_succ, List.getElem?_map, hi]
        rfl
      exact this
    have hNl : ([n0, n1, n2, n3, n4, n5, n6, n7, n8, n9, n10, n11, n12, n13, n14, n15, n16, n17, n18, n19, n20, n21, n22, n23, n24, n25, n26, n27, n28, n29, n30, n31] : List Int).length = 32 := rfl
    have hmay : mayB W q c v [n0, n1, n2, n3, n4, n5, n6, n7, n8, n9, n10, n11, n12, n13, n14, n15, n16, n17, n18, n19, n20, n21, n22, n23, n24, n25, n26, n27, n28, n29, n30, n31] = sel (eqRB W q c v [n0, n1, n2, n3, n4, n5, n6, n7, n8, n9, n10, n11, n12, n13, n14, n15, n16, n17, n18, n19, n20, n21, n22, n23, n24, n25, n26, n27, n28, n29, n30, n31]) true (fullB W q c v [n0, n1, n2, n3, n4, n5, n6, n7, n8, n9, n10, n11, n12, n13, n14, n15, n16, n17, n18, n19, n20, n21, n22, n23, n24, n25, n26, n27, n28, n29, n30, n31]) := rfl
    have heq : eqRB W q c v [n0, n1, n2, n3, n4, n5, n6, n7, n8, n9, n10, n11, n12, n13, n14, n15, n16, n17, n18, n19, n20, n21, n22, n23, n24, n25, n26, n27, n28, n29, n30, n31] = andB (eqI q 0) (andB (chain [n0, n1, n2, n3, n4, n5, n6, n7, n8, n9, n10, n11, n12, n13, n14, n15, n16, n17, n18, n19, n20, n21, n22, n23, n24, n25, n26, n27, n28, n29, n30, n31] (dgI W)) (andB (eqI c 0) (andB (eqI v 0) true))) := rfl
    refine ⟨fun vals m hh => ∃ (b : Bool) (i : Nat), [.bool b, .int .i64 (i : Int)] = vals ∧ m = 32 - i ∧ W ≤ i ∧ i ≤ 32 ∧ b = ((([n0, n1, n2, n3, n4, n5, n6, n7, n8, n9, n10, n11, n12, n13, n14, n15, n16, n17, n18, n19, n20, n21, n22, n23, n24, n25, n26, n27, n28, n29, n30, n31] : List Int).take i).drop W).all (fun y => eqI y 0) ∧ hh = g9,
      ⟨32 - W, true, W, rfl, rfl, Nat.le_refl _, h2, by rw [List.drop_eq_nil_of_le (by rw [List.length_take]; omega)]; rfl, rfl⟩, ?_⟩
    generalize hNs : ([n0, n1, n2, n3, n4, n5, n6, n7, n8, n9, n10, n11, n12, n13, n14, n15, n16, n17, n18, n19, n20, n21, n22, n23, n24, n25, n26, n27, n28, n29, n30, n31] : List Int) = NS at hcell hNl hmay heq hx9 ⊢
    rintro b n' m hh ⟨b', i, e, rfl, hwi, hi, rfl, rfl⟩
    simp at e
    obtain ⟨rfl, rfl⟩ := e
    by_cases hc : ltI (i : Int) 32 = true
    · rw [if_pos hc]
      have hi32 : i < 32 := by rw [ltI_iff] at hc; omega
      have ex : NS[i]? = some (NS[i]'(by omega)) := List.getElem?_eq_getElem _
      generalize NS[i]'(by omega) = x at ex
      have hp : plusI 1 (i : Int) 1 = 1 + i := by simp [plusI]
      refine ⟨fun _ => rfl, fun _ => ⟨rfl, Int.natCast_nonneg _, by omega⟩, x, fun _ => ⟨rfl, by rw [hp]; exact hcell i x ex⟩, 32 - (i + 1), by simp only [lessN]; omega, _, i + 1, ?_, rfl, by omega, by omega, all_step ex hwi, rfl⟩
      rw [show addW .i64 (i : Int) 1 = ((i + 1 : Nat) : Int) by rw [addW_small (by omega) (by omega)]; omega]
    · rw [if_neg hc]
      have hi32 : i = 32 := by
        by_cases hq : i = 32
        · exact hq
        · exact absurd (ltI_iff.2 (by omega)) hc
      subst hi32
      rw [List.take_of_length_le (by omega)]
      have hfit : ((NS.drop W).all fun y => eqI y 0) = fitB W NS := rfl
      rw [hfit]
      refine ⟨q, n0, n1, n2, n3, n4, n5, n6, n7, n8, n9, n10, n11, n12, n13, n14, n15, n16, n17, n18, n19, n20, n21, n22, n23, n24, n25, n26, n27, n28, n29, n30, n31, c, v, ⟨rfl, rr⟩, p, W, 0, none, 0, 0, none, 0, 0, ⟨rfl, re⟩, (c26 hr hh).mono fun x g10 ⟨e10, e11⟩ => ?_⟩
      cases e11
      have hdl : (dgI W).length = 32 := by unfold dgI; rw [List.length_map]; exact dgE_len h2
      unfold rootE at e10
      generalize dgI W = ds at e10 hdl heq
      obtain ⟨d0, d1, d2, d3, d4, d5, d6, d7, d8, d9, d10, d11, d12, d13, d14, d15, d16, d17, d18, d19, d20, d21, d22, d23, d24, d25, d26, d27, d28, d29, d30, d31, rfl⟩ := exI32 hdl
      subst hNs
      refine ⟨0, d0, d1, d2, d3, d4, d5, d6, d7, d8, d9, d10, d11, d12, d13, d14, d15, d16, d17, d18, d19, d20, d21, d22, d23, d24, d25, d26, d27, d28, d29, d30, d31, 0, 0, e10.trans rfl, ⟨rfl, rr⟩, fun _ => rfl, q, fun _ => ⟨rfl, rq⟩, fun _ => rfl, q, fun _ => ⟨rfl, rq⟩, fun _ => rfl, c, fun _ => ⟨rfl, rc⟩, fun _ => rfl, v, fun _ => ⟨rfl, rv⟩, fun _ => rfl, v, fun _ => ⟨rfl, rv⟩, ?_⟩
      rw [heq] at hmay
      rcases hx9 with ⟨h3, rfl, rfl⟩ | ⟨h3, rfl, ee, m1, m2, rfl, ed⟩
      · rw [hmay] at h3
        refine Eq.mpr (if_pos (show notB (sel (andB (eqI q 0) (andB (chain [n0, n1, n2, n3, n4, n5, n6, n7, n8, n9, n10, n11, n12, n13, n14, n15, n16, n17, n18, n19, n20, n21, n22, n23, n24, n25, n26, n27, n28, n29, n30, n31] [d0, d1, d2, d3, d4, d5, d6, d7, d8, d9, d10, d11, d12, d13, d14, d15, d16, d17, d18, d19, d20, d21, d22, d23, d24, d25, d26, d27, d28, d29, d30, d31]) (andB (eqI c 0) (andB (eqI v 0) true)))) true (fullB W q c v [n0, n1, n2, n3, n4, n5, n6, n7, n8, n9, n10, n11, n12, n13, n14, n15, n16, n17, n18, n19, n20, n21, n22, n23, n24, n25, n26, n27, n28, n29, n30, n31])) = true by rw [h3]; rfl)) ?_
        rfl
      · rw [hmay] at h3
        refine Eq.mpr (if_neg (show ¬ (notB (sel (andB (eqI q 0) (andB (chain [n0, n1, n2, n3, n4, n5, n6, n7, n8, n9, n10, n11, n12, n13, n14, n15, n16, n17, n18, n19, n20, n21, n22, n23, n24, n25, n26, n27, n28, n29, n30, n31] [d0, d1, d2, d3, d4, d5, d6, d7, d8, d9, d10, d11, d12, d13, d14, d15, d16, d17, d18, d19, d20, d21, d22, d23, d24, d25, d26, d27, d28, d29, d30, d31]) (andB (eqI c 0) (andB (eqI v 0) true)))) true (fullB W q c v [n0, n1, n2, n3, n4, n5, n6, n7, n8, n9, n10, n11, n12, n13, n14, n15, n16, n17, n18, n19, n20, n21, n22, n23, n24, n25, n26, n27, n28, n29, n30, n31])) = true) by rw [h3]; simp [notB])) ?_
        have self : andB (eqI q q) (andB (chain [n0, n1, n2, n3, n4, n5, n6, n7, n8, n9, n10, n11, n12, n13, n14, n15, n16, n17, n18, n19, n20, n21, n22, n23, n24, n25, n26, n27, n28, n29, n30, n31] [n0, n1, n2, n3, n4, n5, n6, n7, n8, n9, n10, n11, n12, n13, n14, n15, n16, n17, n18, n19, n20, n21, n22, n23, n24, n25, n26, n27, n28, n29, n30, n31]) (andB (eqI c c) (andB (eqI v v) true))) = true := by
          rw [chain_self, eqI_self, eqI_self, eqI_self]
          rfl
        refine ⟨q, n0, n1, n2, n3, n4, n5, n6, n7, n8, n9, n10, n11, n12, n13, n14, n15, n16, n17, n18, n19, n20, n21, n22, n23, n24, n25, n26, n27, n28, n29, n30, n31, c, v, fun _ => ⟨rfl, rr⟩, q, n0, n1, n2, n3, n4, n5, n6, n7, n8, n9, n10, n11, n12, n13, n14, n15, n16, n17, n18, n19, n20, n21, n22, n23, n24, n25, n26, n27, n28, n29, n30, n31, c, v, fun _ => c27 ed, fun _ => ⟨rfl, rr⟩, q, n0, n1, n2, n3, n4, n5, n6, n7, n8, n9, n10, n11, n12, n13, n14, n15, n16, n17, n18, n19, n20, n21, n22, n23, n24, n25, n26, n27, n28, n29, n30, n31, c, v, fun _ => ⟨rfl, rr⟩, q, n0, n1, n2, n3, n4, n5, n6, n7, n8, n9, n10, n11, n12, n13, n14, n15, n16, n17, n18, n19, n20, n21, n22, n23, n24, n25, n26, n27, n28, n29, n30, n31, c, v, fun _ => c28 ed, fun _ => ⟨rfl, rr⟩, 0, fun _ => c29 ed, none, 0, 0, fun _ => c30 ed, ?_⟩
        show Value.bool (sel (sel (sel (sel (sel true true false) (andB (eqI q q) (andB (chain [n0, n1, n2, n3, n4, n5, n6, n7, n8, n9, n10, n11, n12, n13, n14, n15, n16, n17, n18, n19, n20, n21, n22, n23, n24, n25, n26, n27, n28, n29, n30, n31] [n0, n1, n2, n3, n4, n5, n6, n7, n8, n9, n10, n11, n12, n13, n14, n15, n16, n17, n18, n19, n20, n21, n22, n23, n24, n25, n26, n27, n28, n29, n30, n31]) (andB (eqI c c) (andB (eqI v v) true)))) false) (andB (eqI q q) (andB (chain [n0, n1, n2, n3, n4, n5, n6, n7, n8, n9, n10, n11, n12, n13, n14, n15, n16, n17, n18, n19, n20, n21, n22, n23, n24, n25, n26, n27, n28, n29, n30, n31] [n0, n1, n2, n3, n4, n5, n6, n7, n8, n9, n10, n11, n12, n13, n14, n15, n16, n17, n18, n19, n20, n21, n22, n23, n24, n25, n26, n27, n28, n29, n30, n31]) (andB (eqI c c) (andB (eqI v v) true)))) false) true false) true false) = Value.bool true
        rw [self]
        rfl
  · refine (c23f hr q c v n0 n1 n2 n3 n4 n5 n6 n7 n8 n9 n10 n11 n12 n13 n14 n15 n16 n17 n18 n19 n20 n21 n22 n23 n24 n25 n26 n27 n28 n29 n30 n31 _ g3).wf fun x g4 wf4 _ ⟨e4, k4⟩ => ?_
    refine ⟨none, 2, e4, ?_⟩
    have b14 := Kept.blk k4 b13
    have b24 := Kept.blk k4 b23
    refine ⟨p, w, ⟨rfl, (b14.cells (Nat.le_of_ble_eq_true rfl)).trans rfl⟩, q, n0, n1, n2, n3, n4, n5, n6, n7, n8, n9, n10, n11, n12, n13, n14, n15, n16, n17, n18, n19, n20, n21, n22, n23, n24, n25, n26, n27, n28, n29, n30, n31, c, v, ⟨rfl, (b24.cells (Nat.le_of_ble_eq_true rfl)).trans rfl⟩, ?_⟩
    refine (c23n p w q c v n0 n1 n2 n3 n4 n5 n6 n7 n8 n9 n10 n11 n12 n13 n14 n15 n16 n17 n18 n19 n20 n21 n22 n23 n24 n25 n26 n27 n28 n29 n30 n31 g4).wf fun x g5 wf5 _ ⟨e5, k5⟩ => ?_
    rw [if_neg hr] at e5
    have b15 := Kept.blk k5 b14
    refine ⟨none, 2, e5, p, w, ⟨rfl, (b15.cells (Nat.le_of_ble_eq_true rfl)).trans rfl⟩, ?_⟩
    refine (c24 p w g5).mono fun x g6 ⟨e6, k6⟩ => ?_
    refine ⟨_, e6, ?_⟩
    rw [if_pos (by rw [decide_eq_false hr]; rfl)]
    rfl
end Go.Proofs.YtpgedmighmolnaaGreat.sb
