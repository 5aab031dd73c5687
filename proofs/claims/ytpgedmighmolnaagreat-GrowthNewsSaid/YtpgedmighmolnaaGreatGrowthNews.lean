/- 'GrowthNews' answers true of all inputs, and leaves them as they were. No condition. -/
import Derived.Test.YtpgedmighmolnaaGreatGw16
import Derived.WalkKit
import Derived.ProofKit
import Derived.OpenShut
namespace Go.Proofs.YtpgedmighmolnaaGreat.growthNews
open Go.ChangeShapes Go.WideShapes Go.ChangeAt Go.RowKit Go.Cn
set_option linter.unusedVariables false

theorem own : ownKnob Tryz.prog.godebug = none := by kernel_rfl

theorem simple : Tryz.f6.params.toList.all (simpleT Tryz.prog 10) = true := by kernel_rfl

theorem fine_ints {G : TypeId → List Value → Prop} {k : IntKind} : ∀ {fs : List Field} {cs : List Value}, (∀ f ∈ fs, ∀ c, G f.type c → ∃ i, c = [.int k i]) → FineFs G fs cs → ∃ L : List Int, L.length = fs.length ∧ cs = L.map (.int k)
  | [], cs, _, h => ⟨[], rfl, h⟩
  | f :: fs, cs, hf, ⟨c1, c2, h1, h2, h3⟩ => by
    obtain ⟨i, rfl⟩ := hf f (by simp) c1 h2
    obtain ⟨L, h4, rfl⟩ := fine_ints (fun g hg => hf g (by simp [hg])) h3
    exact ⟨i :: L, by simp [h4], by rw [h1]; rfl⟩

set_option maxRecDepth 100000 in
theorem main (N : Nat) (h : Hp) (vs : List Value) (wf : Wf h) (hg : FineArgs Tryz.prog h N Tryz.f6.params.toList vs) : SCalls Tryz.prog 6 vs h fun v _ => v = .bool true := by
  rw [Tryz.params6] at hg
  obtain ⟨v, vs', n, cs, rfl, hG, hv, v2, vs2, n2, cs2, rfl, hG2, hv2, rfl⟩ := hg
  have hv : v = .agg cs.toArray := hv
  have hv2 : v2 = .agg cs2.toArray := hv2
  obtain ⟨m, rfl, x1, x2, rfl, f1, y1, y2, rfl, f2, f3⟩ := hG.struct Tryz.underlying23
  obtain ⟨p, rfl, _⟩ := f1.int Tryz.underlying3
  obtain ⟨w, rfl, _⟩ := f2.int Tryz.underlying3
  have f3 : y2 = [] := f3
  subst f3
  obtain ⟨m2, rfl, a1, a2, rfl, g1, b1, b2, rfl, g2, c1, c2, rfl, g3, d1, d2, rfl, g4, g5⟩ := hG2.struct Tryz.underlying44
  obtain ⟨q, rfl, _⟩ := g1.int Tryz.underlying39
  obtain ⟨m3, rfl, g2⟩ := g2.array Tryz.underlying41
  obtain ⟨c, rfl, _⟩ := g3.int Tryz.underlying42
  obtain ⟨u, rfl, _⟩ := g4.int Tryz.underlying42
  have g5 : d2 = [] := g5
  subst g5
  obtain ⟨L, hL, rfl⟩ := fine_ints (k := .u8) (fun f hf cc hc => by
    obtain ⟨j, hj⟩ := List.getElem?_of_mem hf
    have := (arrF_get hj).2.1
    rw [this] at hc
    obtain ⟨i, hi, _⟩ := hc.int Tryz.underlying5
    exact ⟨i, hi⟩) g2
  rw [arrF_len] at hL
  obtain ⟨n0, n1, n2, n3, n4, n5, n6, n7, n8, n9, n10, n11, n12, n13, n14, n15, n16, n17, n18, n19, n20, n21, n22, n23, n24, n25, n26, n27, n28, n29, n30, n31, rfl⟩ := sb.exI32 hL
  subst hv hv2
  exact sb.c6 p w q c u n0 n1 n2 n3 n4 n5 n6 n7 n8 n9 n10 n11 n12 n13 n14 n15 n16 n17 n18 n19 n20 n21 n22 n23 n24 n25 n26 n27 n28 n29 n30 n31 h

set_option maxRecDepth 100000 in
theorem lifted (os : Os) (started : os.Started) (H : Type) (enc : TypeId × Value → H) :
    ReturnsInHanded {} Tryz.checked os 6 .any (Rows.growthNewsSpec.pre6 enc Tryz.prog Tryz.f6 Rows.growthNewsRow.domain false) (Rows.growthNewsSpec.post enc Tryz.prog Tryz.f6 false true false false) := by
  refine returnsInHanded_of_change (C := Tryz.checked) own started (by kernel_rfl) Tryz.func6
    (ChangeSpec.witness6 (enc := enc) (C := Tryz.checked) false ⟨#[], #[.agg #[.int .i64 0, .int .i64 0], .agg #[.int .u32 0, .int .u8 0, .int .u8 0, .int .u8 0, .int .u8 0, .int .u8 0, .int .u8 0, .int .u8 0, .int .u8 0, .int .u8 0, .int .u8 0, .int .u8 0, .int .u8 0, .int .u8 0, .int .u8 0, .int .u8 0, .int .u8 0, .int .u8 0, .int .u8 0, .int .u8 0, .int .u8 0, .int .u8 0, .int .u8 0, .int .u8 0, .int .u8 0, .int .u8 0, .int .u8 0, .int .u8 0, .int .u8 0, .int .u8 0, .int .u8 0, .int .u8 0, .int .u8 0, .int .u64 0, .int .u64 0]], []⟩ 8 (by kernel_rfl) (by kernel_rfl) (by kernel_rfl) (by kernel_rfl)) ?_
  intro W base args ds gs before hval hW hcnd _
  refine law_contract (of_decide_eq_true (by kernel_rfl)) upb.meas (Rows.uptoBulkAll ds) 10 (tb := 4) (fun t ht => List.all_eq_true.mp simple t ht) rfl ?_ (by kernel_rfl) Tryz.underlying4 (fun h vs wf hg => main _ h vs wf hg) hval hW (fun d hd => upb.part_le hd)
  intro ds hl
  rw [Tryz.params6] at hl
  match ds, hl with
  | [d0, d1], _ => exact ⟨rfl, rfl, rfl⟩

theorem over : Rows.growthNewsRow.holds Tryz.pinned (OpenSpec.ofChange Rows.growthNewsSpec) :=
  OpenClaim.holds_of_wide 6 Tryz.f6 rfl rfl rfl rfl rfl rfl rfl ⟨rfl, rfl, rfl, rfl, rfl⟩ rfl rfl rfl rfl rfl (by kernel_rfl) Tryz.func6 (by kernel_rfl)
    (of_decide_eq_true (by kernel_rfl)) (by unfold Func.isWrapper; first | (rw [if_pos (by decide +kernel)]; kernel_rfl) | (rw [if_neg (by decide +kernel)]; exact ⟨rfl, rfl⟩))
    (fun os started H enc _ => lifted os started H enc)

theorem proved : Rows.GrowthNewsSaid :=
  over
end Go.Proofs.YtpgedmighmolnaaGreat.growthNews
