/- 'DiffChecks' answers true of every list of changes of bulk at most 1048576 (the statement's second form), and leaves it as it was. -/
import Derived.Test.YtfkhjbfddeahaaaUpB
import Derived.Test.YtfkhjbfddeahaaaDiffC
import Derived.JoinedCond
namespace Go.Proofs.Ytfkhjbfddeahaaa.diffChecks
open Go.ChangeShapes Go.WideShapes Go.ChangeAt Go.RowKit Go.Cn Go.Proofs.Ytfkhjbfddeahaaa.dc
set_option linter.unusedVariables false

theorem own : ownKnob Try.prog.godebug = none := by kernel_rfl

set_option maxRecDepth 100000 in
theorem contract (H : Type) (enc : TypeId × Value → H) (W : World) (base : Nat) (args : Array Value) (ds gs : List (DataW H)) (before : List MemPlace) (hk : Rows.uptoSmall H (ds ++ gs) = true)
    (hval : ∀ (j : Nat) t v, Try.f4.params[j]? = some t → args[j]? = some v → Value.okWide Try.prog W .any base t v)
    (hW : DataW.Whole enc Try.prog Try.f4.params.toList Rows.diffChecksSpec.vars false W args.toList ds gs before) :
    Calls Try.prog 4 args W fun e W' => ∃ v, e = .returned v ∧ Rows.diffChecksSpec.post enc Try.prog Try.f4 false true false false W args v W' := by
  refine law_contract upb.meas 1048576 10 (tb := 4) (by simp only [Try.params4]; intro t ht; simp at ht; subst ht; kernel_rfl) rfl ?_ (by kernel_rfl) Try.underlying4 ?_ hval hW (fun d hd => upb.bound hk d (by simp [hd]))
  · intro ds hl
    match ds, hl with
    | [d], _ => exact ⟨rfl, rfl, rfl⟩
  · intro h vs wf hg
    rw [Try.params4] at hg
    obtain ⟨v, vs', n, cs, rfl, hG, hv, rfl⟩ := hg
    obtain ⟨a, l, c, L, hcs, hl, hL⟩ := fine_changes hG
    have hv : cs = [v] := hv
    rw [hcs] at hv
    simp at hv
    subst hv
    exact c4 hL (by have := hL.sl.le; omega)

set_option maxRecDepth 100000 in
theorem lifted (os : Os) (started : os.Started) (H : Type) (enc : TypeId × Value → H) (F : Stop.Interp) :
    ReturnsInHanded {} Try.checked os 4 .any ((Rows.OpenSpec.upto Rows.diffChecksSpec).pre6 enc Try.prog Try.f4 Rows.diffChecksUptoRow.domain false) (((Rows.OpenSpec.upto Rows.diffChecksSpec).at F).post enc Try.prog Try.f4 false true false false) := by
  refine returnsInHanded_of_cond (C := Try.checked) (s := Rows.OpenSpec.upto Rows.diffChecksSpec) (k := Rows.uptoSmall) rfl own started (by kernel_rfl) Try.func4
    (OpenSpec.witness (enc := enc) (C := Try.checked) (s := Rows.OpenSpec.upto Rows.diffChecksSpec) (k := Rows.uptoSmall) rfl false ⟨#[], #[.slice none 0 0], []⟩ 8 (by kernel_rfl) (by kernel_rfl) (by kernel_rfl)
      (x := ([.nil], [], [])) (by kernel_rfl) rfl (by kernel_rfl)) ?_
  intro W base args ds gs before hval hW _ hk _
  exact contract H enc W base args ds gs before hk hval hW

theorem over : Rows.diffChecksUptoRow.holds Try.pinned (Rows.OpenSpec.upto Rows.diffChecksSpec) :=
  OpenClaim.holds_of_cond 4 Try.f4 rfl rfl rfl rfl rfl rfl rfl ⟨rfl, rfl, rfl, rfl, rfl⟩ rfl rfl rfl rfl rfl (by kernel_rfl) Try.func4 (by kernel_rfl)
    (of_decide_eq_true (by kernel_rfl)) (by unfold Func.isWrapper; first | (rw [if_pos (by decide +kernel)]; kernel_rfl) | (rw [if_neg (by decide +kernel)]; exact ⟨rfl, rfl⟩))
    (fun os started H enc _ F => lifted os started H enc F)

theorem proved : Rows.DiffChecksUptoSaid :=
  over
end Go.Proofs.Ytfkhjbfddeahaaa.diffChecks
