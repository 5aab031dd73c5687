/- 'DiffBacks' answers true of all inputs of bulk at most 1048576 (the statement's second form), and leaves them as they were. -/
import Derived.Test.YtfkhjbfddeahaaaUpB
import Derived.Test.YtfkhjbfddeahaaaDiffD
import Derived.JoinedCond
namespace Go.Proofs.Ytfkhjbfddeahaaa.diffBacks
open Go.ChangeShapes Go.WideShapes Go.ChangeAt Go.RowKit Go.Cn
set_option linter.unusedVariables false

theorem own : ownKnob Try.prog.godebug = none := by kernel_rfl

theorem simple : Try.f5.params.toList.all (simpleT Try.prog 10) = true := by kernel_rfl

set_option maxRecDepth 100000 in
theorem contract (H : Type) (enc : TypeId × Value → H) (W : World) (base : Nat) (args : Array Value) (ds gs : List (DataW H)) (before : List MemPlace) (hk : Rows.uptoSmall H (ds ++ gs) = true)
    (hval : ∀ (j : Nat) t v, Try.f5.params[j]? = some t → args[j]? = some v → Value.okWide Try.prog W .any base t v)
    (hW : DataW.Whole enc Try.prog Try.f5.params.toList Rows.diffBacksSpec.vars false W args.toList ds gs before) :
    Calls Try.prog 5 args W fun e W' => ∃ v, e = .returned v ∧ Rows.diffBacksSpec.post enc Try.prog Try.f5 false true false false W args v W' := by
  refine law_contract upb.meas 1048576 10 (tb := 4) (fun t ht => List.all_eq_true.mp simple t ht) rfl ?_ (by kernel_rfl) Try.underlying4 ?_ hval hW (fun d hd => upb.bound hk d (by simp [hd]))
  · intro ds hl
    rw [Try.params5] at hl
    match ds, hl with
    | [d0], _ => exact ⟨rfl, rfl, rfl⟩
  · intro h vs wf hg
    rw [Try.params5] at hg
    obtain ⟨v, vs', n, cs, rfl, hG, hv, rfl⟩ := hg
    obtain ⟨a, l, c, L, hcs, hl, hL⟩ := dc.fine_changes hG
    have hv : cs = [v] := hv
    rw [hcs] at hv
    simp at hv
    subst hv
    exact dc.c5 hL (by have := hL.sl.le; omega)

set_option maxRecDepth 100000 in
theorem lifted (os : Os) (started : os.Started) (H : Type) (enc : TypeId × Value → H) (F : Stop.Interp) :
    ReturnsInHanded {} Try.checked os 5 .any ((Rows.OpenSpec.upto Rows.diffBacksSpec).pre6 enc Try.prog Try.f5 Rows.diffBacksUptoRow.domain false) (((Rows.OpenSpec.upto Rows.diffBacksSpec).at F).post enc Try.prog Try.f5 false true false false) := by
  refine returnsInHanded_of_cond (C := Try.checked) (s := Rows.OpenSpec.upto Rows.diffBacksSpec) (k := Rows.uptoSmall) rfl own started (by kernel_rfl) Try.func5
    (OpenSpec.witness (enc := enc) (C := Try.checked) (s := Rows.OpenSpec.upto Rows.diffBacksSpec) (k := Rows.uptoSmall) rfl false ⟨#[], #[.slice none 0 0], []⟩ 8 (by kernel_rfl) (by kernel_rfl) (by kernel_rfl)
      (x := ([.nil], [], [])) (by kernel_rfl) rfl (by kernel_rfl)) ?_
  intro W base args ds gs before hval hW _ hk _
  exact contract H enc W base args ds gs before hk hval hW

theorem over : Rows.diffBacksUptoRow.holds Try.pinned (Rows.OpenSpec.upto Rows.diffBacksSpec) :=
  OpenClaim.holds_of_cond 5 Try.f5 rfl rfl rfl rfl rfl rfl rfl ⟨rfl, rfl, rfl, rfl, rfl⟩ rfl rfl rfl rfl rfl (by kernel_rfl) Try.func5 (by kernel_rfl)
    (of_decide_eq_true (by kernel_rfl)) (by unfold Func.isWrapper; first | (rw [if_pos (by decide +kernel)]; kernel_rfl) | (rw [if_neg (by decide +kernel)]; exact ⟨rfl, rfl⟩))
    (fun os started H enc _ F => lifted os started H enc F)

theorem proved : Rows.DiffBacksUptoSaid :=
  over
end Go.Proofs.Ytfkhjbfddeahaaa.diffBacks
