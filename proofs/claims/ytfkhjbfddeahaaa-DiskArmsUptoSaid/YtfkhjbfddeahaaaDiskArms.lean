/- 'DiskArms' answers true of all inputs of bulk at most 1048576 (the statement's second form), and leaves them as they were. -/
import Derived.Test.YtfkhjbfddeahaaaUpB
import Derived.Test.YtfkhjbfddeahaaaDiskX3
import Derived.JoinedCond
namespace Go.Proofs.Ytfkhjbfddeahaaa.diskArms
open Go.ChangeShapes Go.WideShapes Go.ChangeAt Go.RowKit Go.Cn
set_option linter.unusedVariables false

theorem own : ownKnob Try.prog.godebug = none := by kernel_rfl

theorem simple : Try.f12.params.toList.all (simpleT Try.prog 10) = true := by kernel_rfl

set_option maxRecDepth 100000 in
theorem contract (H : Type) (enc : TypeId × Value → H) (W : World) (base : Nat) (args : Array Value) (ds gs : List (DataW H)) (before : List MemPlace) (hk : Rows.uptoSmall H (ds ++ gs) = true)
    (hval : ∀ (j : Nat) t v, Try.f12.params[j]? = some t → args[j]? = some v → Value.okWide Try.prog W .any base t v)
    (hW : DataW.Whole enc Try.prog Try.f12.params.toList Rows.diskArmsSpec.vars false W args.toList ds gs before) :
    Calls Try.prog 12 args W fun e W' => ∃ v, e = .returned v ∧ Rows.diskArmsSpec.post enc Try.prog Try.f12 false true false false W args v W' := by
  refine law_contract upb.meas 1048576 10 (tb := 4) (fun t ht => List.all_eq_true.mp simple t ht) rfl ?_ (by kernel_rfl) Try.underlying4 ?_ hval hW (fun d hd => upb.bound hk d (by simp [hd]))
  · intro ds hl
    rw [Try.params12] at hl
    match ds, hl with
    | [d0, d1, d2, d3], _ => exact ⟨rfl, rfl, rfl⟩
  · intro h vs wf hg
    rw [Try.params12] at hg
    obtain ⟨v, vs', n, cs, rfl, hG, hv, v2, vs2, n2, cs2, rfl, hG2, hv2, v3, vs3, n3, cs3, rfl, hG3, hv3, v4, vs4, n4, cs4, rfl, hG4, hv4, rfl⟩ := hg
    obtain ⟨a, l, c, L, hcs, hl, hL, ok⟩ := kc.fine_steps hG
    obtain ⟨nth, hcs2, _⟩ := hG2.int Try.underlying3
    obtain ⟨pw, hcs3⟩ := hG3.bool Try.underlying4
    obtain ⟨a4, l4, c4, L4, hcs4, hl4, hL4, ok4⟩ := kc.fine_fates hG4
    have hv : cs = [v] := hv
    have hv2 : cs2 = [v2] := hv2
    have hv3 : cs3 = [v3] := hv3
    have hv4 : cs4 = [v4] := hv4
    rw [hcs] at hv
    rw [hcs2] at hv2
    rw [hcs3] at hv3
    rw [hcs4] at hv4
    simp at hv hv2 hv3 hv4
    subst hv hv2 hv3 hv4
    exact kc.c12 hL ok (by have := hL.sl.le; omega) nth pw hL4 (by have := hL4.sl.le; omega)

set_option maxRecDepth 100000 in
theorem lifted (os : Os) (started : os.Started) (H : Type) (enc : TypeId × Value → H) (F : Stop.Interp) :
    ReturnsInHanded {} Try.checked os 12 .any ((Rows.OpenSpec.upto Rows.diskArmsSpec).pre6 enc Try.prog Try.f12 Rows.diskArmsUptoRow.domain false) (((Rows.OpenSpec.upto Rows.diskArmsSpec).at F).post enc Try.prog Try.f12 false true false false) := by
  refine returnsInHanded_of_cond (C := Try.checked) (s := Rows.OpenSpec.upto Rows.diskArmsSpec) (k := Rows.uptoSmall) rfl own started (by kernel_rfl) Try.func12
    (OpenSpec.witness (enc := enc) (C := Try.checked) (s := Rows.OpenSpec.upto Rows.diskArmsSpec) (k := Rows.uptoSmall) rfl false ⟨#[], #[.slice none 0 0, .int .i64 0, .bool false, .slice none 0 0], []⟩ 8 (by kernel_rfl) (by kernel_rfl) (by kernel_rfl)
      (x := ([.nil, .lit (.int .i64 0), .lit (.bool false), .nil], [], [])) (by kernel_rfl) rfl (by kernel_rfl)) ?_
  intro W base args ds gs before hval hW _ hk _
  exact contract H enc W base args ds gs before hk hval hW

theorem over : Rows.diskArmsUptoRow.holds Try.pinned (Rows.OpenSpec.upto Rows.diskArmsSpec) :=
  OpenClaim.holds_of_cond 12 Try.f12 rfl rfl rfl rfl rfl rfl rfl ⟨rfl, rfl, rfl, rfl, rfl⟩ rfl rfl rfl rfl rfl (by kernel_rfl) Try.func12 (by kernel_rfl)
    (of_decide_eq_true (by kernel_rfl)) (by unfold Func.isWrapper; first | (rw [if_pos (by decide +kernel)]; kernel_rfl) | (rw [if_neg (by decide +kernel)]; exact ⟨rfl, rfl⟩))
    (fun os started H enc _ F => lifted os started H enc F)

theorem proved : Rows.DiskArmsUptoSaid :=
  over
end Go.Proofs.Ytfkhjbfddeahaaa.diskArms
