/- 'DiskSafe' answers true of all inputs of bulk at most 1048576 (the statement's second form), and leaves them as they were. -/
import Derived.Test.YtfkhjbfddeahaaaUpB
import Derived.Test.YtfkhjbfddeahaaaDiskZ3
import Derived.JoinedCond
namespace Go.Proofs.Ytfkhjbfddeahaaa.diskSafe
open Go.ChangeShapes Go.WideShapes Go.ChangeAt Go.RowKit Go.Cn
set_option linter.unusedVariables false

theorem own : ownKnob Try.prog.godebug = none := by kernel_rfl

theorem simple : Try.f9.params.toList.all (simpleT Try.prog 10) = true := by kernel_rfl

set_option maxRecDepth 100000 in
theorem contract (H : Type) (enc : TypeId × Value → H) (W : World) (base : Nat) (args : Array Value) (ds gs : List (DataW H)) (before : List MemPlace) (hk : Rows.uptoSmall H (ds ++ gs) = true)
    (hval : ∀ (j : Nat) t v, Try.f9.params[j]? = some t → args[j]? = some v → Value.okWide Try.prog W .any base t v)
    (hW : DataW.Whole enc Try.prog Try.f9.params.toList Rows.diskSafeSpec.vars false W args.toList ds gs before) :
    Calls Try.prog 9 args W fun e W' => ∃ v, e = .returned v ∧ Rows.diskSafeSpec.post enc Try.prog Try.f9 false true false false W args v W' := by
  refine law_contract upb.meas 1048576 10 (tb := 4) (fun t ht => List.all_eq_true.mp simple t ht) rfl ?_ (by kernel_rfl) Try.underlying4 ?_ hval hW (fun d hd => upb.bound hk d (by simp [hd]))
  · intro ds hl
    rw [Try.params9] at hl
    match ds, hl with
    | [d0, d1], _ => exact ⟨rfl, rfl, rfl⟩
  · intro h vs wf hg
    rw [Try.params9] at hg
    obtain ⟨v, vs', n, cs, rfl, hG, hv, v2, vs2, n2, cs2, rfl, hG2, hv2, rfl⟩ := hg
    obtain ⟨a, l, c, L, hcs, hl, hL, ok⟩ := kc.fine_steps hG
    obtain ⟨a2, l2, c2, L2, hcs2, hl2, hL2, ok2⟩ := kc.fine_fates hG2
    have hv : cs = [v] := hv
    have hv2 : cs2 = [v2] := hv2
    rw [hcs] at hv
    rw [hcs2] at hv2
    simp at hv hv2
    subst hv hv2
    exact kc.c9 hL ok (by have := hL.sl.le; omega) hL2 (by have := hL2.sl.le; omega)

set_option maxRecDepth 100000 in
theorem lifted (os : Os) (started : os.Started) (H : Type) (enc : TypeId × Value → H) (F : Stop.Interp) :
    ReturnsInHanded {} Try.checked os 9 .any ((Rows.OpenSpec.upto Rows.diskSafeSpec).pre6 enc Try.prog Try.f9 Rows.diskSafeUptoRow.domain false) (((Rows.OpenSpec.upto Rows.diskSafeSpec).at F).post enc Try.prog Try.f9 false true false false) := by
  refine returnsInHanded_of_cond (C := Try.checked) (s := Rows.OpenSpec.upto Rows.diskSafeSpec) (k := Rows.uptoSmall) rfl own started (by kernel_rfl) Try.func9
    (OpenSpec.witness (enc := enc) (C := Try.checked) (s := Rows.OpenSpec.upto Rows.diskSafeSpec) (k := Rows.uptoSmall) rfl false ⟨#[], #[.slice none 0 0, .slice none 0 0], []⟩ 8 (by kernel_rfl) (by kernel_rfl) (by kernel_rfl)
      (x := ([.nil, .nil], [], [])) (by kernel_rfl) rfl (by kernel_rfl)) ?_
  intro W base args ds gs before hval hW _ hk _
  exact contract H enc W base args ds gs before hk hval hW

theorem over : Rows.diskSafeUptoRow.holds Try.pinned (Rows.OpenSpec.upto Rows.diskSafeSpec) :=
  OpenClaim.holds_of_cond 9 Try.f9 rfl rfl rfl rfl rfl rfl rfl ⟨rfl, rfl, rfl, rfl, rfl⟩ rfl rfl rfl rfl rfl (by kernel_rfl) Try.func9 (by kernel_rfl)
    (of_decide_eq_true (by kernel_rfl)) (by unfold Func.isWrapper; first | (rw [if_pos (by decide +kernel)]; kernel_rfl) | (rw [if_neg (by decide +kernel)]; exact ⟨rfl, rfl⟩))
    (fun os started H enc _ F => lifted os started H enc F)

theorem proved : Rows.DiskSafeUptoSaid :=
  over
end Go.Proofs.Ytfkhjbfddeahaaa.diskSafe
