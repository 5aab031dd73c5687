/- 'FollowNil' answers true. No condition. Its code is evaluated by Lean's kernel in a canonical semantics of the core code; the other texts prove that the model's run comes to the same. -/
import Derived.Test.YtlodmlmlmkcpkaaGreatDoorFo16
import Derived.Test.YtlodmlmlmkcpkaaGreatDoorRows
import Derived.Test.YtlodmlmlmkcpkaaGreatDoorTie
import Derived.Test.YtlodmlmlmkcpkaaGreatDoorCards
import Derived.LaidMore
import Derived.Lay
import Derived.SevenTiedAt
import Derived.Stop.Joined
import Derived.WalkKit
import Derived.ProofKit
import Derived.OpenShut
namespace Go.Proofs.YtlodmlmlmkcpkaaGreatDoor.followNil
open Go.ChangeShapes Go.WideShapes Go.ChangeAt Go.RowKit Go.Cn
set_option linter.unusedVariables false

theorem over : Rows.followNilRow.holds Tryz.pinned (OpenSpec.ofChange Rows.followNilSpec) :=
  OpenClaim.holds_of_wide 3 Tryz.f3 rfl rfl rfl rfl rfl rfl rfl ⟨rfl, rfl, rfl, rfl, rfl⟩ rfl rfl rfl rfl rfl named Tryz.func3 closed
    (of_decide_eq_true (by kernel_rfl)) wrapper
    (fun os started H enc _ => lifted os started H enc)

theorem p4 : false = Tryz.pinned.checked.prog.looks [] := by kernel_rfl
theorem proved : Rows.FollowNilCardSaid :=
  Claim7.holds_tied_plain_at .later [] [.data, .pinned] true (true, "d594e78e25df40f56bf96048c05b0e7a5d3a0ebce3d4e32eab3b78dbffde1870") false over (fun _ h => by cases h) p1 (fun _ h => by cases h) followNil_row_tie rfl ⟨rfl, rfl⟩ p2 rfl
    (fun f fn hf hfn => by
      obtain rfl : f = 3 := Option.some.inj (p3.symm.trans hf) |>.symm
      obtain rfl : fn = Tryz.f3 := (Option.some.inj (Tryz.func3.symm.trans hfn)).symm
      exact ⟨p4, fun j t ht => by
        rw [Tryz.params3] at ht
        simp at ht⟩)
    p5
end Go.Proofs.YtlodmlmlmkcpkaaGreatDoor.followNil
