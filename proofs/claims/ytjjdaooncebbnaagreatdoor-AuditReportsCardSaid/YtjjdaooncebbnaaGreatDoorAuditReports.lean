/- 'AuditReports' answers true of all inputs, and leaves them as they were. No condition. The other texts prove that the model's run comes to what a canonical semantics of the core code says. -/
import Derived.Test.YtjjdaooncebbnaaGreatDoorAr17
import Derived.Test.YtjjdaooncebbnaaGreatDoorRows
import Derived.Test.YtjjdaooncebbnaaGreatDoorTie
import Derived.Test.YtjjdaooncebbnaaGreatDoorCards
import Derived.LaidMore
import Derived.Lay
import Derived.SevenTiedAt
import Derived.Stop.Joined
import Derived.WalkKit
import Derived.ProofKit
import Derived.OpenShut
namespace Go.Proofs.YtjjdaooncebbnaaGreatDoor.auditReports
open Go.ChangeShapes Go.WideShapes Go.ChangeAt Go.RowKit Go.Cn
set_option linter.unusedVariables false

theorem over : Rows.auditReportsRow.holds Tryz.pinned (OpenSpec.ofChange Rows.auditReportsSpec) :=
  OpenClaim.holds_of_wide 3 Tryz.f3 rfl rfl rfl rfl rfl rfl rfl ⟨rfl, rfl, rfl, rfl, rfl⟩ rfl rfl rfl rfl rfl named Tryz.func3 closed
    (of_decide_eq_true (by kernel_rfl)) wrapper
    (fun os started H enc _ => lifted os started H enc)

theorem p4 : true = Tryz.pinned.checked.prog.looks [] := by kernel_rfl
theorem proved : Rows.AuditReportsCardSaid :=
  Claim7.holds_tied_plain_at .later [] [.data, .pinned] true (true, "2f891e697743a20b81d2181a929bc1d0f03b739a8a86c9ffd2c686be9cd4a165") true over (fun _ h => by cases h) p1 (fun _ h => by cases h) auditReports_row_tie rfl ⟨rfl, rfl⟩ p2 rfl
    (fun f fn hf hfn => by
      obtain rfl : f = 3 := Option.some.inj (p3.symm.trans hf) |>.symm
      obtain rfl : fn = Tryz.f3 := (Option.some.inj (Tryz.func3.symm.trans hfn)).symm
      exact ⟨p4, fun j t ht => by
        have := List.all_eq_true.mp noStand t (List.mem_of_getElem? (by simpa using ht))
        show Tryz.prog.wantsStandIn t = false
        simpa using this⟩)
    p5
end Go.Proofs.YtjjdaooncebbnaaGreatDoor.auditReports
