/- Joined: FileNamesE. -/
import Derived.Test.YtfgdeboogfbgcaaGreatDoorFn15
import Derived.Test.YtfgdeboogfbgcaaGreatDoorRows
/- 'FileNames' evaluated (a text of its own: memory). -/
namespace Go.Proofs.YtfgdeboogfbgcaaGreatDoor.fileNames
open Go.ChangeShapes Go.WideShapes Go.ChangeAt Go.RowKit Go.Cn
set_option linter.unusedVariables false

theorem own : ownKnob Tryz.prog.godebug = none := by kernel_rfl

theorem evald : xK Tryz.prog 30000 pk.nat3 100 4 [] Hp.empty (fun v _ => match v with | .bool b => b | _ => false) = true := by kernel_rfl

theorem walk (w : World) : Calls Tryz.prog 4 #[] w fun e w' => e = .returned (.bool true) ∧ Below w.heap.size w w' :=
  closed_scalls (of_decide_eq_true (by kernel_rfl)) (closedK_bool sb.fol pk.nat3_ok evald) w

end Go.Proofs.YtfgdeboogfbgcaaGreatDoor.fileNames
