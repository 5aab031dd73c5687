/-
  No cell of these rows narrows 'for every input' (looked for: loops, veiled, ifaces, maps, wideKeys, modest, calm, conditions, laid).
  DERIVED. THE GIVEN ROWS OF THIS SEAT. 11 by the template 'for every input the law returns true; each argument reads behind the call as it read before'; 0 by the template 'total and deterministic' (their statements: YtfkhjbfddeahaaaTotals.lean).
  GIVEN WITH THE SEED: the statements are not yours to turn. If you find one false, say at which input.
  Laid BY PROGRAM, IN A SANDBOX (cutbox-rows.mjs): the forced cells as the released guide's own fill.sh prints them over the translation 98df2a797cebf171… (all of the seat's roots in one cut). By AI agents, Wed Nov 11 2026. No macro, syntax, notation, axiom, sorry.
-/
import Derived.Test.YtfkhjbfddeahaaaChecked
import GoSem.Claim
import GoSem.ClaimJoined
import GoSem.ClaimMapViews
import Derived.JoinedTies
import Derived.KernelRfl
namespace Go.Proofs.Ytfkhjbfddeahaaa
/- THE CELL 'sum', in the pinned program and in every row, IS THE sha256 OF THE DUMP (.gsa) THAT YtfkhjbfddeahaaaProg.lean LOADS. Nothing in Lean hashes anything: it is a label: what it is worth is what the hold of that sum in a sandbox is worth. -/
noncomputable def Try.pinned : Pinned := { name := "ytfkhjbfddeahaaa", sum := "98df2a797cebf171fc267166077bd7659a6adda52f56ceb3f4115e8342a09dd0", checked := Try.checked }
namespace Rows
def none {H : Type} : Left H := { results := [], args := [] }

/-- 'heartwoodlaw23.DiffNames': WHATEVER THE INPUT: true; the input reads as it did. -/
def diffNamesSpec : ChangeSpec := { name := "diffNames", fn := fun _ => fun
  | [] => { results := [.lit (.bool true)], args := [] }
  | _ => none }
def diffNamesRow : OpenClaim := { program := "ytfkhjbfddeahaaa", sum := "98df2a797cebf171fc267166077bd7659a6adda52f56ceb3f4115e8342a09dd0", func := "heartwood/heartwoodlaw23.DiffNames", spec := "diffNames", apart := false }
def DiffNamesSaid : Prop := diffNamesRow.holds Try.pinned (OpenSpec.ofChange diffNamesSpec)

/-- ITS FALSE NEIGHBOUR: 'it returns false'. Refute it at one input. -/
def diffNamesWrong : ChangeSpec := { name := "diffNames", fn := fun _ => fun
  | [] => { results := [.lit (.bool false)], args := [] }
  | _ => none }
def DiffNamesWrongFalsely : Prop := diffNamesRow.holds Try.pinned (OpenSpec.ofChange diffNamesWrong)

/-- 'heartwoodlaw23.DiffChecks': WHATEVER THE INPUT: true; the input reads as it did. -/
def diffChecksSpec : ChangeSpec := { name := "diffChecks", fn := fun _ => fun
  | [d] => { results := [.lit (.bool true)], args := [d] }
  | _ => none }
def diffChecksRow : OpenClaim := { program := "ytfkhjbfddeahaaa", sum := "98df2a797cebf171fc267166077bd7659a6adda52f56ceb3f4115e8342a09dd0", func := "heartwood/heartwoodlaw23.DiffChecks", spec := "diffChecks", apart := false }
def DiffChecksSaid : Prop := diffChecksRow.holds Try.pinned (OpenSpec.ofChange diffChecksSpec)

/-- ITS FALSE NEIGHBOUR: 'it returns false'. Refute it at one input. -/
def diffChecksWrong : ChangeSpec := { name := "diffChecks", fn := fun _ => fun
  | [d] => { results := [.lit (.bool false)], args := [d] }
  | _ => none }
def DiffChecksWrongFalsely : Prop := diffChecksRow.holds Try.pinned (OpenSpec.ofChange diffChecksWrong)

/-- 'heartwoodlaw23.DiffBacks': WHATEVER THE INPUT: true; the input reads as it did. -/
def diffBacksSpec : ChangeSpec := { name := "diffBacks", fn := fun _ => fun
  | [d] => { results := [.lit (.bool true)], args := [d] }
  | _ => none }
def diffBacksRow : OpenClaim := { program := "ytfkhjbfddeahaaa", sum := "98df2a797cebf171fc267166077bd7659a6adda52f56ceb3f4115e8342a09dd0", func := "heartwood/heartwoodlaw23.DiffBacks", spec := "diffBacks", apart := false }
def DiffBacksSaid : Prop := diffBacksRow.holds Try.pinned (OpenSpec.ofChange diffBacksSpec)

/-- ITS FALSE NEIGHBOUR: 'it returns false'. Refute it at one input. -/
def diffBacksWrong : ChangeSpec := { name := "diffBacks", fn := fun _ => fun
  | [d] => { results := [.lit (.bool false)], args := [d] }
  | _ => none }
def DiffBacksWrongFalsely : Prop := diffBacksRow.holds Try.pinned (OpenSpec.ofChange diffBacksWrong)

/-- 'heartwoodlaw23.DiffThens': WHATEVER THE INPUT: true; the input reads as it did. -/
def diffThensSpec : ChangeSpec := { name := "diffThens", fn := fun _ => fun
  | [d1, d2] => { results := [.lit (.bool true)], args := [d1, d2] }
  | _ => none }
def diffThensRow : OpenClaim := { program := "ytfkhjbfddeahaaa", sum := "98df2a797cebf171fc267166077bd7659a6adda52f56ceb3f4115e8342a09dd0", func := "heartwood/heartwoodlaw23.DiffThens", spec := "diffThens", apart := false }
def DiffThensSaid : Prop := diffThensRow.holds Try.pinned (OpenSpec.ofChange diffThensSpec)

/-- ITS FALSE NEIGHBOUR: 'it returns false'. Refute it at one input. -/
def diffThensWrong : ChangeSpec := { name := "diffThens", fn := fun _ => fun
  | [d1, d2] => { results := [.lit (.bool false)], args := [d1, d2] }
  | _ => none }
def DiffThensWrongFalsely : Prop := diffThensRow.holds Try.pinned (OpenSpec.ofChange diffThensWrong)

/-- 'heartwoodlaw23.DiffGroups': WHATEVER THE INPUT: true; the input reads as it did. -/
def diffGroupsSpec : ChangeSpec := { name := "diffGroups", fn := fun _ => fun
  | [d1, d2, d3] => { results := [.lit (.bool true)], args := [d1, d2, d3] }
  | _ => none }
def diffGroupsRow : OpenClaim := { program := "ytfkhjbfddeahaaa", sum := "98df2a797cebf171fc267166077bd7659a6adda52f56ceb3f4115e8342a09dd0", func := "heartwood/heartwoodlaw23.DiffGroups", spec := "diffGroups", apart := false }
def DiffGroupsSaid : Prop := diffGroupsRow.holds Try.pinned (OpenSpec.ofChange diffGroupsSpec)

/-- ITS FALSE NEIGHBOUR: 'it returns false'. Refute it at one input. -/
def diffGroupsWrong : ChangeSpec := { name := "diffGroups", fn := fun _ => fun
  | [d1, d2, d3] => { results := [.lit (.bool false)], args := [d1, d2, d3] }
  | _ => none }
def DiffGroupsWrongFalsely : Prop := diffGroupsRow.holds Try.pinned (OpenSpec.ofChange diffGroupsWrong)

/-- 'heartwoodlaw04.DiskNames': WHATEVER THE INPUT: true; the input reads as it did. -/
def diskNamesSpec : ChangeSpec := { name := "diskNames", fn := fun _ => fun
  | [] => { results := [.lit (.bool true)], args := [] }
  | _ => none }
def diskNamesRow : OpenClaim := { program := "ytfkhjbfddeahaaa", sum := "98df2a797cebf171fc267166077bd7659a6adda52f56ceb3f4115e8342a09dd0", func := "heartwood/heartwoodlaw04.DiskNames", spec := "diskNames", unfollowed := true, recurses := true, apart := false }
def DiskNamesSaid : Prop := diskNamesRow.holds Try.pinned (OpenSpec.ofChange diskNamesSpec)

/-- ITS FALSE NEIGHBOUR: 'it returns false'. Refute it at one input. -/
def diskNamesWrong : ChangeSpec := { name := "diskNames", fn := fun _ => fun
  | [] => { results := [.lit (.bool false)], args := [] }
  | _ => none }
def DiskNamesWrongFalsely : Prop := diskNamesRow.holds Try.pinned (OpenSpec.ofChange diskNamesWrong)

/-- 'heartwoodlaw04.DiskSafe': WHATEVER THE INPUT: true; the input reads as it did. -/
def diskSafeSpec : ChangeSpec := { name := "diskSafe", fn := fun _ => fun
  | [d1, d2] => { results := [.lit (.bool true)], args := [d1, d2] }
  | _ => none }
def diskSafeRow : OpenClaim := { program := "ytfkhjbfddeahaaa", sum := "98df2a797cebf171fc267166077bd7659a6adda52f56ceb3f4115e8342a09dd0", func := "heartwood/heartwoodlaw04.DiskSafe", spec := "diskSafe", unfollowed := true, recurses := true, apart := false }
def DiskSafeSaid : Prop := diskSafeRow.holds Try.pinned (OpenSpec.ofChange diskSafeSpec)

/-- ITS FALSE NEIGHBOUR: 'it returns false'. Refute it at one input. -/
def diskSafeWrong : ChangeSpec := { name := "diskSafe", fn := fun _ => fun
  | [d1, d2] => { results := [.lit (.bool false)], args := [d1, d2] }
  | _ => none }
def DiskSafeWrongFalsely : Prop := diskSafeRow.holds Try.pinned (OpenSpec.ofChange diskSafeWrong)

/-- 'heartwoodlaw04.DiskForks': WHATEVER THE INPUT: true; the input reads as it did. -/
def diskForksSpec : ChangeSpec := { name := "diskForks", fn := fun _ => fun
  | [d1, d2, d3] => { results := [.lit (.bool true)], args := [d1, d2, d3] }
  | _ => none }
def diskForksRow : OpenClaim := { program := "ytfkhjbfddeahaaa", sum := "98df2a797cebf171fc267166077bd7659a6adda52f56ceb3f4115e8342a09dd0", func := "heartwood/heartwoodlaw04.DiskForks", spec := "diskForks", unfollowed := true, recurses := true, apart := false }
def DiskForksSaid : Prop := diskForksRow.holds Try.pinned (OpenSpec.ofChange diskForksSpec)

/-- ITS FALSE NEIGHBOUR: 'it returns false'. Refute it at one input. -/
def diskForksWrong : ChangeSpec := { name := "diskForks", fn := fun _ => fun
  | [d1, d2, d3] => { results := [.lit (.bool false)], args := [d1, d2, d3] }
  | _ => none }
def DiskForksWrongFalsely : Prop := diskForksRow.holds Try.pinned (OpenSpec.ofChange diskForksWrong)

/-- 'heartwoodlaw04.DiskMakes': WHATEVER THE INPUT: true; the input reads as it did. -/
def diskMakesSpec : ChangeSpec := { name := "diskMakes", fn := fun _ => fun
  | [d1, d2, d3] => { results := [.lit (.bool true)], args := [d1, d2, d3] }
  | _ => none }
def diskMakesRow : OpenClaim := { program := "ytfkhjbfddeahaaa", sum := "98df2a797cebf171fc267166077bd7659a6adda52f56ceb3f4115e8342a09dd0", func := "heartwood/heartwoodlaw04.DiskMakes", spec := "diskMakes", unfollowed := true, recurses := true, apart := false }
def DiskMakesSaid : Prop := diskMakesRow.holds Try.pinned (OpenSpec.ofChange diskMakesSpec)

/-- ITS FALSE NEIGHBOUR: 'it returns false'. Refute it at one input. -/
def diskMakesWrong : ChangeSpec := { name := "diskMakes", fn := fun _ => fun
  | [d1, d2, d3] => { results := [.lit (.bool false)], args := [d1, d2, d3] }
  | _ => none }
def DiskMakesWrongFalsely : Prop := diskMakesRow.holds Try.pinned (OpenSpec.ofChange diskMakesWrong)

/-- 'heartwoodlaw04.DiskArms': WHATEVER THE INPUT: true; the input reads as it did. -/
def diskArmsSpec : ChangeSpec := { name := "diskArms", fn := fun _ => fun
  | [d1, d2, d3, d4] => { results := [.lit (.bool true)], args := [d1, d2, d3, d4] }
  | _ => none }
def diskArmsRow : OpenClaim := { program := "ytfkhjbfddeahaaa", sum := "98df2a797cebf171fc267166077bd7659a6adda52f56ceb3f4115e8342a09dd0", func := "heartwood/heartwoodlaw04.DiskArms", spec := "diskArms", unfollowed := true, recurses := true, apart := false }
def DiskArmsSaid : Prop := diskArmsRow.holds Try.pinned (OpenSpec.ofChange diskArmsSpec)

/-- ITS FALSE NEIGHBOUR: 'it returns false'. Refute it at one input. -/
def diskArmsWrong : ChangeSpec := { name := "diskArms", fn := fun _ => fun
  | [d1, d2, d3, d4] => { results := [.lit (.bool false)], args := [d1, d2, d3, d4] }
  | _ => none }
def DiskArmsWrongFalsely : Prop := diskArmsRow.holds Try.pinned (OpenSpec.ofChange diskArmsWrong)

/-- 'heartwoodlaw04.DiskPlays': WHATEVER THE INPUT: true; the input reads as it did. -/
def diskPlaysSpec : ChangeSpec := { name := "diskPlays", fn := fun _ => fun
  | [d] => { results := [.lit (.bool true)], args := [d] }
  | _ => none }
def diskPlaysRow : OpenClaim := { program := "ytfkhjbfddeahaaa", sum := "98df2a797cebf171fc267166077bd7659a6adda52f56ceb3f4115e8342a09dd0", func := "heartwood/heartwoodlaw04.DiskPlays", spec := "diskPlays", unfollowed := true, recurses := true, apart := false }
def DiskPlaysSaid : Prop := diskPlaysRow.holds Try.pinned (OpenSpec.ofChange diskPlaysSpec)

/-- ITS FALSE NEIGHBOUR: 'it returns false'. Refute it at one input. -/
def diskPlaysWrong : ChangeSpec := { name := "diskPlays", fn := fun _ => fun
  | [d] => { results := [.lit (.bool false)], args := [d] }
  | _ => none }
def DiskPlaysWrongFalsely : Prop := diskPlaysRow.holds Try.pinned (OpenSpec.ofChange diskPlaysWrong)

/- THE SECOND FORM. 'bulk': how many values and letters a reading holds, each counted each time it is reached (what is shared counts as often as it is met; a slice's spare places count too). A statement '..UptoSaid' is the law's where the arguments, and the package variables that the reading takes, are together of bulk at most 1048576: NARROWER than '..Said'. Prove '..Said' where nothing that the law and all that it calls make is longer than what came in: it says more and counts as full. Else prove '..UptoSaid'. A law counts once. -/
mutual
def uptoBulk {H : Type} : DataW H → Nat
  | .lit (.string bytes) => bytes.length + 1
  | .lit _ => 1
  | .nil => 1
  | .ptr d => uptoBulk d + 1
  | .slice elems spare => uptoBulkAll elems + uptoBulkAll spare + 1
  | .agg parts => uptoBulkAll parts + 1
  | .iface _ d => uptoBulk d + 1
  | .map entries => uptoBulkEntries entries + 1
  | .held _ => 1
def uptoBulkAll {H : Type} : List (DataW H) → Nat
  | [] => 0
  | d :: r => uptoBulk d + uptoBulkAll r
def uptoBulkEntries {H : Type} : List (Lit × DataW H) → Nat
  | [] => 0
  | x :: r => uptoBulkEntry x + uptoBulkEntries r
def uptoBulkEntry {H : Type} : Lit × DataW H → Nat
  | (.string bytes, d) => bytes.length + uptoBulk d + 1
  | (_, d) => uptoBulk d + 1
 end
def uptoSmall : (H : Type) → List (DataW H) → Bool := fun _ ds => decide (uptoBulkAll ds ≤ 1048576)
def OpenSpec.upto (s : _root_.Go.ChangeSpec) : _root_.Go.OpenSpec := { _root_.Go.OpenSpec.ofChange s with cond := some uptoSmall }

/-- 'heartwoodlaw23.DiffNames', WHERE WHAT IT READS IS OF BULK AT MOST 1048576: true; the input reads as it did. -/
def diffNamesUptoRow : OpenClaim := { program := "ytfkhjbfddeahaaa", sum := "98df2a797cebf171fc267166077bd7659a6adda52f56ceb3f4115e8342a09dd0", func := "heartwood/heartwoodlaw23.DiffNames", spec := "diffNames", apart := false, narrowed := true }
def DiffNamesUptoSaid : Prop := diffNamesUptoRow.holds Try.pinned (OpenSpec.upto diffNamesSpec)

/-- 'heartwoodlaw23.DiffChecks', WHERE WHAT IT READS IS OF BULK AT MOST 1048576: true; the input reads as it did. -/
def diffChecksUptoRow : OpenClaim := { program := "ytfkhjbfddeahaaa", sum := "98df2a797cebf171fc267166077bd7659a6adda52f56ceb3f4115e8342a09dd0", func := "heartwood/heartwoodlaw23.DiffChecks", spec := "diffChecks", apart := false, narrowed := true }
def DiffChecksUptoSaid : Prop := diffChecksUptoRow.holds Try.pinned (OpenSpec.upto diffChecksSpec)

/-- 'heartwoodlaw23.DiffBacks', WHERE WHAT IT READS IS OF BULK AT MOST 1048576: true; the input reads as it did. -/
def diffBacksUptoRow : OpenClaim := { program := "ytfkhjbfddeahaaa", sum := "98df2a797cebf171fc267166077bd7659a6adda52f56ceb3f4115e8342a09dd0", func := "heartwood/heartwoodlaw23.DiffBacks", spec := "diffBacks", apart := false, narrowed := true }
def DiffBacksUptoSaid : Prop := diffBacksUptoRow.holds Try.pinned (OpenSpec.upto diffBacksSpec)

/-- 'heartwoodlaw23.DiffThens', WHERE WHAT IT READS IS OF BULK AT MOST 1048576: true; the input reads as it did. -/
def diffThensUptoRow : OpenClaim := { program := "ytfkhjbfddeahaaa", sum := "98df2a797cebf171fc267166077bd7659a6adda52f56ceb3f4115e8342a09dd0", func := "heartwood/heartwoodlaw23.DiffThens", spec := "diffThens", apart := false, narrowed := true }
def DiffThensUptoSaid : Prop := diffThensUptoRow.holds Try.pinned (OpenSpec.upto diffThensSpec)

/-- 'heartwoodlaw23.DiffGroups', WHERE WHAT IT READS IS OF BULK AT MOST 1048576: true; the input reads as it did. -/
def diffGroupsUptoRow : OpenClaim := { program := "ytfkhjbfddeahaaa", sum := "98df2a797cebf171fc267166077bd7659a6adda52f56ceb3f4115e8342a09dd0", func := "heartwood/heartwoodlaw23.DiffGroups", spec := "diffGroups", apart := false, narrowed := true }
def DiffGroupsUptoSaid : Prop := diffGroupsUptoRow.holds Try.pinned (OpenSpec.upto diffGroupsSpec)

/-- 'heartwoodlaw04.DiskNames', WHERE WHAT IT READS IS OF BULK AT MOST 1048576: true; the input reads as it did. -/
def diskNamesUptoRow : OpenClaim := { program := "ytfkhjbfddeahaaa", sum := "98df2a797cebf171fc267166077bd7659a6adda52f56ceb3f4115e8342a09dd0", func := "heartwood/heartwoodlaw04.DiskNames", spec := "diskNames", unfollowed := true, recurses := true, apart := false, narrowed := true }
def DiskNamesUptoSaid : Prop := diskNamesUptoRow.holds Try.pinned (OpenSpec.upto diskNamesSpec)

/-- 'heartwoodlaw04.DiskSafe', WHERE WHAT IT READS IS OF BULK AT MOST 1048576: true; the input reads as it did. -/
def diskSafeUptoRow : OpenClaim := { program := "ytfkhjbfddeahaaa", sum := "98df2a797cebf171fc267166077bd7659a6adda52f56ceb3f4115e8342a09dd0", func := "heartwood/heartwoodlaw04.DiskSafe", spec := "diskSafe", unfollowed := true, recurses := true, apart := false, narrowed := true }
def DiskSafeUptoSaid : Prop := diskSafeUptoRow.holds Try.pinned (OpenSpec.upto diskSafeSpec)

/-- 'heartwoodlaw04.DiskForks', WHERE WHAT IT READS IS OF BULK AT MOST 1048576: true; the input reads as it did. -/
def diskForksUptoRow : OpenClaim := { program := "ytfkhjbfddeahaaa", sum := "98df2a797cebf171fc267166077bd7659a6adda52f56ceb3f4115e8342a09dd0", func := "heartwood/heartwoodlaw04.DiskForks", spec := "diskForks", unfollowed := true, recurses := true, apart := false, narrowed := true }
def DiskForksUptoSaid : Prop := diskForksUptoRow.holds Try.pinned (OpenSpec.upto diskForksSpec)

/-- 'heartwoodlaw04.DiskMakes', WHERE WHAT IT READS IS OF BULK AT MOST 1048576: true; the input reads as it did. -/
def diskMakesUptoRow : OpenClaim := { program := "ytfkhjbfddeahaaa", sum := "98df2a797cebf171fc267166077bd7659a6adda52f56ceb3f4115e8342a09dd0", func := "heartwood/heartwoodlaw04.DiskMakes", spec := "diskMakes", unfollowed := true, recurses := true, apart := false, narrowed := true }
def DiskMakesUptoSaid : Prop := diskMakesUptoRow.holds Try.pinned (OpenSpec.upto diskMakesSpec)

/-- 'heartwoodlaw04.DiskArms', WHERE WHAT IT READS IS OF BULK AT MOST 1048576: true; the input reads as it did. -/
def diskArmsUptoRow : OpenClaim := { program := "ytfkhjbfddeahaaa", sum := "98df2a797cebf171fc267166077bd7659a6adda52f56ceb3f4115e8342a09dd0", func := "heartwood/heartwoodlaw04.DiskArms", spec := "diskArms", unfollowed := true, recurses := true, apart := false, narrowed := true }
def DiskArmsUptoSaid : Prop := diskArmsUptoRow.holds Try.pinned (OpenSpec.upto diskArmsSpec)

/-- 'heartwoodlaw04.DiskPlays', WHERE WHAT IT READS IS OF BULK AT MOST 1048576: true; the input reads as it did. -/
def diskPlaysUptoRow : OpenClaim := { program := "ytfkhjbfddeahaaa", sum := "98df2a797cebf171fc267166077bd7659a6adda52f56ceb3f4115e8342a09dd0", func := "heartwood/heartwoodlaw04.DiskPlays", spec := "diskPlays", unfollowed := true, recurses := true, apart := false, narrowed := true }
def DiskPlaysUptoSaid : Prop := diskPlaysUptoRow.holds Try.pinned (OpenSpec.upto diskPlaysSpec)

end Rows
end Go.Proofs.Ytfkhjbfddeahaaa
