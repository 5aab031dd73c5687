/-
  DERIVED. GIVEN WITH THE SEED: THE CARDS: each row of YtlodmlmlmkcpkaaGreatDoorRows.lean that lists a variable, with what it lists TIED to the program's text (the seventh form; the later family's looks); each row that meets fmt, with fmt's text TOLD by the authors' own Lean function (tested against real Go, not proved from fmt's source: count such statements apart). THE CARD IS WHAT COUNTS. Prove the row's statement (the work); the ties are given (YtlodmlmlmkcpkaaGreatDoorTie.lean); close each card by the builder's one call (the guide's Derived/Test/ToyasCard.lean, 'card_holds'). Laid BY PROGRAM, IN A SANDBOX (cutbox-door.mjs). By AI agents, Wed Nov 11 2026. No macro, syntax, notation, axiom, sorry.
-/
import Derived.Test.YtlodmlmlmkcpkaaGreatDoorRows
import GoSem.ClaimSeven
namespace Go.Proofs.YtlodmlmlmkcpkaaGreatDoor
namespace Rows

/-- THE TIED CARD OF 'heartwoodlaw24.FollowNil'. -/
def followNilCard : Claim7 := { stood := { row := followNilRow, standIns := [], harness := (true, "d594e78e25df40f56bf96048c05b0e7a5d3a0ebce3d4e32eab3b78dbffde1870"), looks := false }, kinds := [], alts := [], laidByText := true, laidKinds := [.data, .pinned], laidTests := true, laidLooks := .later }
def FollowNilCardSaid : Prop := Claim7.holds Tryz.pinned (.plain (OpenSpec.ofChange followNilSpec)) followNilCard

/-- THE SECOND FORM's CARD OF 'heartwoodlaw24.FollowNil'. -/
def followNilUptoCard : Claim7 := { stood := { row := followNilUptoRow, standIns := [], harness := (true, "d594e78e25df40f56bf96048c05b0e7a5d3a0ebce3d4e32eab3b78dbffde1870"), looks := false }, kinds := [], alts := [], laidByText := true, laidKinds := [.data, .pinned], laidTests := true, laidLooks := .later }
def FollowNilUptoCardSaid : Prop := Claim7.holds Tryz.pinned (.plain (OpenSpec.upto followNilSpec)) followNilUptoCard
end Rows
end Go.Proofs.YtlodmlmlmkcpkaaGreatDoor
