/-
  DERIVED. GIVEN WITH THE SEED: THE CARDS: each row of YtjjdaooncebbnaaGreatDoorRows.lean that lists a variable, with what it lists TIED to the program's text (the seventh form; the later family's looks); each row that meets fmt, with fmt's text TOLD by the authors' own Lean function (tested against real Go, not proved from fmt's source: count such statements apart). THE CARD IS WHAT COUNTS. Prove the row's statement (the work); the ties are given (YtjjdaooncebbnaaGreatDoorTie.lean); close each card by the builder's one call (the guide's Derived/Test/ToyasCard.lean, 'card_holds'). Laid BY PROGRAM, IN A SANDBOX (cutbox-door.mjs). By AI agents, Wed Nov 11 2026. No macro, syntax, notation, axiom, sorry.
-/
import Derived.Test.YtjjdaooncebbnaaGreatDoorRows
import GoSem.ClaimSeven
namespace Go.Proofs.YtjjdaooncebbnaaGreatDoor
namespace Rows

/-- THE TIED CARD OF 'heartwoodlaw18.AuditReports'. -/
def auditReportsCard : Claim7 := { stood := { row := auditReportsRow, standIns := [], harness := (true, "2f891e697743a20b81d2181a929bc1d0f03b739a8a86c9ffd2c686be9cd4a165"), looks := true }, kinds := [], alts := [], laidByText := true, laidKinds := [.data, .pinned], laidTests := true, laidLooks := .later }
def AuditReportsCardSaid : Prop := Claim7.holds Tryz.pinned (.plain (OpenSpec.ofChange auditReportsSpec)) auditReportsCard

/-- THE TIED CARD OF 'heartwoodlaw14.StoreNil'. -/
def storeNilCard : Claim7 := { stood := { row := storeNilRow, standIns := [], harness := (true, "2f891e697743a20b81d2181a929bc1d0f03b739a8a86c9ffd2c686be9cd4a165"), looks := true }, kinds := [], alts := [], laidByText := true, laidKinds := [.data, .pinned], laidTests := true, laidLooks := .later }
def StoreNilCardSaid : Prop := Claim7.holds Tryz.pinned (.plain (OpenSpec.ofChange storeNilSpec)) storeNilCard

/-- THE SECOND FORM's CARD OF 'heartwoodlaw18.AuditReports'. -/
def auditReportsUptoCard : Claim7 := { stood := { row := auditReportsUptoRow, standIns := [], harness := (true, "2f891e697743a20b81d2181a929bc1d0f03b739a8a86c9ffd2c686be9cd4a165"), looks := true }, kinds := [], alts := [], laidByText := true, laidKinds := [.data, .pinned], laidTests := true, laidLooks := .later }
def AuditReportsUptoCardSaid : Prop := Claim7.holds Tryz.pinned (.plain (OpenSpec.upto auditReportsSpec)) auditReportsUptoCard

/-- THE SECOND FORM's CARD OF 'heartwoodlaw14.StoreNil'. -/
def storeNilUptoCard : Claim7 := { stood := { row := storeNilUptoRow, standIns := [], harness := (true, "2f891e697743a20b81d2181a929bc1d0f03b739a8a86c9ffd2c686be9cd4a165"), looks := true }, kinds := [], alts := [], laidByText := true, laidKinds := [.data, .pinned], laidTests := true, laidLooks := .later }
def StoreNilUptoCardSaid : Prop := Claim7.holds Tryz.pinned (.plain (OpenSpec.upto storeNilSpec)) storeNilUptoCard
end Rows
end Go.Proofs.YtjjdaooncebbnaaGreatDoor
