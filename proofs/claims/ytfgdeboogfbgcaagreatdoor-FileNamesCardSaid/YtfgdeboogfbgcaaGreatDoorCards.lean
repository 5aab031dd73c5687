/-
  DERIVED. GIVEN WITH THE SEED: THE CARDS: each row of YtfgdeboogfbgcaaGreatDoorRows.lean that lists a variable, with what it lists TIED to the program's text (the seventh form; the later family's looks); each row that meets fmt, with fmt's text TOLD by the authors' own Lean function (tested against real Go, not proved from fmt's source: count such statements apart). THE CARD IS WHAT COUNTS. Prove the row's statement (the work); the ties are given (YtfgdeboogfbgcaaGreatDoorTie.lean); close each card by the builder's one call (the guide's Derived/Test/ToyasCard.lean, 'card_holds'). Laid BY PROGRAM, IN A SANDBOX (cutbox-door.mjs). By AI agents, Wed Nov 11 2026. No macro, syntax, notation, axiom, sorry.
-/
import Derived.Test.YtfgdeboogfbgcaaGreatDoorRows
import GoSem.ClaimSeven
namespace Go.Proofs.YtfgdeboogfbgcaaGreatDoor
namespace Rows

/-- THE TIED CARD OF 'heartwoodlaw18.AuditNames'. -/
def auditNamesCard : Claim7 := { stood := { row := auditNamesRow, standIns := [], harness := (true, "f47d2bd2cfa9173cef4a672a5e263f469d7955584e37083b75e3ec6bcea46467"), looks := false }, kinds := [], alts := [], laidByText := true, laidKinds := [.data, .pinned], laidTests := true, laidLooks := .later }
def AuditNamesCardSaid : Prop := Claim7.holds Tryz.pinned (.plain (OpenSpec.ofChange auditNamesSpec)) auditNamesCard

/-- THE TIED CARD OF 'heartwoodlaw13.FileNames'. -/
def fileNamesCard : Claim7 := { stood := { row := fileNamesRow, standIns := [], harness := (true, "f47d2bd2cfa9173cef4a672a5e263f469d7955584e37083b75e3ec6bcea46467"), looks := false }, kinds := [], alts := [], laidByText := true, laidKinds := [.data, .pinned], laidTests := true, laidLooks := .later }
def FileNamesCardSaid : Prop := Claim7.holds Tryz.pinned (.plain (OpenSpec.ofChange fileNamesSpec)) fileNamesCard

/-- THE TIED CARD OF 'heartwoodlaw14.StoreNames'. -/
def storeNamesCard : Claim7 := { stood := { row := storeNamesRow, standIns := [], harness := (true, "f47d2bd2cfa9173cef4a672a5e263f469d7955584e37083b75e3ec6bcea46467"), looks := false }, kinds := [], alts := [], laidByText := true, laidKinds := [.data, .pinned], laidTests := true, laidLooks := .later }
def StoreNamesCardSaid : Prop := Claim7.holds Tryz.pinned (.plain (OpenSpec.ofChange storeNamesSpec)) storeNamesCard

/-- THE SECOND FORM's CARD OF 'heartwoodlaw18.AuditNames'. -/
def auditNamesUptoCard : Claim7 := { stood := { row := auditNamesUptoRow, standIns := [], harness := (true, "f47d2bd2cfa9173cef4a672a5e263f469d7955584e37083b75e3ec6bcea46467"), looks := false }, kinds := [], alts := [], laidByText := true, laidKinds := [.data, .pinned], laidTests := true, laidLooks := .later }
def AuditNamesUptoCardSaid : Prop := Claim7.holds Tryz.pinned (.plain (OpenSpec.upto auditNamesSpec)) auditNamesUptoCard

/-- THE SECOND FORM's CARD OF 'heartwoodlaw13.FileNames'. -/
def fileNamesUptoCard : Claim7 := { stood := { row := fileNamesUptoRow, standIns := [], harness := (true, "f47d2bd2cfa9173cef4a672a5e263f469d7955584e37083b75e3ec6bcea46467"), looks := false }, kinds := [], alts := [], laidByText := true, laidKinds := [.data, .pinned], laidTests := true, laidLooks := .later }
def FileNamesUptoCardSaid : Prop := Claim7.holds Tryz.pinned (.plain (OpenSpec.upto fileNamesSpec)) fileNamesUptoCard

/-- THE SECOND FORM's CARD OF 'heartwoodlaw14.StoreNames'. -/
def storeNamesUptoCard : Claim7 := { stood := { row := storeNamesUptoRow, standIns := [], harness := (true, "f47d2bd2cfa9173cef4a672a5e263f469d7955584e37083b75e3ec6bcea46467"), looks := false }, kinds := [], alts := [], laidByText := true, laidKinds := [.data, .pinned], laidTests := true, laidLooks := .later }
def StoreNamesUptoCardSaid : Prop := Claim7.holds Tryz.pinned (.plain (OpenSpec.upto storeNamesSpec)) storeNamesUptoCard
end Rows
end Go.Proofs.YtfgdeboogfbgcaaGreatDoor
