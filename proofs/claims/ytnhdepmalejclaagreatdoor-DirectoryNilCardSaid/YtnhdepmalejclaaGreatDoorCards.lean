/-
  DERIVED. GIVEN WITH THE SEED: THE CARDS: each row of YtnhdepmalejclaaGreatDoorRows.lean that lists a variable, with what it lists TIED to the program's text (the seventh form; the later family's looks); each row that meets fmt, with fmt's text TOLD by the authors' own Lean function (tested against real Go, not proved from fmt's source: count such statements apart). THE CARD IS WHAT COUNTS. Prove the row's statement (the work); the ties are given (YtnhdepmalejclaaGreatDoorTie.lean); close each card by the builder's one call (the guide's Derived/Test/ToyasCard.lean, 'card_holds'). Laid BY PROGRAM, IN A SANDBOX (cutbox-door.mjs). By AI agents, Wed Nov 11 2026. No macro, syntax, notation, axiom, sorry.
-/
import Derived.Test.YtnhdepmalejclaaGreatDoorRows
import GoSem.ClaimSeven
namespace Go.Proofs.YtnhdepmalejclaaGreatDoor
namespace Rows

/-- THE TIED CARD OF 'beaconlaw15.DirectoryNil'. -/
def directoryNilCard : Claim7 := { stood := { row := directoryNilRow, standIns := [], harness := (true, "883a1b5f2d02cbbf8a6f093bf149a95c635a9ed039b9d2e2d735cc354c4f7575"), looks := false }, kinds := [], alts := [], laidByText := true, laidKinds := [.wider, .data, .data], laidTests := true, laidLooks := .later }
def DirectoryNilCardSaid : Prop := Claim7.holds Tryz.pinned (.plain (OpenSpec.ofChange directoryNilSpec)) directoryNilCard

/-- THE SECOND FORM's CARD OF 'beaconlaw15.DirectoryNil'. -/
def directoryNilUptoCard : Claim7 := { stood := { row := directoryNilUptoRow, standIns := [], harness := (true, "883a1b5f2d02cbbf8a6f093bf149a95c635a9ed039b9d2e2d735cc354c4f7575"), looks := false }, kinds := [], alts := [], laidByText := true, laidKinds := [.wider, .data, .data], laidTests := true, laidLooks := .later }
def DirectoryNilUptoCardSaid : Prop := Claim7.holds Tryz.pinned (.plain (OpenSpec.upto directoryNilSpec)) directoryNilUptoCard
end Rows
end Go.Proofs.YtnhdepmalejclaaGreatDoor
