/-
  DERIVED. GIVEN WITH THE SEED: THE CARDS: each row of YtbcpmnnlhdgbhaaGreatDoorRows.lean that lists a variable, with what it lists TIED to the program's text (the seventh form; the later family's looks); each row that meets fmt, with fmt's text TOLD by the authors' own Lean function (tested against real Go, not proved from fmt's source: count such statements apart). THE CARD IS WHAT COUNTS. Prove the row's statement (the work); the ties are given (YtbcpmnnlhdgbhaaGreatDoorTie.lean); close each card by the builder's one call (the guide's Derived/Test/ToyasCard.lean, 'card_holds'). Laid BY PROGRAM, IN A SANDBOX (cutbox-door.mjs). By AI agents, Wed Nov 11 2026. No macro, syntax, notation, axiom, sorry.
-/
import Derived.Test.YtbcpmnnlhdgbhaaGreatDoorRows
import GoSem.ClaimSeven
namespace Go.Proofs.YtbcpmnnlhdgbhaaGreatDoor
namespace Rows

/-- THE TIED CARD OF 'beaconlaw16.PublisherNil'. -/
def publisherNilCard : Claim7 := { stood := { row := publisherNilRow, standIns := [], harness := (true, "83c3d0e73a2fd67d34063985749560b1d4a3afa189faf242f73f68eebc2c063b"), looks := false }, kinds := [], alts := [], laidByText := true, laidKinds := [.wider, .data, .data], laidTests := true, laidLooks := .later }
def PublisherNilCardSaid : Prop := Claim7.holds Tryz.pinned (.plain (OpenSpec.ofChange publisherNilSpec)) publisherNilCard

/-- THE SECOND FORM's CARD OF 'beaconlaw16.PublisherNil'. -/
def publisherNilUptoCard : Claim7 := { stood := { row := publisherNilUptoRow, standIns := [], harness := (true, "83c3d0e73a2fd67d34063985749560b1d4a3afa189faf242f73f68eebc2c063b"), looks := false }, kinds := [], alts := [], laidByText := true, laidKinds := [.wider, .data, .data], laidTests := true, laidLooks := .later }
def PublisherNilUptoCardSaid : Prop := Claim7.holds Tryz.pinned (.plain (OpenSpec.upto publisherNilSpec)) publisherNilUptoCard
end Rows
end Go.Proofs.YtbcpmnnlhdgbhaaGreatDoor
