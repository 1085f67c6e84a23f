/-
  DERIVED. GIVEN WITH THE SEED: THE CARDS: each row of YtagjeideohplpaaDoorRows.lean that lists a variable, with what it lists TIED to the program's text (the seventh form; the later family's looks); each row that meets fmt, with fmt's text TOLD by the authors' own Lean function (tested against real Go, not proved from fmt's source: count such statements apart). THE CARD IS WHAT COUNTS. Prove the row's statement (the work); the ties are given (YtagjeideohplpaaDoorTie.lean); close each card by the builder's one call (the guide's Derived/Test/ToyasCard.lean, 'card_holds'). Laid BY PROGRAM, IN A SANDBOX (cutbox-door.mjs). By AI agents, Wed Nov 11 2026. No macro, syntax, notation, axiom, sorry.
-/
import Derived.Test.YtagjeideohplpaaDoorRows
import GoSem.ClaimSeven
namespace Go.Proofs.YtagjeideohplpaaDoor
namespace Rows

/-- THE TIED CARD OF 'beaconlaw03.ScalarReduces'. -/
def scalarReducesCard : Claim7 := { stood := { row := scalarReducesRow, standIns := [], harness := (true, "4cfb604b7ecb1f3885ec450ad38d71a03bb8595ab537600dc3a6a6e2e451314b"), looks := false }, kinds := [], alts := [], laidByText := true, laidKinds := [.wider], laidTests := true, laidLooks := .later }
def ScalarReducesCardSaid : Prop := Claim7.holds Tryd.pinned (.plain (OpenSpec.ofChange scalarReducesSpec)) scalarReducesCard

/-- THE TIED CARD OF 'beaconlaw03.ScalarRing'. -/
def scalarRingCard : Claim7 := { stood := { row := scalarRingRow, standIns := [], harness := (true, "4cfb604b7ecb1f3885ec450ad38d71a03bb8595ab537600dc3a6a6e2e451314b"), looks := false }, kinds := [], alts := [], laidByText := true, laidKinds := [.wider], laidTests := true, laidLooks := .later }
def ScalarRingCardSaid : Prop := Claim7.holds Tryd.pinned (.plain (OpenSpec.ofChange scalarRingSpec)) scalarRingCard

/-- THE TIED CARD OF 'beaconlaw03.ScalarCanonical'. -/
def scalarCanonicalCard : Claim7 := { stood := { row := scalarCanonicalRow, standIns := [], harness := (true, "4cfb604b7ecb1f3885ec450ad38d71a03bb8595ab537600dc3a6a6e2e451314b"), looks := false }, kinds := [], alts := [], laidByText := true, laidKinds := [.wider], laidTests := true, laidLooks := .later }
def ScalarCanonicalCardSaid : Prop := Claim7.holds Tryd.pinned (.plain (OpenSpec.ofChange scalarCanonicalSpec)) scalarCanonicalCard

/-- THE TIED CARD OF 'beaconlaw03.ScalarAll'. -/
def scalarAllCard : Claim7 := { stood := { row := scalarAllRow, standIns := [], harness := (true, "4cfb604b7ecb1f3885ec450ad38d71a03bb8595ab537600dc3a6a6e2e451314b"), looks := false }, kinds := [], alts := [], laidByText := true, laidKinds := [.wider], laidTests := true, laidLooks := .later }
def ScalarAllCardSaid : Prop := Claim7.holds Tryd.pinned (.plain (OpenSpec.ofChange scalarAllSpec)) scalarAllCard

/-- THE SECOND FORM's CARD OF 'beaconlaw03.ScalarReduces'. -/
def scalarReducesUptoCard : Claim7 := { stood := { row := scalarReducesUptoRow, standIns := [], harness := (true, "4cfb604b7ecb1f3885ec450ad38d71a03bb8595ab537600dc3a6a6e2e451314b"), looks := false }, kinds := [], alts := [], laidByText := true, laidKinds := [.wider], laidTests := true, laidLooks := .later }
def ScalarReducesUptoCardSaid : Prop := Claim7.holds Tryd.pinned (.plain (OpenSpec.upto scalarReducesSpec)) scalarReducesUptoCard

/-- THE SECOND FORM's CARD OF 'beaconlaw03.ScalarRing'. -/
def scalarRingUptoCard : Claim7 := { stood := { row := scalarRingUptoRow, standIns := [], harness := (true, "4cfb604b7ecb1f3885ec450ad38d71a03bb8595ab537600dc3a6a6e2e451314b"), looks := false }, kinds := [], alts := [], laidByText := true, laidKinds := [.wider], laidTests := true, laidLooks := .later }
def ScalarRingUptoCardSaid : Prop := Claim7.holds Tryd.pinned (.plain (OpenSpec.upto scalarRingSpec)) scalarRingUptoCard

/-- THE SECOND FORM's CARD OF 'beaconlaw03.ScalarCanonical'. -/
def scalarCanonicalUptoCard : Claim7 := { stood := { row := scalarCanonicalUptoRow, standIns := [], harness := (true, "4cfb604b7ecb1f3885ec450ad38d71a03bb8595ab537600dc3a6a6e2e451314b"), looks := false }, kinds := [], alts := [], laidByText := true, laidKinds := [.wider], laidTests := true, laidLooks := .later }
def ScalarCanonicalUptoCardSaid : Prop := Claim7.holds Tryd.pinned (.plain (OpenSpec.upto scalarCanonicalSpec)) scalarCanonicalUptoCard

/-- THE SECOND FORM's CARD OF 'beaconlaw03.ScalarAll'. -/
def scalarAllUptoCard : Claim7 := { stood := { row := scalarAllUptoRow, standIns := [], harness := (true, "4cfb604b7ecb1f3885ec450ad38d71a03bb8595ab537600dc3a6a6e2e451314b"), looks := false }, kinds := [], alts := [], laidByText := true, laidKinds := [.wider], laidTests := true, laidLooks := .later }
def ScalarAllUptoCardSaid : Prop := Claim7.holds Tryd.pinned (.plain (OpenSpec.upto scalarAllSpec)) scalarAllUptoCard
end Rows
end Go.Proofs.YtagjeideohplpaaDoor
