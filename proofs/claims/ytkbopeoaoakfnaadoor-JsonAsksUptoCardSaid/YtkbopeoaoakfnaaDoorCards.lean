/-
  DERIVED. GIVEN WITH THE SEED: THE CARDS: each row of YtkbopeoaoakfnaaDoorRows.lean that lists a variable, with what it lists TIED to the program's text (the seventh form; the later family's looks); each row that meets fmt, with fmt's text TOLD by the authors' own Lean function (tested against real Go, not proved from fmt's source: count such statements apart). THE CARD IS WHAT COUNTS. Prove the row's statement (the work); the ties are given (YtkbopeoaoakfnaaDoorTie.lean); close each card by the builder's one call (the guide's Derived/Test/ToyasCard.lean, 'card_holds'). Laid BY PROGRAM, IN A SANDBOX (cutbox-door.mjs). By AI agents, Wed Nov 11 2026. No macro, syntax, notation, axiom, sorry.
-/
import Derived.Test.YtkbopeoaoakfnaaDoorRows
import GoSem.ClaimSeven
namespace Go.Proofs.YtkbopeoaoakfnaaDoor
namespace Rows

/-- THE TIED CARD OF 'beaconlaw18.JsonPrints'. -/
def jsonPrintsCard : Claim7 := { stood := { row := jsonPrintsRow, standIns := [], harness := (true, "561fabeb1d245f699871d65f8ffbe9b0e2fb382efa8ba43c40845a0d2c9c4154"), looks := true }, kinds := [], alts := [], laidByText := true, laidKinds := [.data, .pinned], laidTests := true, laidLooks := .later }
def JsonPrintsCardSaid : Prop := Claim7.holds Tryd.pinned (.plain (OpenSpec.ofChange jsonPrintsSpec)) jsonPrintsCard

/-- THE TIED CARD OF 'beaconlaw18.JsonTexts'. -/
def jsonTextsCard : Claim7 := { stood := { row := jsonTextsRow, standIns := [], harness := (true, "561fabeb1d245f699871d65f8ffbe9b0e2fb382efa8ba43c40845a0d2c9c4154"), looks := true }, kinds := [], alts := [], laidByText := true, laidKinds := [.data, .pinned], laidTests := true, laidLooks := .later }
def JsonTextsCardSaid : Prop := Claim7.holds Tryd.pinned (.plain (OpenSpec.ofChange jsonTextsSpec)) jsonTextsCard

/-- THE TIED CARD OF 'beaconlaw18.JsonParses'. -/
def jsonParsesCard : Claim7 := { stood := { row := jsonParsesRow, standIns := [], harness := (true, "561fabeb1d245f699871d65f8ffbe9b0e2fb382efa8ba43c40845a0d2c9c4154"), looks := true }, kinds := [], alts := [], laidByText := true, laidKinds := [.data, .pinned], laidTests := true, laidLooks := .later }
def JsonParsesCardSaid : Prop := Claim7.holds Tryd.pinned (.plain (OpenSpec.ofChange jsonParsesSpec)) jsonParsesCard

/-- THE TIED CARD OF 'beaconlaw18.JsonBack'. -/
def jsonBackCard : Claim7 := { stood := { row := jsonBackRow, standIns := [], harness := (true, "561fabeb1d245f699871d65f8ffbe9b0e2fb382efa8ba43c40845a0d2c9c4154"), looks := true }, kinds := [], alts := [], laidByText := true, laidKinds := [.data, .pinned], laidTests := true, laidLooks := .later }
def JsonBackCardSaid : Prop := Claim7.holds Tryd.pinned (.plain (OpenSpec.ofChange jsonBackSpec)) jsonBackCard

/-- THE TIED CARD OF 'beaconlaw18.JsonAgain'. -/
def jsonAgainCard : Claim7 := { stood := { row := jsonAgainRow, standIns := [], harness := (true, "561fabeb1d245f699871d65f8ffbe9b0e2fb382efa8ba43c40845a0d2c9c4154"), looks := true }, kinds := [], alts := [], laidByText := true, laidKinds := [.data, .pinned], laidTests := true, laidLooks := .later }
def JsonAgainCardSaid : Prop := Claim7.holds Tryd.pinned (.plain (OpenSpec.ofChange jsonAgainSpec)) jsonAgainCard

/-- THE TIED CARD OF 'beaconlaw18.JsonAsks'. -/
def jsonAsksCard : Claim7 := { stood := { row := jsonAsksRow, standIns := [], harness := (true, "561fabeb1d245f699871d65f8ffbe9b0e2fb382efa8ba43c40845a0d2c9c4154"), looks := true }, kinds := [], alts := [], laidByText := true, laidKinds := [.data, .pinned], laidTests := true, laidLooks := .later }
def JsonAsksCardSaid : Prop := Claim7.holds Tryd.pinned (.plain (OpenSpec.ofChange jsonAsksSpec)) jsonAsksCard

/-- THE TIED CARD OF 'beaconlaw18.JsonWhole'. -/
def jsonWholeCard : Claim7 := { stood := { row := jsonWholeRow, standIns := [], harness := (true, "561fabeb1d245f699871d65f8ffbe9b0e2fb382efa8ba43c40845a0d2c9c4154"), looks := true }, kinds := [], alts := [], laidByText := true, laidKinds := [.data, .data, .data, .data, .sentinel, .sentinel, .pinned], laidTests := true, laidLooks := .later }
def JsonWholeCardSaid : Prop := Claim7.holds Tryd.pinned (.plain (OpenSpec.ofChange jsonWholeSpec)) jsonWholeCard

/-- THE SECOND FORM's CARD OF 'beaconlaw18.JsonPrints'. -/
def jsonPrintsUptoCard : Claim7 := { stood := { row := jsonPrintsUptoRow, standIns := [], harness := (true, "561fabeb1d245f699871d65f8ffbe9b0e2fb382efa8ba43c40845a0d2c9c4154"), looks := true }, kinds := [], alts := [], laidByText := true, laidKinds := [.data, .pinned], laidTests := true, laidLooks := .later }
def JsonPrintsUptoCardSaid : Prop := Claim7.holds Tryd.pinned (.plain (OpenSpec.upto jsonPrintsSpec)) jsonPrintsUptoCard

/-- THE SECOND FORM's CARD OF 'beaconlaw18.JsonTexts'. -/
def jsonTextsUptoCard : Claim7 := { stood := { row := jsonTextsUptoRow, standIns := [], harness := (true, "561fabeb1d245f699871d65f8ffbe9b0e2fb382efa8ba43c40845a0d2c9c4154"), looks := true }, kinds := [], alts := [], laidByText := true, laidKinds := [.data, .pinned], laidTests := true, laidLooks := .later }
def JsonTextsUptoCardSaid : Prop := Claim7.holds Tryd.pinned (.plain (OpenSpec.upto jsonTextsSpec)) jsonTextsUptoCard

/-- THE SECOND FORM's CARD OF 'beaconlaw18.JsonParses'. -/
def jsonParsesUptoCard : Claim7 := { stood := { row := jsonParsesUptoRow, standIns := [], harness := (true, "561fabeb1d245f699871d65f8ffbe9b0e2fb382efa8ba43c40845a0d2c9c4154"), looks := true }, kinds := [], alts := [], laidByText := true, laidKinds := [.data, .pinned], laidTests := true, laidLooks := .later }
def JsonParsesUptoCardSaid : Prop := Claim7.holds Tryd.pinned (.plain (OpenSpec.upto jsonParsesSpec)) jsonParsesUptoCard

/-- THE SECOND FORM's CARD OF 'beaconlaw18.JsonBack'. -/
def jsonBackUptoCard : Claim7 := { stood := { row := jsonBackUptoRow, standIns := [], harness := (true, "561fabeb1d245f699871d65f8ffbe9b0e2fb382efa8ba43c40845a0d2c9c4154"), looks := true }, kinds := [], alts := [], laidByText := true, laidKinds := [.data, .pinned], laidTests := true, laidLooks := .later }
def JsonBackUptoCardSaid : Prop := Claim7.holds Tryd.pinned (.plain (OpenSpec.upto jsonBackSpec)) jsonBackUptoCard

/-- THE SECOND FORM's CARD OF 'beaconlaw18.JsonAgain'. -/
def jsonAgainUptoCard : Claim7 := { stood := { row := jsonAgainUptoRow, standIns := [], harness := (true, "561fabeb1d245f699871d65f8ffbe9b0e2fb382efa8ba43c40845a0d2c9c4154"), looks := true }, kinds := [], alts := [], laidByText := true, laidKinds := [.data, .pinned], laidTests := true, laidLooks := .later }
def JsonAgainUptoCardSaid : Prop := Claim7.holds Tryd.pinned (.plain (OpenSpec.upto jsonAgainSpec)) jsonAgainUptoCard

/-- THE SECOND FORM's CARD OF 'beaconlaw18.JsonAsks'. -/
def jsonAsksUptoCard : Claim7 := { stood := { row := jsonAsksUptoRow, standIns := [], harness := (true, "561fabeb1d245f699871d65f8ffbe9b0e2fb382efa8ba43c40845a0d2c9c4154"), looks := true }, kinds := [], alts := [], laidByText := true, laidKinds := [.data, .pinned], laidTests := true, laidLooks := .later }
def JsonAsksUptoCardSaid : Prop := Claim7.holds Tryd.pinned (.plain (OpenSpec.upto jsonAsksSpec)) jsonAsksUptoCard

/-- THE SECOND FORM's CARD OF 'beaconlaw18.JsonWhole'. -/
def jsonWholeUptoCard : Claim7 := { stood := { row := jsonWholeUptoRow, standIns := [], harness := (true, "561fabeb1d245f699871d65f8ffbe9b0e2fb382efa8ba43c40845a0d2c9c4154"), looks := true }, kinds := [], alts := [], laidByText := true, laidKinds := [.data, .data, .data, .data, .sentinel, .sentinel, .pinned], laidTests := true, laidLooks := .later }
def JsonWholeUptoCardSaid : Prop := Claim7.holds Tryd.pinned (.plain (OpenSpec.upto jsonWholeSpec)) jsonWholeUptoCard
end Rows
end Go.Proofs.YtkbopeoaoakfnaaDoor
