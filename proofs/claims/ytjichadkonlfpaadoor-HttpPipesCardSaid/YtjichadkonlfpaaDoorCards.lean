/-
  DERIVED. GIVEN WITH THE SEED: THE CARDS: each row of YtjichadkonlfpaaDoorRows.lean that lists a variable, with what it lists TIED to the program's text (the seventh form; the later family's looks); each row that meets fmt, with fmt's text TOLD by the authors' own Lean function (tested against real Go, not proved from fmt's source: count such statements apart). THE CARD IS WHAT COUNTS. Prove the row's statement (the work); the ties are given (YtjichadkonlfpaaDoorTie.lean); close each card by the builder's one call (the guide's Derived/Test/ToyasCard.lean, 'card_holds'). Laid BY PROGRAM, IN A SANDBOX (cutbox-door.mjs). By AI agents, Wed Nov 11 2026. No macro, syntax, notation, axiom, sorry.
-/
import Derived.Test.YtjichadkonlfpaaDoorRows
import GoSem.ClaimSeven
namespace Go.Proofs.YtjichadkonlfpaaDoor
namespace Rows

/-- THE TIED CARD OF 'beaconlaw19.HttpPipes'. -/
def httpPipesCard : Claim7 := { stood := { row := httpPipesRow, standIns := [], harness := (true, "ec9ac5193bdd87360e576fa252bb2ca96f59636256aa68f777b165e88e471c12"), looks := true }, kinds := [], alts := [], laidByText := true, laidKinds := [.data, .data, .data, .data, .sentinel, .sentinel, .pinned, .pinned], laidTests := true, laidLooks := .later }
def HttpPipesCardSaid : Prop := Claim7.holds Tryd.pinned (.plain (OpenSpec.ofChange httpPipesSpec)) httpPipesCard

/-- THE TIED CARD OF 'beaconlaw19.HttpCuts'. -/
def httpCutsCard : Claim7 := { stood := { row := httpCutsRow, standIns := [], harness := (true, "ec9ac5193bdd87360e576fa252bb2ca96f59636256aa68f777b165e88e471c12"), looks := true }, kinds := [], alts := [], laidByText := true, laidKinds := [.data, .data, .data, .data, .sentinel, .sentinel, .pinned, .pinned], laidTests := true, laidLooks := .later }
def HttpCutsCardSaid : Prop := Claim7.holds Tryd.pinned (.plain (OpenSpec.ofChange httpCutsSpec)) httpCutsCard

/-- THE TIED CARD OF 'beaconlaw19.HttpEnds'. -/
def httpEndsCard : Claim7 := { stood := { row := httpEndsRow, standIns := [], harness := (true, "ec9ac5193bdd87360e576fa252bb2ca96f59636256aa68f777b165e88e471c12"), looks := true }, kinds := [], alts := [], laidByText := true, laidKinds := [.data, .data, .data, .data, .sentinel, .sentinel, .pinned, .pinned], laidTests := true, laidLooks := .later }
def HttpEndsCardSaid : Prop := Claim7.holds Tryd.pinned (.plain (OpenSpec.ofChange httpEndsSpec)) httpEndsCard

/-- THE TIED CARD OF 'beaconlaw19.HttpAnswers'. -/
def httpAnswersCard : Claim7 := { stood := { row := httpAnswersRow, standIns := [], harness := (true, "ec9ac5193bdd87360e576fa252bb2ca96f59636256aa68f777b165e88e471c12"), looks := true }, kinds := [], alts := [], laidByText := true, laidKinds := [.data, .data, .data, .data, .sentinel, .sentinel, .pinned, .pinned], laidTests := true, laidLooks := .later }
def HttpAnswersCardSaid : Prop := Claim7.holds Tryd.pinned (.plain (OpenSpec.ofChange httpAnswersSpec)) httpAnswersCard

/-- THE SECOND FORM's CARD OF 'beaconlaw19.HttpPipes'. -/
def httpPipesUptoCard : Claim7 := { stood := { row := httpPipesUptoRow, standIns := [], harness := (true, "ec9ac5193bdd87360e576fa252bb2ca96f59636256aa68f777b165e88e471c12"), looks := true }, kinds := [], alts := [], laidByText := true, laidKinds := [.data, .data, .data, .data, .sentinel, .sentinel, .pinned, .pinned], laidTests := true, laidLooks := .later }
def HttpPipesUptoCardSaid : Prop := Claim7.holds Tryd.pinned (.plain (OpenSpec.upto httpPipesSpec)) httpPipesUptoCard

/-- THE SECOND FORM's CARD OF 'beaconlaw19.HttpCuts'. -/
def httpCutsUptoCard : Claim7 := { stood := { row := httpCutsUptoRow, standIns := [], harness := (true, "ec9ac5193bdd87360e576fa252bb2ca96f59636256aa68f777b165e88e471c12"), looks := true }, kinds := [], alts := [], laidByText := true, laidKinds := [.data, .data, .data, .data, .sentinel, .sentinel, .pinned, .pinned], laidTests := true, laidLooks := .later }
def HttpCutsUptoCardSaid : Prop := Claim7.holds Tryd.pinned (.plain (OpenSpec.upto httpCutsSpec)) httpCutsUptoCard

/-- THE SECOND FORM's CARD OF 'beaconlaw19.HttpEnds'. -/
def httpEndsUptoCard : Claim7 := { stood := { row := httpEndsUptoRow, standIns := [], harness := (true, "ec9ac5193bdd87360e576fa252bb2ca96f59636256aa68f777b165e88e471c12"), looks := true }, kinds := [], alts := [], laidByText := true, laidKinds := [.data, .data, .data, .data, .sentinel, .sentinel, .pinned, .pinned], laidTests := true, laidLooks := .later }
def HttpEndsUptoCardSaid : Prop := Claim7.holds Tryd.pinned (.plain (OpenSpec.upto httpEndsSpec)) httpEndsUptoCard

/-- THE SECOND FORM's CARD OF 'beaconlaw19.HttpAnswers'. -/
def httpAnswersUptoCard : Claim7 := { stood := { row := httpAnswersUptoRow, standIns := [], harness := (true, "ec9ac5193bdd87360e576fa252bb2ca96f59636256aa68f777b165e88e471c12"), looks := true }, kinds := [], alts := [], laidByText := true, laidKinds := [.data, .data, .data, .data, .sentinel, .sentinel, .pinned, .pinned], laidTests := true, laidLooks := .later }
def HttpAnswersUptoCardSaid : Prop := Claim7.holds Tryd.pinned (.plain (OpenSpec.upto httpAnswersSpec)) httpAnswersUptoCard
end Rows
end Go.Proofs.YtjichadkonlfpaaDoor
