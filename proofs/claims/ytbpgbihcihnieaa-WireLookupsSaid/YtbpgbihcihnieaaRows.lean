/-
  No cell of these rows narrows 'for every input' (looked for: loops, veiled, ifaces, maps, wideKeys, modest, calm, conditions, laid).
  DERIVED. THE GIVEN ROWS OF THIS SEAT. 9 by the template 'for every input the law returns true; each argument reads behind the call as it read before'; 0 by the template 'total and deterministic' (their statements: YtbpgbihcihnieaaTotals.lean).
  GIVEN WITH THE SEED: the statements are not yours to turn. If you find one false, say at which input.
  Laid BY PROGRAM, IN A SANDBOX (cutbox-rows.mjs): the forced cells as the released guide's own fill.sh prints them over the translation a24d939ed9c26e5b… (all of the seat's roots in one cut). By AI agents, Wed Nov 11 2026. No macro, syntax, notation, axiom, sorry.
-/
import Derived.Test.YtbpgbihcihnieaaChecked
import GoSem.Claim
import GoSem.ClaimJoined
import GoSem.ClaimMapViews
import Derived.JoinedTies
import Derived.KernelRfl
namespace Go.Proofs.Ytbpgbihcihnieaa
/- THE CELL 'sum', in the pinned program and in every row, IS THE sha256 OF THE DUMP (.gsa) THAT YtbpgbihcihnieaaProg.lean LOADS. Nothing in Lean hashes anything: it is a label: what it is worth is what the hold of that sum in a sandbox is worth. -/
noncomputable def Try.pinned : Pinned := { name := "ytbpgbihcihnieaa", sum := "a24d939ed9c26e5b5fa3b67dbff68ab01f8e9052b41c4b6d2e11bfaa29c6c508", checked := Try.checked }
namespace Rows
def none {H : Type} : Left H := { results := [], args := [] }

/-- 'beaconlaw07.WireLists': WHATEVER THE INPUT: true; the input reads as it did. -/
def wireListsSpec : ChangeSpec := { name := "wireLists", fn := fun _ => fun
  | [d] => { results := [.lit (.bool true)], args := [d] }
  | _ => none }
def wireListsRow : OpenClaim := { program := "ytbpgbihcihnieaa", sum := "a24d939ed9c26e5b5fa3b67dbff68ab01f8e9052b41c4b6d2e11bfaa29c6c508", func := "beacon/beaconlaw07.WireLists", spec := "wireLists", apart := false }
def WireListsSaid : Prop := wireListsRow.holds Try.pinned (OpenSpec.ofChange wireListsSpec)

/-- ITS FALSE NEIGHBOUR: 'it returns false'. Refute it at one input. -/
def wireListsWrong : ChangeSpec := { name := "wireLists", fn := fun _ => fun
  | [d] => { results := [.lit (.bool false)], args := [d] }
  | _ => none }
def WireListsWrongFalsely : Prop := wireListsRow.holds Try.pinned (OpenSpec.ofChange wireListsWrong)

/-- 'beaconlaw07.WireNames': WHATEVER THE INPUT: true; the input reads as it did. -/
def wireNamesSpec : ChangeSpec := { name := "wireNames", fn := fun _ => fun
  | [d1, d2] => { results := [.lit (.bool true)], args := [d1, d2] }
  | _ => none }
def wireNamesRow : OpenClaim := { program := "ytbpgbihcihnieaa", sum := "a24d939ed9c26e5b5fa3b67dbff68ab01f8e9052b41c4b6d2e11bfaa29c6c508", func := "beacon/beaconlaw07.WireNames", spec := "wireNames", inPlace := ["internal/bytealg.Compare"], apart := false }
def WireNamesSaid : Prop := wireNamesRow.holds Try.pinned (OpenSpec.ofChange wireNamesSpec)

/-- ITS FALSE NEIGHBOUR: 'it returns false'. Refute it at one input. -/
def wireNamesWrong : ChangeSpec := { name := "wireNames", fn := fun _ => fun
  | [d1, d2] => { results := [.lit (.bool false)], args := [d1, d2] }
  | _ => none }
def WireNamesWrongFalsely : Prop := wireNamesRow.holds Try.pinned (OpenSpec.ofChange wireNamesWrong)

/-- 'beaconlaw07.WireNums': WHATEVER THE INPUT: true; the input reads as it did. -/
def wireNumsSpec : ChangeSpec := { name := "wireNums", fn := fun _ => fun
  | [d1, d2] => { results := [.lit (.bool true)], args := [d1, d2] }
  | _ => none }
def wireNumsRow : OpenClaim := { program := "ytbpgbihcihnieaa", sum := "a24d939ed9c26e5b5fa3b67dbff68ab01f8e9052b41c4b6d2e11bfaa29c6c508", func := "beacon/beaconlaw07.WireNums", spec := "wireNums", apart := false }
def WireNumsSaid : Prop := wireNumsRow.holds Try.pinned (OpenSpec.ofChange wireNumsSpec)

/-- ITS FALSE NEIGHBOUR: 'it returns false'. Refute it at one input. -/
def wireNumsWrong : ChangeSpec := { name := "wireNums", fn := fun _ => fun
  | [d1, d2] => { results := [.lit (.bool false)], args := [d1, d2] }
  | _ => none }
def WireNumsWrongFalsely : Prop := wireNumsRow.holds Try.pinned (OpenSpec.ofChange wireNumsWrong)

/-- 'beaconlaw07.WireReads': WHATEVER THE INPUT: true; the input reads as it did. -/
def wireReadsSpec : ChangeSpec := { name := "wireReads", fn := fun _ => fun
  | [d] => { results := [.lit (.bool true)], args := [d] }
  | _ => none }
def wireReadsRow : OpenClaim := { program := "ytbpgbihcihnieaa", sum := "a24d939ed9c26e5b5fa3b67dbff68ab01f8e9052b41c4b6d2e11bfaa29c6c508", func := "beacon/beaconlaw07.WireReads", spec := "wireReads", apart := false }
def WireReadsSaid : Prop := wireReadsRow.holds Try.pinned (OpenSpec.ofChange wireReadsSpec)

/-- ITS FALSE NEIGHBOUR: 'it returns false'. Refute it at one input. -/
def wireReadsWrong : ChangeSpec := { name := "wireReads", fn := fun _ => fun
  | [d] => { results := [.lit (.bool false)], args := [d] }
  | _ => none }
def WireReadsWrongFalsely : Prop := wireReadsRow.holds Try.pinned (OpenSpec.ofChange wireReadsWrong)

/-- 'beaconlaw07.WireBack': WHATEVER THE INPUT: true; the input reads as it did. -/
def wireBackSpec : ChangeSpec := { name := "wireBack", fn := fun _ => fun
  | [d1, d2] => { results := [.lit (.bool true)], args := [d1, d2] }
  | _ => none }
def wireBackRow : OpenClaim := { program := "ytbpgbihcihnieaa", sum := "a24d939ed9c26e5b5fa3b67dbff68ab01f8e9052b41c4b6d2e11bfaa29c6c508", func := "beacon/beaconlaw07.WireBack", spec := "wireBack", apart := false }
def WireBackSaid : Prop := wireBackRow.holds Try.pinned (OpenSpec.ofChange wireBackSpec)

/-- ITS FALSE NEIGHBOUR: 'it returns false'. Refute it at one input. -/
def wireBackWrong : ChangeSpec := { name := "wireBack", fn := fun _ => fun
  | [d1, d2] => { results := [.lit (.bool false)], args := [d1, d2] }
  | _ => none }
def WireBackWrongFalsely : Prop := wireBackRow.holds Try.pinned (OpenSpec.ofChange wireBackWrong)

/-- 'beaconlaw07.WireKeeps': WHATEVER THE INPUT: true; the input reads as it did. -/
def wireKeepsSpec : ChangeSpec := { name := "wireKeeps", fn := fun _ => fun
  | [d1, d2] => { results := [.lit (.bool true)], args := [d1, d2] }
  | _ => none }
def wireKeepsRow : OpenClaim := { program := "ytbpgbihcihnieaa", sum := "a24d939ed9c26e5b5fa3b67dbff68ab01f8e9052b41c4b6d2e11bfaa29c6c508", func := "beacon/beaconlaw07.WireKeeps", spec := "wireKeeps", apart := false }
def WireKeepsSaid : Prop := wireKeepsRow.holds Try.pinned (OpenSpec.ofChange wireKeepsSpec)

/-- ITS FALSE NEIGHBOUR: 'it returns false'. Refute it at one input. -/
def wireKeepsWrong : ChangeSpec := { name := "wireKeeps", fn := fun _ => fun
  | [d1, d2] => { results := [.lit (.bool false)], args := [d1, d2] }
  | _ => none }
def WireKeepsWrongFalsely : Prop := wireKeepsRow.holds Try.pinned (OpenSpec.ofChange wireKeepsWrong)

/-- 'beaconlaw07.WireRoots': WHATEVER THE INPUT: true; the input reads as it did. -/
def wireRootsSpec : ChangeSpec := { name := "wireRoots", fn := fun _ => fun
  | [d1, d2] => { results := [.lit (.bool true)], args := [d1, d2] }
  | _ => none }
def wireRootsRow : OpenClaim := { program := "ytbpgbihcihnieaa", sum := "a24d939ed9c26e5b5fa3b67dbff68ab01f8e9052b41c4b6d2e11bfaa29c6c508", func := "beacon/beaconlaw07.WireRoots", spec := "wireRoots", apart := false }
def WireRootsSaid : Prop := wireRootsRow.holds Try.pinned (OpenSpec.ofChange wireRootsSpec)

/-- ITS FALSE NEIGHBOUR: 'it returns false'. Refute it at one input. -/
def wireRootsWrong : ChangeSpec := { name := "wireRoots", fn := fun _ => fun
  | [d1, d2] => { results := [.lit (.bool false)], args := [d1, d2] }
  | _ => none }
def WireRootsWrongFalsely : Prop := wireRootsRow.holds Try.pinned (OpenSpec.ofChange wireRootsWrong)

/-- 'beaconlaw07.WireLookups': WHATEVER THE INPUT: true; the input reads as it did. -/
def wireLookupsSpec : ChangeSpec := { name := "wireLookups", fn := fun _ => fun
  | [d1, d2] => { results := [.lit (.bool true)], args := [d1, d2] }
  | _ => none }
def wireLookupsRow : OpenClaim := { program := "ytbpgbihcihnieaa", sum := "a24d939ed9c26e5b5fa3b67dbff68ab01f8e9052b41c4b6d2e11bfaa29c6c508", func := "beacon/beaconlaw07.WireLookups", spec := "wireLookups", unfollowed := true, recurses := true, apart := false }
def WireLookupsSaid : Prop := wireLookupsRow.holds Try.pinned (OpenSpec.ofChange wireLookupsSpec)

/-- ITS FALSE NEIGHBOUR: 'it returns false'. Refute it at one input. -/
def wireLookupsWrong : ChangeSpec := { name := "wireLookups", fn := fun _ => fun
  | [d1, d2] => { results := [.lit (.bool false)], args := [d1, d2] }
  | _ => none }
def WireLookupsWrongFalsely : Prop := wireLookupsRow.holds Try.pinned (OpenSpec.ofChange wireLookupsWrong)

/-- 'beaconlaw07.WireSteps': WHATEVER THE INPUT: true; the input reads as it did. -/
def wireStepsSpec : ChangeSpec := { name := "wireSteps", fn := fun _ => fun
  | [d1, d2] => { results := [.lit (.bool true)], args := [d1, d2] }
  | _ => none }
def wireStepsRow : OpenClaim := { program := "ytbpgbihcihnieaa", sum := "a24d939ed9c26e5b5fa3b67dbff68ab01f8e9052b41c4b6d2e11bfaa29c6c508", func := "beacon/beaconlaw07.WireSteps", spec := "wireSteps", unfollowed := true, recurses := true, apart := false }
def WireStepsSaid : Prop := wireStepsRow.holds Try.pinned (OpenSpec.ofChange wireStepsSpec)

/-- ITS FALSE NEIGHBOUR: 'it returns false'. Refute it at one input. -/
def wireStepsWrong : ChangeSpec := { name := "wireSteps", fn := fun _ => fun
  | [d1, d2] => { results := [.lit (.bool false)], args := [d1, d2] }
  | _ => none }
def WireStepsWrongFalsely : Prop := wireStepsRow.holds Try.pinned (OpenSpec.ofChange wireStepsWrong)

/- THE SECOND FORM. 'bulk': how many values and letters a reading holds, each counted each time it is reached (what is shared counts as often as it is met; a slice's spare places count too). A statement '..UptoSaid' is the law's where the arguments, and the package variables that the reading takes, are together of bulk at most 1048576: NARROWER than '..Said'. Prove '..Said' where nothing that the law and all that it calls make is longer than what came in: it says more and counts as full. Else prove '..UptoSaid'. A law counts once. -/
mutual
def uptoBulk {H : Type} : DataW H → Nat
  | .lit (.string bytes) => bytes.length + 1
  | .lit _ => 1
  | .nil => 1
  | .ptr d => uptoBulk d + 1
  | .slice elems spare => uptoBulkAll elems + uptoBulkAll spare + 1
  | .agg parts => uptoBulkAll parts + 1
  | .iface _ d => uptoBulk d + 1
  | .map entries => uptoBulkEntries entries + 1
  | .held _ => 1
def uptoBulkAll {H : Type} : List (DataW H) → Nat
  | [] => 0
  | d :: r => uptoBulk d + uptoBulkAll r
def uptoBulkEntries {H : Type} : List (Lit × DataW H) → Nat
  | [] => 0
  | x :: r => uptoBulkEntry x + uptoBulkEntries r
def uptoBulkEntry {H : Type} : Lit × DataW H → Nat
  | (.string bytes, d) => bytes.length + uptoBulk d + 1
  | (_, d) => uptoBulk d + 1
 end
def uptoSmall : (H : Type) → List (DataW H) → Bool := fun _ ds => decide (uptoBulkAll ds ≤ 1048576)
def OpenSpec.upto (s : _root_.Go.ChangeSpec) : _root_.Go.OpenSpec := { _root_.Go.OpenSpec.ofChange s with cond := some uptoSmall }

/-- 'beaconlaw07.WireLists', WHERE WHAT IT READS IS OF BULK AT MOST 1048576: true; the input reads as it did. -/
def wireListsUptoRow : OpenClaim := { program := "ytbpgbihcihnieaa", sum := "a24d939ed9c26e5b5fa3b67dbff68ab01f8e9052b41c4b6d2e11bfaa29c6c508", func := "beacon/beaconlaw07.WireLists", spec := "wireLists", apart := false, narrowed := true }
def WireListsUptoSaid : Prop := wireListsUptoRow.holds Try.pinned (OpenSpec.upto wireListsSpec)

/-- 'beaconlaw07.WireNames', WHERE WHAT IT READS IS OF BULK AT MOST 1048576: true; the input reads as it did. -/
def wireNamesUptoRow : OpenClaim := { program := "ytbpgbihcihnieaa", sum := "a24d939ed9c26e5b5fa3b67dbff68ab01f8e9052b41c4b6d2e11bfaa29c6c508", func := "beacon/beaconlaw07.WireNames", spec := "wireNames", inPlace := ["internal/bytealg.Compare"], apart := false, narrowed := true }
def WireNamesUptoSaid : Prop := wireNamesUptoRow.holds Try.pinned (OpenSpec.upto wireNamesSpec)

/-- 'beaconlaw07.WireNums', WHERE WHAT IT READS IS OF BULK AT MOST 1048576: true; the input reads as it did. -/
def wireNumsUptoRow : OpenClaim := { program := "ytbpgbihcihnieaa", sum := "a24d939ed9c26e5b5fa3b67dbff68ab01f8e9052b41c4b6d2e11bfaa29c6c508", func := "beacon/beaconlaw07.WireNums", spec := "wireNums", apart := false, narrowed := true }
def WireNumsUptoSaid : Prop := wireNumsUptoRow.holds Try.pinned (OpenSpec.upto wireNumsSpec)

/-- 'beaconlaw07.WireReads', WHERE WHAT IT READS IS OF BULK AT MOST 1048576: true; the input reads as it did. -/
def wireReadsUptoRow : OpenClaim := { program := "ytbpgbihcihnieaa", sum := "a24d939ed9c26e5b5fa3b67dbff68ab01f8e9052b41c4b6d2e11bfaa29c6c508", func := "beacon/beaconlaw07.WireReads", spec := "wireReads", apart := false, narrowed := true }
def WireReadsUptoSaid : Prop := wireReadsUptoRow.holds Try.pinned (OpenSpec.upto wireReadsSpec)

/-- 'beaconlaw07.WireBack', WHERE WHAT IT READS IS OF BULK AT MOST 1048576: true; the input reads as it did. -/
def wireBackUptoRow : OpenClaim := { program := "ytbpgbihcihnieaa", sum := "a24d939ed9c26e5b5fa3b67dbff68ab01f8e9052b41c4b6d2e11bfaa29c6c508", func := "beacon/beaconlaw07.WireBack", spec := "wireBack", apart := false, narrowed := true }
def WireBackUptoSaid : Prop := wireBackUptoRow.holds Try.pinned (OpenSpec.upto wireBackSpec)

/-- 'beaconlaw07.WireKeeps', WHERE WHAT IT READS IS OF BULK AT MOST 1048576: true; the input reads as it did. -/
def wireKeepsUptoRow : OpenClaim := { program := "ytbpgbihcihnieaa", sum := "a24d939ed9c26e5b5fa3b67dbff68ab01f8e9052b41c4b6d2e11bfaa29c6c508", func := "beacon/beaconlaw07.WireKeeps", spec := "wireKeeps", apart := false, narrowed := true }
def WireKeepsUptoSaid : Prop := wireKeepsUptoRow.holds Try.pinned (OpenSpec.upto wireKeepsSpec)

/-- 'beaconlaw07.WireRoots', WHERE WHAT IT READS IS OF BULK AT MOST 1048576: true; the input reads as it did. -/
def wireRootsUptoRow : OpenClaim := { program := "ytbpgbihcihnieaa", sum := "a24d939ed9c26e5b5fa3b67dbff68ab01f8e9052b41c4b6d2e11bfaa29c6c508", func := "beacon/beaconlaw07.WireRoots", spec := "wireRoots", apart := false, narrowed := true }
def WireRootsUptoSaid : Prop := wireRootsUptoRow.holds Try.pinned (OpenSpec.upto wireRootsSpec)

/-- 'beaconlaw07.WireLookups', WHERE WHAT IT READS IS OF BULK AT MOST 1048576: true; the input reads as it did. -/
def wireLookupsUptoRow : OpenClaim := { program := "ytbpgbihcihnieaa", sum := "a24d939ed9c26e5b5fa3b67dbff68ab01f8e9052b41c4b6d2e11bfaa29c6c508", func := "beacon/beaconlaw07.WireLookups", spec := "wireLookups", unfollowed := true, recurses := true, apart := false, narrowed := true }
def WireLookupsUptoSaid : Prop := wireLookupsUptoRow.holds Try.pinned (OpenSpec.upto wireLookupsSpec)

/-- 'beaconlaw07.WireSteps', WHERE WHAT IT READS IS OF BULK AT MOST 1048576: true; the input reads as it did. -/
def wireStepsUptoRow : OpenClaim := { program := "ytbpgbihcihnieaa", sum := "a24d939ed9c26e5b5fa3b67dbff68ab01f8e9052b41c4b6d2e11bfaa29c6c508", func := "beacon/beaconlaw07.WireSteps", spec := "wireSteps", unfollowed := true, recurses := true, apart := false, narrowed := true }
def WireStepsUptoSaid : Prop := wireStepsUptoRow.holds Try.pinned (OpenSpec.upto wireStepsSpec)

end Rows
end Go.Proofs.Ytbpgbihcihnieaa
