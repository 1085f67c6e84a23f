/-
  No cell of these rows narrows 'for every input' (looked for: loops, veiled, ifaces, maps, wideKeys, modest, calm, conditions, laid).
  DERIVED. THE GIVEN ROWS OF THIS SEAT. 5 by the template 'for every input the law returns true; each argument reads behind the call as it read before'; 0 by the template 'total and deterministic' (their statements: YtkbbelbcjokncaaTotals.lean).
  GIVEN WITH THE SEED: the statements are not yours to turn. If you find one false, say at which input.
  Laid BY PROGRAM, IN A SANDBOX (cutbox-rows.mjs): the forced cells as the released guide's own fill.sh prints them over the translation a6fea399204ffbb0… (all of the seat's roots in one cut). By AI agents, Wed Nov 11 2026. No macro, syntax, notation, axiom, sorry.
-/
import Derived.Test.YtkbbelbcjokncaaChecked
import GoSem.Claim
import GoSem.ClaimJoined
import GoSem.ClaimMapViews
import Derived.JoinedTies
import Derived.KernelRfl
namespace Go.Proofs.Ytkbbelbcjokncaa
/- THE CELL 'sum', in the pinned program and in every row, IS THE sha256 OF THE DUMP (.gsa) THAT YtkbbelbcjokncaaProg.lean LOADS. Nothing in Lean hashes anything: it is a label: what it is worth is what the hold of that sum in a sandbox is worth. -/
noncomputable def Try.pinned : Pinned := { name := "ytkbbelbcjokncaa", sum := "a6fea399204ffbb0c713cc9b25690afbb46823bf54cbc019fa898cd8121d0948", checked := Try.checked }
namespace Rows
def none {H : Type} : Left H := { results := [], args := [] }

/-- 'beaconlaw20.LimitApart': WHATEVER THE INPUT: true; the input reads as it did. -/
def limitApartSpec : ChangeSpec := { name := "limitApart", fn := fun _ => fun
  | [d1, d2] => { results := [.lit (.bool true)], args := [d1, d2] }
  | _ => none }
def limitApartRow : OpenClaim := { program := "ytkbbelbcjokncaa", sum := "a6fea399204ffbb0c713cc9b25690afbb46823bf54cbc019fa898cd8121d0948", func := "beacon/beaconlaw20.LimitApart", spec := "limitApart", apart := false }
def LimitApartSaid : Prop := limitApartRow.holds Try.pinned (OpenSpec.ofChange limitApartSpec)

/-- ITS FALSE NEIGHBOUR: 'it returns false'. Refute it at one input. -/
def limitApartWrong : ChangeSpec := { name := "limitApart", fn := fun _ => fun
  | [d1, d2] => { results := [.lit (.bool false)], args := [d1, d2] }
  | _ => none }
def LimitApartWrongFalsely : Prop := limitApartRow.holds Try.pinned (OpenSpec.ofChange limitApartWrong)

/-- 'beaconlaw20.LimitPlays': WHATEVER THE INPUT: true; the input reads as it did. -/
def limitPlaysSpec : ChangeSpec := { name := "limitPlays", fn := fun _ => fun
  | [d1, d2, d3, d4] => { results := [.lit (.bool true)], args := [d1, d2, d3, d4] }
  | _ => none }
def limitPlaysRow : OpenClaim := { program := "ytkbbelbcjokncaa", sum := "a6fea399204ffbb0c713cc9b25690afbb46823bf54cbc019fa898cd8121d0948", func := "beacon/beaconlaw20.LimitPlays", spec := "limitPlays", apart := false }
def LimitPlaysSaid : Prop := limitPlaysRow.holds Try.pinned (OpenSpec.ofChange limitPlaysSpec)

/-- ITS FALSE NEIGHBOUR: 'it returns false'. Refute it at one input. -/
def limitPlaysWrong : ChangeSpec := { name := "limitPlays", fn := fun _ => fun
  | [d1, d2, d3, d4] => { results := [.lit (.bool false)], args := [d1, d2, d3, d4] }
  | _ => none }
def LimitPlaysWrongFalsely : Prop := limitPlaysRow.holds Try.pinned (OpenSpec.ofChange limitPlaysWrong)

/-- 'beaconlaw20.LimitBounds': WHATEVER THE INPUT: true; the input reads as it did. -/
def limitBoundsSpec : ChangeSpec := { name := "limitBounds", fn := fun _ => fun
  | [d1, d2, d3, d4] => { results := [.lit (.bool true)], args := [d1, d2, d3, d4] }
  | _ => none }
def limitBoundsRow : OpenClaim := { program := "ytkbbelbcjokncaa", sum := "a6fea399204ffbb0c713cc9b25690afbb46823bf54cbc019fa898cd8121d0948", func := "beacon/beaconlaw20.LimitBounds", spec := "limitBounds", apart := false }
def LimitBoundsSaid : Prop := limitBoundsRow.holds Try.pinned (OpenSpec.ofChange limitBoundsSpec)

/-- ITS FALSE NEIGHBOUR: 'it returns false'. Refute it at one input. -/
def limitBoundsWrong : ChangeSpec := { name := "limitBounds", fn := fun _ => fun
  | [d1, d2, d3, d4] => { results := [.lit (.bool false)], args := [d1, d2, d3, d4] }
  | _ => none }
def LimitBoundsWrongFalsely : Prop := limitBoundsRow.holds Try.pinned (OpenSpec.ofChange limitBoundsWrong)

/-- 'beaconlaw20.LimitSize': WHATEVER THE INPUT: true; the input reads as it did. -/
def limitSizeSpec : ChangeSpec := { name := "limitSize", fn := fun _ => fun
  | [d1, d2] => { results := [.lit (.bool true)], args := [d1, d2] }
  | _ => none }
def limitSizeRow : OpenClaim := { program := "ytkbbelbcjokncaa", sum := "a6fea399204ffbb0c713cc9b25690afbb46823bf54cbc019fa898cd8121d0948", func := "beacon/beaconlaw20.LimitSize", spec := "limitSize", apart := false }
def LimitSizeSaid : Prop := limitSizeRow.holds Try.pinned (OpenSpec.ofChange limitSizeSpec)

/-- ITS FALSE NEIGHBOUR: 'it returns false'. Refute it at one input. -/
def limitSizeWrong : ChangeSpec := { name := "limitSize", fn := fun _ => fun
  | [d1, d2] => { results := [.lit (.bool false)], args := [d1, d2] }
  | _ => none }
def LimitSizeWrongFalsely : Prop := limitSizeRow.holds Try.pinned (OpenSpec.ofChange limitSizeWrong)

/-- 'beaconlaw20.LimitNil': WHATEVER THE INPUT: true; the input reads as it did. -/
def limitNilSpec : ChangeSpec := { name := "limitNil", fn := fun _ => fun
  | [d1, d2] => { results := [.lit (.bool true)], args := [d1, d2] }
  | _ => none }
def limitNilRow : OpenClaim := { program := "ytkbbelbcjokncaa", sum := "a6fea399204ffbb0c713cc9b25690afbb46823bf54cbc019fa898cd8121d0948", func := "beacon/beaconlaw20.LimitNil", spec := "limitNil", apart := false }
def LimitNilSaid : Prop := limitNilRow.holds Try.pinned (OpenSpec.ofChange limitNilSpec)

/-- ITS FALSE NEIGHBOUR: 'it returns false'. Refute it at one input. -/
def limitNilWrong : ChangeSpec := { name := "limitNil", fn := fun _ => fun
  | [d1, d2] => { results := [.lit (.bool false)], args := [d1, d2] }
  | _ => none }
def LimitNilWrongFalsely : Prop := limitNilRow.holds Try.pinned (OpenSpec.ofChange limitNilWrong)

/- THE SECOND FORM. 'bulk': how many values and letters a reading holds, each counted each time it is reached (what is shared counts as often as it is met; a slice's spare places count too). A statement '..UptoSaid' is the law's where the arguments, and the package variables that the reading takes, are together of bulk at most 1048576: NARROWER than '..Said'. Prove '..Said' where nothing that the law and all that it calls make is longer than what came in: it says more and counts as full. Else prove '..UptoSaid'. A law counts once. -/
mutual
def uptoBulk {H : Type} : DataW H → Nat
  | .lit (.string bytes) => bytes.length + 1
  | .lit _ => 1
  | .nil => 1
  | .ptr d => uptoBulk d + 1
  | .slice elems spare => uptoBulkAll elems + uptoBulkAll spare + 1
  | .agg parts => uptoBulkAll parts + 1
  | .iface _ d => uptoBulk d + 1
  | .map entries => uptoBulkEntries entries + 1
  | .held _ => 1
def uptoBulkAll {H : Type} : List (DataW H) → Nat
  | [] => 0
  | d :: r => uptoBulk d + uptoBulkAll r
def uptoBulkEntries {H : Type} : List (Lit × DataW H) → Nat
  | [] => 0
  | x :: r => uptoBulkEntry x + uptoBulkEntries r
def uptoBulkEntry {H : Type} : Lit × DataW H → Nat
  | (.string bytes, d) => bytes.length + uptoBulk d + 1
  | (_, d) => uptoBulk d + 1
 end
def uptoSmall : (H : Type) → List (DataW H) → Bool := fun _ ds => decide (uptoBulkAll ds ≤ 1048576)
def OpenSpec.upto (s : _root_.Go.ChangeSpec) : _root_.Go.OpenSpec := { _root_.Go.OpenSpec.ofChange s with cond := some uptoSmall }

/-- 'beaconlaw20.LimitApart', WHERE WHAT IT READS IS OF BULK AT MOST 1048576: true; the input reads as it did. -/
def limitApartUptoRow : OpenClaim := { program := "ytkbbelbcjokncaa", sum := "a6fea399204ffbb0c713cc9b25690afbb46823bf54cbc019fa898cd8121d0948", func := "beacon/beaconlaw20.LimitApart", spec := "limitApart", apart := false, narrowed := true }
def LimitApartUptoSaid : Prop := limitApartUptoRow.holds Try.pinned (OpenSpec.upto limitApartSpec)

/-- 'beaconlaw20.LimitPlays', WHERE WHAT IT READS IS OF BULK AT MOST 1048576: true; the input reads as it did. -/
def limitPlaysUptoRow : OpenClaim := { program := "ytkbbelbcjokncaa", sum := "a6fea399204ffbb0c713cc9b25690afbb46823bf54cbc019fa898cd8121d0948", func := "beacon/beaconlaw20.LimitPlays", spec := "limitPlays", apart := false, narrowed := true }
def LimitPlaysUptoSaid : Prop := limitPlaysUptoRow.holds Try.pinned (OpenSpec.upto limitPlaysSpec)

/-- 'beaconlaw20.LimitBounds', WHERE WHAT IT READS IS OF BULK AT MOST 1048576: true; the input reads as it did. -/
def limitBoundsUptoRow : OpenClaim := { program := "ytkbbelbcjokncaa", sum := "a6fea399204ffbb0c713cc9b25690afbb46823bf54cbc019fa898cd8121d0948", func := "beacon/beaconlaw20.LimitBounds", spec := "limitBounds", apart := false, narrowed := true }
def LimitBoundsUptoSaid : Prop := limitBoundsUptoRow.holds Try.pinned (OpenSpec.upto limitBoundsSpec)

/-- 'beaconlaw20.LimitSize', WHERE WHAT IT READS IS OF BULK AT MOST 1048576: true; the input reads as it did. -/
def limitSizeUptoRow : OpenClaim := { program := "ytkbbelbcjokncaa", sum := "a6fea399204ffbb0c713cc9b25690afbb46823bf54cbc019fa898cd8121d0948", func := "beacon/beaconlaw20.LimitSize", spec := "limitSize", apart := false, narrowed := true }
def LimitSizeUptoSaid : Prop := limitSizeUptoRow.holds Try.pinned (OpenSpec.upto limitSizeSpec)

/-- 'beaconlaw20.LimitNil', WHERE WHAT IT READS IS OF BULK AT MOST 1048576: true; the input reads as it did. -/
def limitNilUptoRow : OpenClaim := { program := "ytkbbelbcjokncaa", sum := "a6fea399204ffbb0c713cc9b25690afbb46823bf54cbc019fa898cd8121d0948", func := "beacon/beaconlaw20.LimitNil", spec := "limitNil", apart := false, narrowed := true }
def LimitNilUptoSaid : Prop := limitNilUptoRow.holds Try.pinned (OpenSpec.upto limitNilSpec)

end Rows
end Go.Proofs.Ytkbbelbcjokncaa
