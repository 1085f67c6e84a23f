/- An argument opened: an int64. No conditions. -/
import Derived.Test.YtkbbelbcjokncaaArgHead
import Derived.OpenShut
import Derived.ProofKit
import Derived.SizedLaws
import Derived.Deep.Slices
namespace Go.Proofs.Ytkbbelbcjokncaa
open Go.RowKit Go.ChangeShapes Go.WideShapes Go.Deep
section
variable {H : Type} {enc : TypeId × Value → H} {w : World} {base : Nat} {held : Bool}
def ArgI64 (v : Value) (n : Int) : Prop := v = .int .i64 n ∧ -9223372036854775808 ≤ n ∧ n ≤ 9223372036854775807
variable {r : Reach} {b0 : Nat} {v : Value} {d : DataW H} {p : List MemPlace}
set_option maxRecDepth 100000 in
theorem arg_i64 (hv : Value.okWide Try.prog w r b0 2 v) (h : DataW.Trod enc Try.prog w base (fun _ => true) held 2 v d p) (_hs : (d.weights Try.prog 2).all (· ≤ reachBytes) = true) : ∃ n, ArgI64 v n := by
  obtain ⟨x, rfl, rfl, rfl, wx⟩ := open_int Try.underlying2 hv h
  have := bounds_i64 wx
  exact ⟨x, rfl, by omega, by omega⟩
end
end Go.Proofs.Ytkbbelbcjokncaa
