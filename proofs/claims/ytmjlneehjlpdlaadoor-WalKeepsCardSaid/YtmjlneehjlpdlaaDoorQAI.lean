/- The texts ArgInt of this work, merged by wip/merge.py. No conditions. -/
import Derived.Test.YtmjlneehjlpdlaaDoorQA
import Derived.OpenShut
import Derived.ProofKit
import Derived.SizedLaws
import Derived.Deep.Slices
namespace Go.Proofs.YtmjlneehjlpdlaaDoor
open Go.RowKit Go.ChangeShapes Go.WideShapes Go.Deep
section
variable {H : Type} {enc : TypeId × Value → H} {w : World} {base : Nat} {held : Bool}
def ArgI (v : Value) (n : Int) : Prop := v = .int .i64 n ∧ -9223372036854775808 ≤ n ∧ n ≤ 9223372036854775807
variable {r : Reach} {b0 : Nat} {v : Value} {d : DataW H} {p : List MemPlace}
set_option maxRecDepth 100000 in
theorem arg_int (hv : Value.okWide Tryd.prog w r b0 3 v) (h : DataW.Trod enc Tryd.prog w base (fun _ => true) held 3 v d p) (_hs : (d.weights Tryd.prog 3).all (· ≤ reachBytes) = true) : ∃ n, ArgI v n := by
  obtain ⟨x, rfl, rfl, rfl, wx⟩ := open_int Tryd.underlying3 hv h
  have := bounds_i64 wx
  exact ⟨x, rfl, by omega, by omega⟩
end
end Go.Proofs.YtmjlneehjlpdlaaDoor
