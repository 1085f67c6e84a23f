/- An argument opened: a bool. No conditions. -/
import Derived.Test.YtjichadkonlfpaaDoorArgHead
import Derived.OpenShut
import Derived.ProofKit
import Derived.SizedLaws
namespace Go.Proofs.YtjichadkonlfpaaDoor
open Go.RowKit Go.ChangeShapes Go.WideShapes Go.Deep
section
variable {H : Type} {enc : TypeId × Value → H} {w : World} {base : Nat} {held : Bool}
def ArgBl (v : Value) (b : Bool) : Prop := v = .bool b
variable {r : Reach} {b0 : Nat} {v : Value} {d : DataW H} {p : List MemPlace}
set_option maxRecDepth 100000 in
theorem arg_bool (hv : Value.okWide Tryd.prog w r b0 4 v) (h : DataW.Trod enc Tryd.prog w base (fun _ => true) held 4 v d p) (_hs : (d.weights Tryd.prog 4).all (· ≤ reachBytes) = true) : ∃ b, ArgBl v b := by
  obtain ⟨x, rfl, rfl, rfl⟩ := open_bool Tryd.underlying4 hv h
  exact ⟨x, rfl⟩
end
end Go.Proofs.YtjichadkonlfpaaDoor
