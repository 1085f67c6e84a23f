/- The weights of the first argument, and of the rest. No conditions. -/
import Derived.Test.YtkbopeoaoakfnaaDoorU8
import Derived.OpenShut
import Derived.ProofKit
import Derived.SizedLaws
import Derived.Deep.Slices
namespace Go.Proofs.YtkbopeoaoakfnaaDoor
open Go.RowKit Go.ChangeShapes Go.WideShapes Go.Deep
section
variable {H : Type}
theorem weights_head {t : TypeId} {ts : List TypeId} {d : DataW H} {r : List (DataW H)} {p : Nat → Bool} (h : (DataW.weightsEach Tryd.prog (t :: ts) (d :: r)).all p = true) : (d.weights Tryd.prog t).all p = true ∧ (DataW.weightsEach Tryd.prog ts r).all p = true := by
  simp only [DataW.weightsEach, List.all_append, Bool.and_eq_true] at h
  exact h
end
end Go.Proofs.YtkbopeoaoakfnaaDoor
