/- The texts ArgStr of this work, merged by wip/merge.py. No conditions. -/
import Derived.Test.YtkbopeoaoakfnaaDoorQA
import Derived.OpenShut
import Derived.ProofKit
import Derived.SizedLaws
import Derived.Deep.Slices
namespace Go.Proofs.YtkbopeoaoakfnaaDoor
open Go.RowKit Go.ChangeShapes Go.WideShapes Go.Deep
section
variable {H : Type} {enc : TypeId × Value → H} {w : World} {base : Nat} {held : Bool}
def ArgS (v : Value) (s : ByteArray) : Prop := v = .string s ∧ s.size ≤ reachBytes
variable {r : Reach} {b0 : Nat} {v : Value} {d : DataW H} {p : List MemPlace}
set_option maxRecDepth 100000 in
theorem arg_string (hv : Value.okWide Tryd.prog w r b0 9 v) (h : DataW.Trod enc Tryd.prog w base (fun _ => true) held 9 v d p) (_hs : (d.weights Tryd.prog 9).all (· ≤ reachBytes) = true) : ∃ s, ArgS v s := by
  obtain ⟨s, rfl, rfl, rfl, hw⟩ := Go.ChangeMaps.open_string Tryd.underlying9 hv h
  refine ⟨s, rfl, ?_⟩
  have h1 : decide (s.data.toList.length ≤ reachBytes) = true := List.all_eq_true.1 _hs s.data.toList.length (by unfold DataW.weights; exact List.mem_cons_self)
  have h2 : s.data.toList.length = s.size := Array.length_toList
  rw [← h2]
  exact of_decide_eq_true h1
end
end Go.Proofs.YtkbopeoaoakfnaaDoor
