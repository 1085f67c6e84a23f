/- The texts ArgU8 of this work, merged by wip/merge.py. No conditions. -/
import Derived.Test.YtmjlneehjlpdlaaDoorQA
import Derived.OpenShut
import Derived.ProofKit
import Derived.SizedLaws
import Derived.Deep.Slices
namespace Go.Proofs.YtmjlneehjlpdlaaDoor
open Go.RowKit Go.ChangeShapes Go.WideShapes Go.Deep
section
variable {H : Type} {enc : TypeId × Value → H} {w : World} {base : Nat} {held : Bool}
def ArgU8 (v : Value) (b : UInt8) : Prop := v = .int .u8 (b.toNat : Int)
variable {r : Reach} {b0 : Nat} {v : Value} {d : DataW H} {p : List MemPlace}
set_option maxRecDepth 100000 in
theorem arg_u8 (hv : Value.okWide Tryd.prog w r b0 5 v) (h : DataW.Trod enc Tryd.prog w base (fun _ => true) held 5 v d p) (_hs : (d.weights Tryd.prog 5).all (· ≤ reachBytes) = true) : ∃ n, ArgU8 v n := by
  obtain ⟨x, rfl, rfl, rfl, wx⟩ := open_int Tryd.underlying5 hv h
  have := bounds_u8 wx
  refine ⟨UInt8.ofNat x.toNat, ?_⟩
  unfold ArgU8
  congr 1
  rw [UInt8.toNat_ofNat']
  omega
end
end Go.Proofs.YtmjlneehjlpdlaaDoor
