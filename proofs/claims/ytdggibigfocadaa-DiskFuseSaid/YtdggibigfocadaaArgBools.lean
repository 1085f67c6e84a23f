/- An argument opened: a []bool. No conditions. -/
import Derived.Test.YtdggibigfocadaaArgHead
import Derived.OpenShut
import Derived.ProofKit
import Derived.SizedLaws
import Derived.Deep.Slices
import Derived.Deep.Grids
namespace Go.Proofs.Ytdggibigfocadaa
open Go.RowKit Go.ChangeShapes Go.WideShapes Go.Deep
section
variable {H : Type} {enc : TypeId × Value → H} {w : World} {base : Nat} {held : Bool}
def ArgBs (w : World) (v : Value) (l : List Bool) : Prop := ∃ A c, v = .slice A l.length c ∧ Reads w w.heap.size 1 A l.length (l.map Value.bool) ∧ l.length ≤ 9223372036854775807
variable {r : Reach} {b0 : Nat} {v : Value} {d : DataW H} {p : List MemPlace}
theorem cellsBool : Try.prog.cellsOf 4 = 1 := by kernel_rfl
set_option maxRecDepth 100000 in
theorem arg_bools (hv : Value.okWide Try.prog w r b0 39 v) (h : DataW.Trod enc Try.prog w base (fun _ => true) held 39 v d p) (_hs : (d.weights Try.prog 39).all (· ≤ reachBytes) = true) : ∃ l, ArgBs w v l := by
  obtain ⟨fuel, hf⟩ := h
  obtain ⟨A', n', c', rfl⟩ := okWide_slice Try.underlying39 hv
  rcases open_bools Try.underlying39 Try.underlying4 cellsBool hf with ⟨hcs, _⟩ | ⟨a, len, cap, B, hcs, _, hl, hm, _, hcell⟩
  · have hcs' : [Value.slice A' n' c'] = [Value.slice none 0 0] := hcs
    simp only [List.cons.injEq, Value.slice.injEq, and_true] at hcs'
    obtain ⟨rfl, rfl, rfl⟩ := hcs'
    exact ⟨[], none, 0, rfl, Reads.none_, by simp⟩
  · have hcs' : [Value.slice A' n' c'] = [Value.slice (some a) len cap] := hcs
    simp only [List.cons.injEq, Value.slice.injEq, and_true] at hcs'
    obtain ⟨rfl, rfl, rfl⟩ := hcs'
    refine ⟨(List.range n').map B, some a, c', by simp, ?_, by simp only [maxLen] at hm; simp; omega⟩
    have hlen : ((List.range n').map B).length = n' := by simp
    rw [hlen]
    refine ⟨by simp, fun h0 => ⟨a, rfl, ?_, fun j u hu => ?_⟩⟩
    · have h1 := World.block_lt_of_cell? w _ (hcell 0 (by omega))
      rwa [block_of_add] at h1
    · have hj : j < n' := by
        have := (List.getElem?_eq_some_iff.1 hu).1
        simp at this; omega
      rw [hcell j (by omega)]
      simp [hj] at hu
      rw [hu]
end
end Go.Proofs.Ytdggibigfocadaa
