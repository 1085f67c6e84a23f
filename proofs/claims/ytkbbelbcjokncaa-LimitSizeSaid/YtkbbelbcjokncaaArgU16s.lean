/- An argument opened: a []uint16. No conditions. -/
import Derived.Test.YtkbbelbcjokncaaArgHead
import Derived.OpenShut
import Derived.ProofKit
import Derived.SizedLaws
import Derived.Deep.Slices
namespace Go.Proofs.Ytkbbelbcjokncaa
open Go.RowKit Go.ChangeShapes Go.WideShapes Go.Deep
section
variable {H : Type} {enc : TypeId × Value → H} {w : World} {base : Nat} {held : Bool}
def ArgU16s (w : World) (v : Value) (l : List Int) : Prop := ∃ A c, v = .slice A l.length c ∧ Reads w w.heap.size 1 A l.length (l.map (Value.int .u16)) ∧ (∀ x ∈ l, 0 ≤ x ∧ x < 65536) ∧ l.length ≤ reachBytes
theorem cells16 : Try.prog.cellsOf 41 = 1 := by kernel_rfl
theorem bytes16 : Try.prog.bytesOf 41 = 2 := by kernel_rfl
variable {r : Reach} {b0 : Nat} {v : Value} {d : DataW H} {p : List MemPlace}
theorem b16 {n : Int} (h : (Lit.int .u16 n).wf = true) : 0 ≤ n ∧ n < 65536 := by
  have h0 : IntKind.u16.min = 0 := by decide
  have h1 : IntKind.u16.max = 65535 := by decide
  simp [Lit.wf] at h
  omega
set_option maxRecDepth 100000 in
theorem arg_u16s (hv : Value.okWide Try.prog w r b0 40 v) (h : DataW.Trod enc Try.prog w base (fun _ => true) held 40 v d p) (hs : (d.weights Try.prog 40).all (· ≤ reachBytes) = true) : ∃ l, ArgU16s w v l := by
  obtain ⟨fuel, hf⟩ := h
  obtain ⟨A', n', c', rfl⟩ := okWide_slice Try.underlying40 hv
  rcases open_ints Try.underlying40 Try.underlying41 cells16 hf with ⟨hcs, _⟩ | ⟨a, len, cap, zs, hcs, _, hl, hm, hz, hx, hcell, hwz⟩
  · have hcs' : [Value.slice A' n' c'] = [Value.slice none 0 0] := hcs
    simp only [List.cons.injEq, Value.slice.injEq, and_true] at hcs'
    obtain ⟨rfl, rfl, rfl⟩ := hcs'
    exact ⟨[], none, 0, rfl, Reads.none_, fun x hx => (by cases hx), Nat.zero_le _⟩
  · have hcs' : [Value.slice A' n' c'] = [Value.slice (some a) len cap] := hcs
    simp only [List.cons.injEq, Value.slice.injEq, and_true] at hcs'
    obtain ⟨rfl, rfl, rfl⟩ := hcs'
    simp only [if_true] at hz
    have hlen : (zs.take n').length = n' := by simp; omega
    refine ⟨zs.take n', some a, c', by rw [hlen], ?_, fun x hx => b16 (hwz x (List.mem_of_mem_take hx)), ?_⟩
    · rw [hlen]
      refine ⟨by simp; omega, fun h0 => ⟨a, rfl, ?_, fun j u hu => ?_⟩⟩
      · have h1 := World.block_lt_of_cell? w _ (hcell 0 (by omega))
        rwa [block_of_add] at h1
      · have hj : j < n' := by
          have := (List.getElem?_eq_some_iff.1 hu).1
          simp at this; omega
        rw [hcell j (by omega)]
        simp [hj, List.getElem?_eq_getElem (show j < zs.length by omega)] at hu
        simp [List.getElem?_eq_getElem (show j < zs.length by omega), hu]
    · rw [hlen]
      have hx' := congrArg Prod.fst hx
      simp only at hx'
      rw [hx'] at hs
      have := List.all_eq_true.1 hs (zs.length * 2) (by simp [DataW.weights, Try.underlying40, bytes16, lits]; omega)
      simp at this; omega
end
end Go.Proofs.Ytkbbelbcjokncaa
