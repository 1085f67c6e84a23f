/- An argument opened: a []byte. No conditions. -/
import Derived.Test.YtjichadkonlfpaaDoorArgHead
import Derived.OpenShut
import Derived.ProofKit
import Derived.SizedLaws
import Derived.Deep.Slices
namespace Go.Proofs.YtjichadkonlfpaaDoor
open Go.RowKit Go.ChangeShapes Go.WideShapes Go.Deep
section
variable {H : Type} {enc : TypeId × Value → H} {w : World} {base : Nat} {held : Bool}
theorem cells8 : Tryd.prog.cellsOf 5 = 1 := by kernel_rfl
theorem bytes8 : Tryd.prog.bytesOf 5 = 1 := by kernel_rfl

theorem bvs_of_ints (zs : List Int) (h : ∀ n ∈ zs, (Lit.int .u8 n).wf = true) : bvs (zs.map fun n => UInt8.ofNat n.toNat) = zs.map (Value.int .u8) := by
  simp only [bvs, List.map_map]
  apply List.map_congr_left
  intro n hn
  have := bounds_u8 (h n hn)
  simp only [Function.comp, bv]
  congr 1
  rw [UInt8.toNat_ofNat']
  omega

theorem reach_eq : reachBytes = 140737488351232 := rfl
/-- What a walk is told of an argument: a []byte; a [][]byte; a string; a uint64. -/
def ArgB (w : World) (v : Value) (l : List UInt8) : Prop := ∃ A c, v = .slice A l.length c ∧ l.length ≤ c ∧ Reads w w.heap.size 1 A l.length (bvs l) ∧ l.length ≤ reachBytes

theorem open_bytes {fuel : Nat} {cs : List Value} {x : DataW H × List MemPlace} (h : DataW.trod enc Tryd.prog w base (fun _ => true) held fuel 24 cs = some x) :
    ∃ A c l, cs = [.slice A l.length c] ∧ l.length ≤ c ∧ Reads w w.heap.size 1 A l.length (bvs l) ∧ ∀ R, (x.1.weights Tryd.prog 24).all (· ≤ R) = true → l.length ≤ R := by
  rcases open_ints Tryd.underlying24 Tryd.underlying5 cells8 h with ⟨hcs, hx⟩ | ⟨a, len, cap, zs, hcs, _, hl, hm, hz, hx, hcell, hwz⟩
  · exact ⟨none, 0, [], hcs, Nat.le_refl _, Reads.none_, fun R _ => Nat.zero_le _⟩
  · simp only [if_true] at hz
    have hlen : ((zs.take len).map fun n => UInt8.ofNat n.toNat).length = len := by simp; omega
    refine ⟨some a, cap, (zs.take len).map fun n => UInt8.ofNat n.toNat, by rw [hlen]; exact hcs, by rw [hlen]; exact hl, ?_, ?_⟩
    · rw [bvs_of_ints _ (fun n hn => hwz n (List.mem_of_mem_take hn)), hlen]
      refine ⟨by simp; omega, fun h0 => ⟨a, rfl, ?_, fun j u hu => ?_⟩⟩
      · have h1 := World.block_lt_of_cell? w _ (hcell 0 (by omega))
        rwa [block_of_add] at h1
      · have hj : j < len := by
          have := (List.getElem?_eq_some_iff.1 hu).1
          simp at this; omega
        rw [hcell j (by omega)]
        simp [hj, List.getElem?_eq_getElem (show j < zs.length by omega)] at hu
        simp [List.getElem?_eq_getElem (show j < zs.length by omega), hu]
    · intro R hR
      rw [hlen]
      rw [hx] at hR
      have := List.all_eq_true.1 hR (zs.length * 1) (by simp [DataW.weights, Tryd.underlying24, bytes8, lits]; omega)
      simp at this; omega

variable {r : Reach} {b0 : Nat} {v : Value} {d : DataW H} {p : List MemPlace}
set_option maxRecDepth 100000 in
theorem arg_bytes (hv : Value.okWide Tryd.prog w r b0 24 v) (h : DataW.Trod enc Tryd.prog w base (fun _ => true) held 24 v d p) (hs : (d.weights Tryd.prog 24).all (· ≤ reachBytes) = true) : ∃ l, ArgB w v l := by
  obtain ⟨fuel, hf⟩ := h
  obtain ⟨A, c, l, hcs, hle, hr, hR⟩ := open_bytes hf
  obtain ⟨A', n', c', rfl⟩ := okWide_slice Tryd.underlying24 hv
  have hcs' : [Value.slice A' n' c'] = [Value.slice A l.length c] := hcs
  simp only [List.cons.injEq, Value.slice.injEq, and_true] at hcs'
  obtain ⟨rfl, rfl, rfl⟩ := hcs'
  exact ⟨l, _, _, rfl, hle, hr, hR _ hs⟩
end
end Go.Proofs.YtjichadkonlfpaaDoor
