/- An argument opened: a slice of asks, each a string and an int64. No conditions. -/
import Derived.Test.YtkbbelbcjokncaaArgHead
import Derived.OpenShut
import Derived.ProofKit
import Derived.SizedLaws
import Derived.Deep.SlicePairs
namespace Go.Proofs.Ytkbbelbcjokncaa
open Go.RowKit Go.ChangeShapes Go.WideShapes Go.Deep
section
variable {H : Type} {enc : TypeId × Value → H} {w : World} {base : Nat} {held : Bool}
/-- Ask number i lies in the arguments. -/
def AskAt (w : World) (B : Nat) (A : Option Addr) (i : Nat) (q : ByteArray × Int) : Prop :=
  ∃ b off, A = some ⟨b, off, none⟩ ∧ b < B ∧ w.cell? ⟨b, off + i * 2, none⟩ = some (.string q.1) ∧ w.cell? ⟨b, off + (i * 2 + 1), none⟩ = some (.int .i64 q.2)
def ArgAsks (w : World) (v : Value) (l : List (ByteArray × Int)) : Prop :=
  ∃ A c, v = .slice A l.length c ∧ l.length ≤ 9223372036854775807 ∧ ∀ i q, l[i]? = some q → AskAt w w.heap.size A i q ∧ q.1.size ≤ maxLen ∧ -9223372036854775808 ≤ q.2 ∧ q.2 ≤ 9223372036854775807
variable {r : Reach} {b0 : Nat} {v : Value} {d : DataW H} {p : List MemPlace}
theorem cellsAsk : Try.prog.cellsOf 31 = 2 := by kernel_rfl
theorem cellsStr : Try.prog.cellsOf 9 = 1 := by kernel_rfl
theorem cellsI64 : Try.prog.cellsOf 2 = 1 := by kernel_rfl
set_option maxRecDepth 100000 in
theorem arg_asks (hv : Value.okWide Try.prog w r b0 22 v) (h : DataW.Trod enc Try.prog w base (fun _ => true) held 22 v d p) (_hs : (d.weights Try.prog 22).all (· ≤ reachBytes) = true) : ∃ l, ArgAsks w v l := by
  obtain ⟨fuel, hf⟩ := h
  obtain ⟨A', n', c', rfl⟩ := okWide_slice Try.underlying22 hv
  rcases open_slice_pairs Try.underlying22 Try.underlying31 cellsAsk rfl rfl cellsStr cellsI64 hf with ⟨hcs, _⟩ | ⟨a, len, cap, m, n, V0, V1, D0, D1, P0, P1, hcs, _, hl, hm, hmm, _, hi⟩
  · have hcs' : [Value.slice A' n' c'] = [Value.slice none 0 0] := hcs
    simp only [List.cons.injEq, Value.slice.injEq, and_true] at hcs'
    obtain ⟨rfl, rfl, rfl⟩ := hcs'
    exact ⟨[], none, 0, rfl, by simp, fun i q hq => by simp at hq⟩
  · have hcs' : [Value.slice A' n' c'] = [Value.slice (some a) len cap] := hcs
    simp only [List.cons.injEq, Value.slice.injEq, and_true] at hcs'
    obtain ⟨rfl, rfl, rfl⟩ := hcs'
    simp only [if_true] at hmm
    have each : ∀ i, i < n' → ∃ q : ByteArray × Int, AskAt w w.heap.size (some a) i q ∧ q.1.size ≤ maxLen ∧ -9223372036854775808 ≤ q.2 ∧ q.2 ≤ 9223372036854775807 := by
      intro i hin
      obtain ⟨h0, h1, t0, t1⟩ := hi i (by omega)
      obtain ⟨s, e0, _, es⟩ := DataW.trod_string Try.underlying9 t0
      obtain ⟨z, e1, _, ez⟩ := DataW.trod_int Try.underlying2 t1
      obtain ⟨b, off, spot⟩ := a
      have h00 := (hi 0 (by omega)).1
      have hs : spot = none := by simpa [Addr.add] using World.cell?_spot h00
      subst hs
      rw [add_none] at h0 h1
      have e0' : V0 i = .string s := by simpa using e0
      have e1' : V1 i = .int .i64 z := by simpa using e1
      rw [e0'] at h0
      rw [e1'] at h1
      have hz := bounds_i64 ez
      refine ⟨(s, z), ⟨b, off, rfl, ?_, h0, h1⟩, es, by show _ ≤ z; omega, by show z ≤ _; omega⟩
      exact World.block_lt_of_cell? w _ h0
    obtain ⟨q, hq⟩ := choose_lt each
    have hlen : ((List.range n').map q).length = n' := by simp
    refine ⟨(List.range n').map q, some a, c', by rw [hlen], by rw [hlen]; simp only [maxLen] at hm; omega, fun i y hy => ?_⟩
    have hin : i < n' := by
      have := (List.getElem?_eq_some_iff.1 hy).1
      rwa [hlen] at this
    have : y = q i := by simp [hin] at hy; exact hy.symm
    subst this
    exact hq i hin
end
end Go.Proofs.Ytkbbelbcjokncaa
