/- An argument of bytes opened where what is read is of small bulk. No conditions. -/
import Derived.Test.YtjichadkonlfpaaDoorArgBytes
import Derived.Test.YtjichadkonlfpaaDoorUpto
namespace Go.Proofs.YtjichadkonlfpaaDoor
open Go.RowKit Go.ChangeShapes Go.WideShapes Go.Deep
section
variable {H : Type} {enc : TypeId × Value → H} {w : World} {base : Nat} {held : Bool}
theorem bytes_bulk {fuel : Nat} {cs : List Value} {x : DataW H × List MemPlace} {A : Option Addr} {n c : Nat} (h : DataW.trod enc Tryd.prog w base (fun _ => true) held fuel 24 cs = some x) (hcs : cs = [.slice A n c]) : n ≤ Rows.uptoBulk x.1 := by
  rcases open_ints Tryd.underlying24 Tryd.underlying5 cells8 h with ⟨h1, hx⟩ | ⟨a, len, cap, zs, h1, _, hl, hm, hz, hx, _, _⟩
  · rw [hcs] at h1
    simp only [List.cons.injEq, Value.slice.injEq, and_true] at h1
    omega
  · rw [hcs] at h1
    simp only [List.cons.injEq, Value.slice.injEq, and_true] at h1
    simp only [if_true] at hz
    rw [hx]
    have h2 := bulk_all (lits .u8 (zs.take len) : List (DataW H))
    have h3 : (lits .u8 (zs.take len) : List (DataW H)).length = len := by simp [lits]; omega
    simp only [Rows.uptoBulk]
    omega
variable {r : Reach} {b0 : Nat} {v : Value} {d : DataW H} {p : List MemPlace}
set_option maxRecDepth 100000 in
theorem arg_bytes_bulk {n : Nat} (hv : Value.okWide Tryd.prog w r b0 24 v) (h : DataW.Trod enc Tryd.prog w base (fun _ => true) held 24 v d p) (hs : (d.weights Tryd.prog 24).all (· ≤ reachBytes) = true) (hb : Rows.uptoBulk d ≤ n) : ∃ l, ArgB w v l ∧ l.length ≤ n := by
  obtain ⟨l, ha⟩ := arg_bytes hv h hs
  refine ⟨l, ha, ?_⟩
  obtain ⟨A, c, rfl, _⟩ := ha
  obtain ⟨fuel, hf⟩ := h
  have h1 := bytes_bulk hf rfl
  simp only at h1
  omega
end
end Go.Proofs.YtjichadkonlfpaaDoor
