/- Bytes of the call's own, for a seat that has no [][]byte. No conditions. -/
import Derived.Test.YtkbopeoaoakfnaaDoorU8
namespace Go.Proofs.YtkbopeoaoakfnaaDoor
open Go.RowKit
theorem own8_form {w : World} {base : Nat} {v : Value} {l : List UInt8} (h : Own8 w base v l) : ∃ A c, v = .slice A l.length c ∧ l.length ≤ c ∧ Reads w w.heap.size 1 A l.length (bvs l) := by
  have h0 := h
  obtain ⟨hl, h | ⟨g, cap, cur, rfl, hb, hh, hle, _⟩⟩ := h
  · obtain ⟨rfl, hn⟩ := h
    have : l = [] := List.eq_nil_of_length_eq_zero hn
    subst this
    exact ⟨none, 0, rfl, by simp, Reads.none_⟩
  · exact ⟨_, cap, rfl, hle, Reads.of_own h0⟩
theorem own8_form' {w : World} {base n : Nat} {v : Value} {l : List UInt8} (h : Own8 w base v l) (hl : l.length = n) : ∃ A c, v = .slice A n c ∧ n ≤ c ∧ Reads w w.heap.size 1 A n (bvs l) := by
  subst hl; exact own8_form h
theorem own8_keep {w w' : World} {base : Nat} {v : Value} {l : List UInt8} {row : Option Nat} (h : Own8 w base v l) (hg : w.grownBy w' row) (hne : v.ownBlock = none ∨ v.ownBlock ≠ row) : Own8 w' base v l := World.ownsRow.kept h hg hne
theorem own8_lt {w : World} {base : Nat} {v : Value} {l : List UInt8} (h : Own8 w base v l) : ∀ k, v.ownBlock = some k → base ≤ k ∧ k < w.heap.size := World.ownsRow.lt h
theorem own8_base {w : World} {base base' : Nat} {v : Value} {l : List UInt8} (h : Own8 w base v l) (hb : base' ≤ base) : Own8 w base' v l := by
  obtain ⟨hl, h | ⟨g, cap, cur, h1, h2, h3⟩⟩ := h
  · exact ⟨hl, .inl h⟩
  · exact ⟨hl, .inr ⟨g, cap, cur, h1, by omega, h3⟩⟩
theorem grown_of_below {w w' : World} (h : Below w.heap.size w w') (row : Option Nat) : w.grownBy w' row := ⟨h.os, h.tape, h.output, h.size, fun k hk _ => h.block k hk⟩
theorem own8_below {w w' : World} {base : Nat} {v : Value} {l : List UInt8} (h : Own8 w base v l) (hb : Below w.heap.size w w') : Own8 w' base v l := own8_keep h (grown_of_below hb none) (by cases v.ownBlock <;> simp)
theorem run_str8 {w : World} {B n : Nat} {A : Option Addr} {l : List UInt8} (hr : Reads w B 1 A n (bvs l)) (c : Nat) : (convert 64 9 (.slice A n c)).run Tryd.prog w = .ok (.string ⟨l.toArray⟩) w := by
  have hm : n = l.length := by have := hr.1; rw [bvs_length] at this; omega
  subst hm
  cases A with
  | none =>
    have hn : l = [] := by
      cases l with
      | nil => rfl
      | cons a l => obtain ⟨_, h, _⟩ := hr.2 (by simp); cases h
    subst hn
    rw [run_convert_bytes_nil w 64 5 Tryd.underlying64 Tryd.underlying5 _ _ _ Tryd.underlying9]
    rfl
  | some ad =>
    refine run_convert_bytes_back (P := Tryd.prog) w 64 9 5 ad c l Tryd.underlying64 Tryd.underlying5 Tryd.underlying9 fun j hj => ?_
    obtain ⟨ad', h, _, hc⟩ := hr.2 (by omega)
    cases h
    exact hc j _ (by simp [bvs, bv, List.getElem?_eq_getElem hj])
end Go.Proofs.YtkbopeoaoakfnaaDoor
