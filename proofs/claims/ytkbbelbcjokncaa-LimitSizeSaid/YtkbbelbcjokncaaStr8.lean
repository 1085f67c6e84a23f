/- A slice of bytes made a string. No conditions. -/

import Derived.Test.YtkbbelbcjokncaaU8
namespace Go.Proofs.Ytkbbelbcjokncaa
open Go.RowKit
/-- A slice of bytes made a string. -/
theorem run_str8 {w : World} {B n : Nat} {A : Option Addr} {l : List UInt8} (hr : Reads w B 1 A n (bvs l)) (c : Nat) : (convert 23 9 (.slice A n c)).run Try.prog w = .ok (.string ⟨l.toArray⟩) w := by
  have hm : n = l.length := by have := hr.1; rw [bvs_length] at this; omega
  subst hm
  cases A with
  | none =>
    have hn : l = [] := by
      cases l with
      | nil => rfl
      | cons a l => obtain ⟨_, h, _⟩ := hr.2 (by simp); cases h
    subst hn
    rw [run_convert_bytes_nil w 23 5 Try.underlying23 Try.underlying5 _ _ _ Try.underlying9]
    rfl
  | some ad =>
    refine run_convert_bytes_back (P := Try.prog) w 23 9 5 ad c l Try.underlying23 Try.underlying5 Try.underlying9 fun j hj => ?_
    obtain ⟨ad', h, _, hc⟩ := hr.2 (by omega)
    cases h
    exact hc j _ (by simp [bvs, bv, List.getElem?_eq_getElem hj])
end Go.Proofs.Ytkbbelbcjokncaa
