/- reason, Decimal: what the responses are made of. No conditions. -/
import Derived.Test.YtjichadkonlfpaaDoorHA1
import Derived.Test.YtjichadkonlfpaaDoorHShelf
namespace Go.Proofs.YtjichadkonlfpaaDoor
open Go.RowKit
def reasons : List (Int × List UInt8) := [(200, [79, 75]), (202, [65, 99, 99, 101, 112, 116, 101, 100]), (400, [66, 97, 100, 32, 82, 101, 113, 117, 101, 115, 116]), (404, [78, 111, 116, 32, 70, 111, 117, 110, 100]),
  (405, [77, 101, 116, 104, 111, 100, 32, 78, 111, 116, 32, 65, 108, 108, 111, 119, 101, 100]), (409, [67, 111, 110, 102, 108, 105, 99, 116]), (413, [67, 111, 110, 116, 101, 110, 116, 32, 84, 111, 111, 32, 76, 97, 114, 103, 101]),
  (429, [84, 111, 111, 32, 77, 97, 110, 121, 32, 82, 101, 113, 117, 101, 115, 116, 115]), (431, [82, 101, 113, 117, 101, 115, 116, 32, 72, 101, 97, 100, 101, 114, 32, 70, 105, 101, 108, 100, 115, 32, 84, 111, 111, 32, 76, 97, 114, 103, 101]),
  (503, [83, 101, 114, 118, 105, 99, 101, 32, 85, 110, 97, 118, 97, 105, 108, 97, 98, 108, 101])]
def reasonP (st : Int) : List UInt8 := (reasons.lookup st).getD [85, 110, 107, 110, 111, 119, 110]
theorem reasonP_len (st : Int) : (reasonP st).length ≤ 40 := by
  unfold reasonP reasons
  simp only [List.lookup_cons]
  repeat' split
  all_goals simp
theorem reason_other {st : Int} (h : ∀ p ∈ reasons, st ≠ p.1) : reasonP st = [85, 110, 107, 110, 111, 119, 110] := by
  unfold reasonP
  have : reasons.lookup st = none := by
    rw [List.lookup_eq_none_iff]
    intro p hp
    simpa using h p hp
  rw [this]; rfl
set_option maxRecDepth 100000 in
set_option maxHeartbeats 1000000 in
theorem reason_any (st : Int) (w : World) : Calls Tryd.prog 19 #[.int .i64 st] w fun e w' => e = .returned (.string ⟨(reasonP st).toArray⟩) ∧ w' = w := by
  by_cases h : ∀ p ∈ reasons, st ≠ p.1
  · rw [reason_other h]
    simp only [reasons, List.forall_mem_cons, List.not_mem_nil, false_implies, implies_true, and_true] at h
    obtain ⟨a0, a1, a2, a3, a4, a5, a6, a7, a8, a9⟩ := h
    have b0 : (st == 200) = false := by simpa using a0
    have b1 : (st == 202) = false := by simpa using a1
    have b2 : (st == 400) = false := by simpa using a2
    have b3 : (st == 404) = false := by simpa using a3
    have b4 : (st == 405) = false := by simpa using a4
    have b5 : (st == 409) = false := by simpa using a5
    have b6 : (st == 413) = false := by simpa using a6
    have b7 : (st == 429) = false := by simpa using a7
    have b8 : (st == 431) = false := by simpa using a8
    have b9 : (st == 503) = false := by simpa using a9
    clear a0 a1 a2 a3 a4 a5 a6 a7 a8 a9
    go_enter Tryd.func19, Tryd.ntmps19
    go_wp2
    go_ret
    exact ⟨rfl, rfl⟩
  · simp only [reasons, List.forall_mem_cons, List.not_mem_nil, false_implies, implies_true, and_true, Classical.not_and_iff_not_or_not, ne_eq, Classical.not_not] at h
    rcases h with rfl | rfl | rfl | rfl | rfl | rfl | rfl | rfl | rfl | rfl
    all_goals
      go_enter Tryd.func19, Tryd.ntmps19
      go_wp2
      go_ret
      exact ⟨rfl, rfl⟩
set_option maxRecDepth 100000 in
set_option maxHeartbeats 1000000 in
theorem rReason_any (st : Int) (w : World) : Calls Tryd.prog 20 #[.int .i64 st] w fun e w' => e = .returned (.string ⟨(reasonP st).toArray⟩) ∧ w' = w := by
  by_cases h : ∀ p ∈ reasons, st ≠ p.1
  · rw [reason_other h]
    simp only [reasons, List.forall_mem_cons, List.not_mem_nil, false_implies, implies_true, and_true] at h
    obtain ⟨a0, a1, a2, a3, a4, a5, a6, a7, a8, a9⟩ := h
    have b0 : (st == 200) = false := by simpa using a0
    have b1 : (st == 202) = false := by simpa using a1
    have b2 : (st == 400) = false := by simpa using a2
    have b3 : (st == 404) = false := by simpa using a3
    have b4 : (st == 405) = false := by simpa using a4
    have b5 : (st == 409) = false := by simpa using a5
    have b6 : (st == 413) = false := by simpa using a6
    have b7 : (st == 429) = false := by simpa using a7
    have b8 : (st == 431) = false := by simpa using a8
    have b9 : (st == 503) = false := by simpa using a9
    clear a0 a1 a2 a3 a4 a5 a6 a7 a8 a9
    go_enter Tryd.func20, Tryd.ntmps20
    go_wp2
    go_ret
    exact ⟨rfl, rfl⟩
  · simp only [reasons, List.forall_mem_cons, List.not_mem_nil, false_implies, implies_true, and_true, Classical.not_and_iff_not_or_not, ne_eq, Classical.not_not] at h
    rcases h with rfl | rfl | rfl | rfl | rfl | rfl | rfl | rfl | rfl | rfl
    all_goals
      go_enter Tryd.func20, Tryd.ntmps20
      go_wp2
      go_ret
      exact ⟨rfl, rfl⟩
end Go.Proofs.YtjichadkonlfpaaDoor
