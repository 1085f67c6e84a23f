/- The walks of the disk's small methods. No conditions. -/
import Derived.Test.YtdggibigfocadaaD2
namespace Go.Proofs.Ytdggibigfocadaa
open Go.RowKit
variable {w w' : World} {base g : Nat} {own : Nat → Prop} {s : DS} {S P : Value}

theorem Dsk.formS (h : Dsk w base own g s S P) : ∃ A c, S = .slice A s.secs.length c := by
  obtain ⟨_, ⟨rfl, h0⟩ | ⟨g', cap, cur, rfl, _⟩⟩ := h.rowS
  · exact ⟨none, 0, by rw [h0]⟩
  · exact ⟨_, cap, rfl⟩
theorem Dsk.formP (h : Dsk w base own g s S P) : ∃ A c, P = .slice A s.pend.length c := by
  obtain ⟨_, ⟨rfl, h0⟩ | ⟨g', cap, cur, rfl, _⟩⟩ := h.rowP
  · exact ⟨none, 0, by rw [h0]⟩
  · exact ⟨_, cap, rfl⟩

set_option maxRecDepth 100000 in
set_option maxHeartbeats 1000000 in
theorem Waiting_any (h : Dsk w base own g s S P) : Calls Try.prog 16 #[.pointer (some ⟨g, 0, none⟩)] w fun e w' => e = .returned (.int .i64 (s.pend.length : Int)) ∧ w' = w := by
  have f1 := h.field (i := 1) rfl
  obtain ⟨A, c, rfl⟩ := h.formP
  go_enter Try.func16, Try.ntmps16
  go_wp2
  go_ret
  exact ⟨rfl, rfl⟩
set_option maxRecDepth 100000 in
set_option maxHeartbeats 1000000 in
theorem Down_any (h : Dsk w base own g s S P) : Calls Try.prog 17 #[.pointer (some ⟨g, 0, none⟩)] w fun e w' => e = .returned (.bool s.down) ∧ w' = w := by
  have f3 := h.field (i := 3) rfl
  go_enter Try.func17, Try.ntmps17
  go_wp2
  go_ret
  exact ⟨rfl, rfl⟩
set_option maxRecDepth 100000 in
set_option maxHeartbeats 1000000 in
theorem SetFull_any (h : Dsk w base own g s S P) (b : Bool) : Calls Try.prog 12 #[.pointer (some ⟨g, 0, none⟩), .bool b] w fun e w' => e = .returned (.tuple #[]) ∧ Dsk w' base own g { s with full := b } S P ∧ Turns own w w' := by
  have f2 := h.field (i := 2) rfl
  have hfz := h.unfrozen
  go_enter Try.func12, Try.ntmps12
  go_wp2
  first
    | go_end0
    | (refine bodyPost_ret (results_none rfl _ _ _) rfl ?_)
  exact ⟨rfl, h.put (s' := { s with full := b }) rfl rfl rfl⟩
set_option maxRecDepth 100000 in
set_option maxHeartbeats 1000000 in
theorem has_any (h : Dsk w base own g s S P) (n : Int) : Calls Try.prog 29 #[.pointer (some ⟨g, 0, none⟩), .int .i64 n] w fun e w' => e = .returned (.bool (decide (0 ≤ n ∧ n < (s.secs.length : Int)))) ∧ w' = w := by
  have f0 := h.field (i := 0) rfl
  obtain ⟨A, c, rfl⟩ := h.formS
  by_cases hn : 0 ≤ n
  · go_enter Try.func29, Try.ntmps29
    go_wp2
    go_ret
    exact ⟨by simp [hn], rfl⟩
  · go_enter Try.func29, Try.ntmps29
    go_wp2
    go_ret
    exact ⟨by simp; omega, rfl⟩
end Go.Proofs.Ytdggibigfocadaa
