/- The walks of the reference disk's small methods. No conditions. -/
import Derived.Test.YtdggibigfocadaaE1
namespace Go.Proofs.Ytdggibigfocadaa
open Go.RowKit
variable {w w' w0 : World} {base g : Nat} {own : Nat → Prop} {s : DS} {S P : Value}
def FuseOk (s : DS) : Prop := s.lit = true → 0 ≤ s.fuse ∧ s.fuse ≤ 9223372036854775807
set_option maxRecDepth 100000 in
set_option maxHeartbeats 400000 in
theorem RWaiting_any (h : Rdk w base own g s S P) : Calls Try.prog 27 #[.pointer (some ⟨g, 0, none⟩)] w fun e w' => e = .returned (.int .i64 (s.pend.length : Int)) ∧ w' = w := by
  have f1 := h.field (i := 1) rfl
  obtain ⟨A, c, rfl⟩ := h.formP
  go_enter Try.func27, Try.ntmps27
  go_wp2
  go_ret
  exact ⟨rfl, rfl⟩
set_option maxRecDepth 100000 in
set_option maxHeartbeats 400000 in
theorem RDown_any (h : Rdk w base own g s S P) : Calls Try.prog 28 #[.pointer (some ⟨g, 0, none⟩)] w fun e w' => e = .returned (.bool s.down) ∧ w' = w := by
  have f4 := h.field (i := 4) rfl
  go_enter Try.func28, Try.ntmps28
  go_wp2
  go_ret
  exact ⟨rfl, rfl⟩
set_option maxRecDepth 100000 in
set_option maxHeartbeats 400000 in
theorem RSetFull_any (h : Rdk w base own g s S P) (b : Bool) : Calls Try.prog 24 #[.pointer (some ⟨g, 0, none⟩), .bool b] w fun e w' => e = .returned (.tuple #[]) ∧ Rdk w' base own g { s with full := b } S P ∧ Turns own w w' := by
  have f2 := h.field (i := 2) rfl
  have hfz := h.unfrozen
  go_enter Try.func24, Try.ntmps24
  go_wp2
  go_end0
  exact ⟨rfl, h.put (s' := { s with full := b }) rfl rfl rfl⟩
set_option maxRecDepth 100000 in
set_option maxHeartbeats 400000 in
theorem RSetFuse_any (h : Rdk w base own g s S P) (n : Int) : Calls Try.prog 25 #[.pointer (some ⟨g, 0, none⟩), .int .i64 n] w fun e w' => e = .returned (.tuple #[]) ∧ Rdk w' base own g (s.setFuse n) S P ∧ Turns own w w' := by
  have f3 := h.field (i := 3) rfl
  have hfz := h.unfrozen
  have hp := h.put (i := 3) (v := .int .i64 (fuseR (s.setFuse n))) (s' := s.setFuse n) rfl rfl rfl
  have Hp := Lib.hid hp
  have hf : fuseR (s.setFuse n) = if 0 ≤ n then n else -1 := by
    unfold fuseR DS.setFuse
    by_cases hn : 0 ≤ n <;> simp [hn]
  have Hf := Lib.hid hf
  clear hf hp
  by_cases hn : 0 ≤ n
  · go_enter Try.func25, Try.ntmps25
    go_wp2
    go_end0
    have := Hp.out
    rw [Hf.out, if_pos hn] at this
    exact ⟨rfl, this⟩
  · have hn' : n < 0 := by omega
    have := Hp.out
    rw [Hf.out, if_neg hn] at this
    have Hp2 := Lib.hid this
    clear this Hp Hf hn
    go_enter Try.func25, Try.ntmps25
    go_wp2
    · go_end0
      exact ⟨rfl, Hp2.out⟩
    · go_end0
      obtain rfl : n = -1 := by omega
      exact ⟨rfl, Hp2.out⟩
set_option maxRecDepth 100000 in
set_option maxHeartbeats 400000 in
theorem lost_any (h : Rdk w base own g s S P) (hfo : FuseOk s) : Calls Try.prog 31 #[.pointer (some ⟨g, 0, none⟩)] w fun e w' => e = .returned (.bool (!s.op.1)) ∧ Rdk w' base own g s.op.2 S P ∧ Turns own w w' := by
  have f4 := h.field (i := 4) rfl
  have f3 := h.field (i := 3) rfl
  have hfz := h.unfrozen
  obtain ⟨secs, pend, full, down, lit, fuse⟩ := s
  cases down with
  | true =>
    go_enter Try.func31, Try.ntmps31
    go_wp2
    go_ret
    exact ⟨rfl, h, Turns.refl _ _⟩
  | false =>
    cases lit with
    | false =>
      have he : (DS.mk secs pend full false false fuse).op = (true, ⟨secs, pend, full, false, false, wrap64 (fuse - 1)⟩) := rfl
      have He := Lib.hid he
      have hf1 : fuseR ⟨secs, pend, full, false, false, fuse⟩ = -1 := rfl
      rw [hf1] at f3
      have hR : Rdk w base own g ⟨secs, pend, full, false, false, wrap64 (fuse - 1)⟩ S P := ⟨⟨h.ok.secs, h.ok.pend, h.ok.max⟩, h.blk, h.rowS, h.rowP, h.ownG, h.ownS, h.ownP, h.bnd, h.gS, h.gP, h.sP⟩
      have HR := Lib.hid hR
      clear he hf1 hR
      go_enter Try.func31, Try.ntmps31
      go_wp2
      go_ret
      rw [He.out]
      exact ⟨rfl, HR.out, Turns.refl _ _⟩
    | true =>
      have hf1 : fuseR ⟨secs, pend, full, false, true, fuse⟩ = fuse := rfl
      rw [hf1] at f3
      obtain ⟨g1, g2⟩ := hfo rfl
      simp only at g1 g2
      by_cases h0 : fuse = 0
      · subst h0
        clear hf1
        go_enter Try.func31, Try.ntmps31
        go_wp2
        go_ret
        exact ⟨rfl, h.put (s' := ⟨secs, pend, full, true, true, 0⟩) rfl rfl rfl⟩
      · have he : (DS.mk secs pend full false true fuse).op = (true, ⟨secs, pend, full, false, true, fuse - 1⟩) := by
          unfold DS.op
          have hw : wrap64 (fuse - 1) = fuse - 1 := by unfold wrap64; omega
          simp [h0, hw]
        have He := Lib.hid he
        have hf0 : (fuse == 0) = false := by simpa using h0
        have hg0 : decide (0 < fuse) = true := decide_eq_true (by omega)
        have hp := h.put (i := 3) (v := .int .i64 (fuse - 1)) (s' := ⟨secs, pend, full, false, true, fuse - 1⟩) rfl rfl rfl
        have Hp := Lib.hid hp
        clear hf1 he hp h0
        go_enter Try.func31, Try.ntmps31
        go_wp2
        go_ret
        rw [He.out]
        exact ⟨rfl, Hp.out⟩
set_option maxRecDepth 100000 in
set_option maxHeartbeats 400000 in
theorem RNew_any (n : Nat) (h1 : 1 ≤ n) (h2 : n ≤ 65536) (w : World) : Calls Try.prog 19 #[.int .i64 (n : Int)] w fun e w' =>
    ∃ g S P, e = .returned (.tuple #[.pointer (some ⟨g, 0, none⟩), .int .i64 0]) ∧ Rdk w' w.heap.size (fun k => w.heap.size ≤ k ∧ k < w'.heap.size) g (DS.fresh n) S P ∧ Below w.heap.size w w' := by
  have h1' : (1 : Int) ≤ (n : Int) := by omega
  have h2' : (n : Int) ≤ 65536 := by omega
  go_enter Try.func19, Try.ntmps19
  go_wp2_with (refine makeS rfl rfl rfl rfl (n := n) rfl rfl h2 (Nat.le_refl _) ?_; intro w1 hrow hg; have Hrow := Lib.hid hrow; clear hrow)
  go_ret2
  have hlt := (World.ownsRow.lt Hrow.out w.heap.size rfl).2
  refine ⟨w1.heap.size, _, .slice none 0 0, rfl, ⟨⟨?_, ?_, ?_⟩, heap_alloc_new w1 _, ?_, ?_, ?_, ?_, ?_, ?_, ?_, ?_, ?_⟩, ?_⟩
  · intro l hl; rw [List.eq_of_mem_replicate hl]; exact List.length_replicate
  · intro p hp; cases hp
  · show (List.replicate n _).length ≤ 65536; rw [List.length_replicate]; exact h2
  · rw [show (DS.fresh n).secs.length = n from List.length_replicate]; exact World.ownsRow.alloc Hrow.out _
  · exact World.ownsRow_nil _ _ _ 65
  · exact ⟨hg.size, by simp⟩
  · intro k hk; cases hk; exact ⟨Nat.le_refl _, by simp; omega⟩
  · intro k hk; cases hk
  · exact fun k hk => hk
  · intro e; injection e with e; have e : w.heap.size = w1.heap.size := e; omega
  · intro e; cases e
  · exact .inr (fun e => by cases e)
  · exact (below_none (Below.refl _ _) hg).alloc hg.size _
def badN (n : Int) : Prop := n < 1 ∨ 65536 < n
set_option maxRecDepth 100000 in
set_option maxHeartbeats 400000 in
theorem RNew_bad (n : Int) (h : badN n) (w : World) : Calls Try.prog 19 #[.int .i64 n] w fun e w' => e = .returned (.tuple #[.pointer none, .int .i64 1]) ∧ w' = w := by
  by_cases a1 : n < 1
  · have d1 := decide_eq_true a1
    clear h a1
    go_enter Try.func19, Try.ntmps19
    go_wp2
    go_ret2
    exact ⟨rfl, rfl⟩
  · have d1 := decide_eq_false a1
    have a2 : 65536 < n := by unfold badN at h; omega
    have d2 := decide_eq_true a2
    clear h a1 a2
    go_enter Try.func19, Try.ntmps19
    go_wp2
    go_ret2
    exact ⟨rfl, rfl⟩
set_option maxRecDepth 100000 in
set_option maxHeartbeats 400000 in
theorem New_bad (n : Int) (h : badN n) (w : World) : Calls Try.prog 9 #[.int .i64 n] w fun e w' => e = .returned (.tuple #[.pointer none, .int .i64 1]) ∧ w' = w := by
  by_cases a1 : n < 1
  · have d1 := decide_eq_true a1
    clear h a1
    go_enter Try.func9, Try.ntmps9
    go_wp2
    go_ret2
    exact ⟨rfl, rfl⟩
  · have d1 := decide_eq_false a1
    have a2 : 65536 < n := by unfold badN at h; omega
    have d2 := decide_eq_true a2
    clear h a1 a2
    go_enter Try.func9, Try.ntmps9
    go_wp2
    go_ret2
    exact ⟨rfl, rfl⟩
set_option maxRecDepth 100000 in
set_option maxHeartbeats 400000 in
theorem Sectors_any (h : Dsk w base own g s S P) : Calls Try.prog 20 #[.pointer (some ⟨g, 0, none⟩)] w fun e w' => e = .returned (.int .i64 (s.secs.length : Int)) ∧ w' = w := by
  have f0 := h.field (i := 0) rfl
  obtain ⟨A, c, rfl⟩ := h.formS
  go_enter Try.func20, Try.ntmps20
  go_wp2
  go_ret
  exact ⟨rfl, rfl⟩
end Go.Proofs.Ytdggibigfocadaa
