/- take1: one byte. No conditions. -/
import Derived.Test.YtjichadkonlfpaaDoorH3a
import Derived.Test.YtjichadkonlfpaaDoorH3b
import Derived.Test.YtjichadkonlfpaaDoorH3d
import Derived.Test.YtjichadkonlfpaaDoorH7
import Derived.Test.YtjichadkonlfpaaDoorH8d
import Derived.Test.YtjichadkonlfpaaDoorH9
namespace Go.Proofs.YtjichadkonlfpaaDoor
open Go.RowKit
theorem head_any (w : World) (g : Nat) (s : PS) (W H B : Value) (c : UInt8) (P : Par w g s W H B) (hk : Ok s) (h2 : 2 ≤ s.st) (h8 : s.st ≤ 8) :
    Calls Tryd.prog 21 #[.pointer (some ⟨g, 0, none⟩), .int .u8 (c.toNat : Int)] w (PPost g W H B w (inHeadP s c).1 (.int .i64 (inHeadP s c).2)) := by
  have hl : s.wd.length + 1 ≤ 140737488355328 := by have := hk.wl; omega
  have hh : s.hs.length ≤ 1000000000 := by have := hk.hl; have := hk.hd1; omega
  unfold inHeadP
  by_cases e2 : s.st = 2
  · rw [if_pos e2]; exact head2_any w g s W H B c P hl e2
  rw [if_neg e2]
  by_cases e3 : s.st = 3
  · rw [if_pos e3]; exact head3_any w g s W H B c P hl e3
  rw [if_neg e3]
  by_cases e4 : s.st = 4
  · rw [if_pos e4]; exact head4_any w g s W H B c P hl e4
  rw [if_neg e4]
  by_cases e5 : s.st = 5
  · rw [if_pos e5]; exact head5_any w g s W H B c P hl e5
  rw [if_neg e5]
  by_cases e6 : s.st = 6
  · rw [if_pos e6]; exact head6_any w g s W H B c P hl e6 hk.wa hh
  rw [if_neg e6]
  by_cases e7 : s.st = 7
  · rw [if_pos e7]; exact head7_any w g s W H B c P hl e7 (hk.h7 e7) hh
  rw [if_neg e7]
  have e8 : s.st = 8 := by omega
  rw [if_pos e8]; exact head8_any w g s W H B c P hl e8
theorem hbody_any (w : World) (g : Nat) (s : PS) (W H B : Value) (c : UInt8) (P : Par w g s W H B) (hk : Ok s) (hs : ¬ (2 ≤ s.st ∧ s.st ≤ 8)) :
    Calls Tryd.prog 23 #[.pointer (some ⟨g, 0, none⟩), .int .u8 (c.toNat : Int)] w (PPost g W H B w (inBodyP s c).1 (.int .i64 (inBodyP s c).2)) := by
  have := hk.wl
  have := hk.bd
  have := hk.l0
  have := hk.l1
  have := hk.st0
  have := hk.st1
  exact body_any w g s W H B c P (by omega) (by omega) (by omega) (by omega) hk.w10 (by omega)
/-- A head's byte: the state that take1 finds in the head, whether it was there or was set now. -/
def TP (g : Nat) (W H B : Value) (w : World) (r : PS × Int) (e : Ending) (w' : World) : Prop := PPost g W H B w r.1 (.int .i64 r.2) e w'
theorem TP.intro {g : Nat} {W H B W' H' B' : Value} {w w' : World} {r : PS × Int} {v : Value} (hv : v = .int .i64 r.2) (P : Par w' g r.1 W' H' B') (S : PStep g W H B w W' H' B' w') : TP g W H B w r (.returned v) w' := by
  subst hv; exact ⟨rfl, W', H', B', P, S⟩
set_option maxRecDepth 100000 in
set_option maxHeartbeats 2000000 in
theorem take1b (w : World) (g : Nat) (s : PS) (W H B : Value) (c : UInt8) (P : Par w g s W H B) (hk : Ok s) (h0 : ¬ (s.st = 0 ∧ c ≠ 13)) (h1 : ¬ (2 ≤ s.st ∧ s.st ≤ 8)) :
    Calls Tryd.prog 17 #[.pointer (some ⟨g, 0, none⟩), .int .u8 (c.toNat : Int)] w (TP g W H B w (inBodyP s c)) := by
  have HB := Lib.hid (hbody_any w g s W H B c P hk h1)
  have e0 := P.at_.1
  have s0 := hk.st0
  have s1 := hk.st1
  obtain ⟨st, hst⟩ : ∃ st, st = s.st := ⟨_, rfl⟩
  rw [← hst] at e0 h0 h1 s0 s1
  clear P hk hst
  by_cases hz : st = 0
  · subst hz
    have hc : c = 13 := by
      by_cases h : c = 13
      · exact h
      · exact absurd ⟨rfl, h⟩ h0
    subst hc
    clear h0 h1 s0 s1
    go_enter Tryd.func17, Tryd.ntmps17
    go_wp2_with (go_at_call 23; go_must (refine HB.out.mono ?_; rintro e w1 ⟨rfl, W1, H1, B1, P1, S1⟩; have HP1 := Lib.hid P1; have HS1 := Lib.hid S1; clear P1 S1))
    go_ret
    exact TP.intro rfl HP1.out HS1.out
  · have q0 : (st == 0) = false := by simpa using hz
    clear h0
    by_cases hb : st = 1
    · subst hb
      clear h1 s0 s1 hz
      go_enter Tryd.func17, Tryd.ntmps17
      go_wp2_with (go_at_call 23; go_must (refine HB.out.mono ?_; rintro e w1 ⟨rfl, W1, H1, B1, P1, S1⟩; have HP1 := Lib.hid P1; have HS1 := Lib.hid S1; clear P1 S1))
      go_ret
      exact TP.intro rfl HP1.out HS1.out
    · have q2 : decide ((2 : Int) ≤ st) = true := by simp; omega
      have q8 : decide (st ≤ 8) = false := by simp; omega
      clear h1 hz hb s0 s1
      go_enter Tryd.func17, Tryd.ntmps17
      go_wp2_with (go_at_call 23; go_must (refine HB.out.mono ?_; rintro e w1 ⟨rfl, W1, H1, B1, P1, S1⟩; have HP1 := Lib.hid P1; have HS1 := Lib.hid S1; clear P1 S1))
      go_ret
      exact TP.intro rfl HP1.out HS1.out
end Go.Proofs.YtjichadkonlfpaaDoor
