/- The texts H3b of this work, merged by wip/merge.py. No conditions. -/
import Derived.Test.YtjichadkonlfpaaDoorQHS
namespace Go.Proofs.YtjichadkonlfpaaDoor
open Go.RowKit
set_option maxRecDepth 100000 in
set_option maxHeartbeats 1000000 in
theorem ih4l0 (w : World) (g : Nat) (s : PS) (W H B : Value) (c : UInt8) (P : Par w g s W H B) (hl : s.wd.length + 1 ≤ 140737488355328) (hst : s.st = 4) (hw : s.wd.length = 0) : Calls Tryd.prog 21 #[.pointer (some ⟨g, 0, none⟩), .int .u8 (c.toNat : Int)] w (PPost g W H B w (takeP s c (eqI c 72)).1 (.int .i64 (takeP s c (eqI c 72)).2)) := by
  have HP := Lib.hid P
  have HL := Lib.hid hl
  have HST := Lib.hid hst
  have e_ := P.at_
  rw [hst] at e_
  obtain ⟨e0, _, _, e3, _, _, e6, _, _, e9, _⟩ := e_
  obtain ⟨A, cW, hW, _, _⟩ := own8_form' (n := 0) P.wd hw
  subst hW
  clear P hl hst
  go_enter Tryd.func21, Tryd.ntmps21
  go_wp2_with (first
    | (go_at_call 26; go_must (refine (take_any _ g s _ H B c _ HP.out HL.out).mono ?_; rintro e w1 ⟨rfl, W1, H1, B1, P1, S1⟩; have HP1 := Lib.hid P1; have HS1 := Lib.hid S1; clear P1 S1)))
  go_ret
  exact ⟨rfl, W1, H1, B1, HP1.out, HS1.out⟩
set_option maxRecDepth 100000 in
set_option maxHeartbeats 1000000 in
theorem ih4l1 (w : World) (g : Nat) (s : PS) (W H B : Value) (c : UInt8) (P : Par w g s W H B) (hl : s.wd.length + 1 ≤ 140737488355328) (hst : s.st = 4) (hw : s.wd.length = 1) : Calls Tryd.prog 21 #[.pointer (some ⟨g, 0, none⟩), .int .u8 (c.toNat : Int)] w (PPost g W H B w (takeP s c (eqI c 84)).1 (.int .i64 (takeP s c (eqI c 84)).2)) := by
  have HP := Lib.hid P
  have HL := Lib.hid hl
  have HST := Lib.hid hst
  have e_ := P.at_
  rw [hst] at e_
  obtain ⟨e0, _, _, e3, _, _, e6, _, _, e9, _⟩ := e_
  obtain ⟨A, cW, hW, _, _⟩ := own8_form' (n := 1) P.wd hw
  subst hW
  clear P hl hst
  go_enter Tryd.func21, Tryd.ntmps21
  go_wp2_with (first
    | (go_at_call 26; go_must (refine (take_any _ g s _ H B c _ HP.out HL.out).mono ?_; rintro e w1 ⟨rfl, W1, H1, B1, P1, S1⟩; have HP1 := Lib.hid P1; have HS1 := Lib.hid S1; clear P1 S1)))
  go_ret
  exact ⟨rfl, W1, H1, B1, HP1.out, HS1.out⟩
set_option maxRecDepth 100000 in
set_option maxHeartbeats 1000000 in
theorem ih4l2 (w : World) (g : Nat) (s : PS) (W H B : Value) (c : UInt8) (P : Par w g s W H B) (hl : s.wd.length + 1 ≤ 140737488355328) (hst : s.st = 4) (hw : s.wd.length = 2) : Calls Tryd.prog 21 #[.pointer (some ⟨g, 0, none⟩), .int .u8 (c.toNat : Int)] w (PPost g W H B w (takeP s c (eqI c 84)).1 (.int .i64 (takeP s c (eqI c 84)).2)) := by
  have HP := Lib.hid P
  have HL := Lib.hid hl
  have HST := Lib.hid hst
  have e_ := P.at_
  rw [hst] at e_
  obtain ⟨e0, _, _, e3, _, _, e6, _, _, e9, _⟩ := e_
  obtain ⟨A, cW, hW, _, _⟩ := own8_form' (n := 2) P.wd hw
  subst hW
  clear P hl hst
  go_enter Tryd.func21, Tryd.ntmps21
  go_wp2_with (first
    | (go_at_call 26; go_must (refine (take_any _ g s _ H B c _ HP.out HL.out).mono ?_; rintro e w1 ⟨rfl, W1, H1, B1, P1, S1⟩; have HP1 := Lib.hid P1; have HS1 := Lib.hid S1; clear P1 S1)))
  go_ret
  exact ⟨rfl, W1, H1, B1, HP1.out, HS1.out⟩
set_option maxRecDepth 100000 in
set_option maxHeartbeats 1000000 in
theorem ih4l3 (w : World) (g : Nat) (s : PS) (W H B : Value) (c : UInt8) (P : Par w g s W H B) (hl : s.wd.length + 1 ≤ 140737488355328) (hst : s.st = 4) (hw : s.wd.length = 3) : Calls Tryd.prog 21 #[.pointer (some ⟨g, 0, none⟩), .int .u8 (c.toNat : Int)] w (PPost g W H B w (takeP s c (eqI c 80)).1 (.int .i64 (takeP s c (eqI c 80)).2)) := by
  have HP := Lib.hid P
  have HL := Lib.hid hl
  have HST := Lib.hid hst
  have e_ := P.at_
  rw [hst] at e_
  obtain ⟨e0, _, _, e3, _, _, e6, _, _, e9, _⟩ := e_
  obtain ⟨A, cW, hW, _, _⟩ := own8_form' (n := 3) P.wd hw
  subst hW
  clear P hl hst
  go_enter Tryd.func21, Tryd.ntmps21
  go_wp2_with (first
    | (go_at_call 26; go_must (refine (take_any _ g s _ H B c _ HP.out HL.out).mono ?_; rintro e w1 ⟨rfl, W1, H1, B1, P1, S1⟩; have HP1 := Lib.hid P1; have HS1 := Lib.hid S1; clear P1 S1)))
  go_ret
  exact ⟨rfl, W1, H1, B1, HP1.out, HS1.out⟩
set_option maxRecDepth 100000 in
set_option maxHeartbeats 1000000 in
theorem ih4l4 (w : World) (g : Nat) (s : PS) (W H B : Value) (c : UInt8) (P : Par w g s W H B) (hl : s.wd.length + 1 ≤ 140737488355328) (hst : s.st = 4) (hw : s.wd.length = 4) : Calls Tryd.prog 21 #[.pointer (some ⟨g, 0, none⟩), .int .u8 (c.toNat : Int)] w (PPost g W H B w (takeP s c (eqI c 47)).1 (.int .i64 (takeP s c (eqI c 47)).2)) := by
  have HP := Lib.hid P
  have HL := Lib.hid hl
  have HST := Lib.hid hst
  have e_ := P.at_
  rw [hst] at e_
  obtain ⟨e0, _, _, e3, _, _, e6, _, _, e9, _⟩ := e_
  obtain ⟨A, cW, hW, _, _⟩ := own8_form' (n := 4) P.wd hw
  subst hW
  clear P hl hst
  go_enter Tryd.func21, Tryd.ntmps21
  go_wp2_with (first
    | (go_at_call 26; go_must (refine (take_any _ g s _ H B c _ HP.out HL.out).mono ?_; rintro e w1 ⟨rfl, W1, H1, B1, P1, S1⟩; have HP1 := Lib.hid P1; have HS1 := Lib.hid S1; clear P1 S1)))
  go_ret
  exact ⟨rfl, W1, H1, B1, HP1.out, HS1.out⟩
set_option maxRecDepth 100000 in
set_option maxHeartbeats 1000000 in
theorem ih4l5 (w : World) (g : Nat) (s : PS) (W H B : Value) (c : UInt8) (P : Par w g s W H B) (hl : s.wd.length + 1 ≤ 140737488355328) (hst : s.st = 4) (hw : s.wd.length = 5) : Calls Tryd.prog 21 #[.pointer (some ⟨g, 0, none⟩), .int .u8 (c.toNat : Int)] w (PPost g W H B w (takeP s c (eqI c 49)).1 (.int .i64 (takeP s c (eqI c 49)).2)) := by
  have HP := Lib.hid P
  have HL := Lib.hid hl
  have HST := Lib.hid hst
  have e_ := P.at_
  rw [hst] at e_
  obtain ⟨e0, _, _, e3, _, _, e6, _, _, e9, _⟩ := e_
  obtain ⟨A, cW, hW, _, _⟩ := own8_form' (n := 5) P.wd hw
  subst hW
  clear P hl hst
  go_enter Tryd.func21, Tryd.ntmps21
  go_wp2_with (first
    | (go_at_call 26; go_must (refine (take_any _ g s _ H B c _ HP.out HL.out).mono ?_; rintro e w1 ⟨rfl, W1, H1, B1, P1, S1⟩; have HP1 := Lib.hid P1; have HS1 := Lib.hid S1; clear P1 S1)))
  go_ret
  exact ⟨rfl, W1, H1, B1, HP1.out, HS1.out⟩
set_option maxRecDepth 100000 in
set_option maxHeartbeats 1000000 in
theorem ih4l6 (w : World) (g : Nat) (s : PS) (W H B : Value) (c : UInt8) (P : Par w g s W H B) (hl : s.wd.length + 1 ≤ 140737488355328) (hst : s.st = 4) (hw : s.wd.length = 6) : Calls Tryd.prog 21 #[.pointer (some ⟨g, 0, none⟩), .int .u8 (c.toNat : Int)] w (PPost g W H B w (takeP s c (eqI c 46)).1 (.int .i64 (takeP s c (eqI c 46)).2)) := by
  have HP := Lib.hid P
  have HL := Lib.hid hl
  have HST := Lib.hid hst
  have e_ := P.at_
  rw [hst] at e_
  obtain ⟨e0, _, _, e3, _, _, e6, _, _, e9, _⟩ := e_
  obtain ⟨A, cW, hW, _, _⟩ := own8_form' (n := 6) P.wd hw
  subst hW
  clear P hl hst
  go_enter Tryd.func21, Tryd.ntmps21
  go_wp2_with (first
    | (go_at_call 26; go_must (refine (take_any _ g s _ H B c _ HP.out HL.out).mono ?_; rintro e w1 ⟨rfl, W1, H1, B1, P1, S1⟩; have HP1 := Lib.hid P1; have HS1 := Lib.hid S1; clear P1 S1)))
  go_ret
  exact ⟨rfl, W1, H1, B1, HP1.out, HS1.out⟩
set_option maxRecDepth 100000 in
set_option maxHeartbeats 1000000 in
theorem ih4e (w : World) (g : Nat) (s : PS) (W H B : Value) (c : UInt8) (P : Par w g s W H B) (hl : s.wd.length + 1 ≤ 140737488355328) (hst : s.st = 4) (hw : s.wd.length = 7) (h0 : ((c.toNat : Int) == 48) = true) : Calls Tryd.prog 21 #[.pointer (some ⟨g, 0, none⟩), .int .u8 (c.toNat : Int)] w (PPost g W H B w (takeP { s with old := true } c true).1 (.int .i64 (takeP { s with old := true } c true).2)) := by
  have q0 : ((c.toNat : Int) != 48) = false := by rw [bne, h0]; rfl
  have HP := Lib.hid P
  have HL := Lib.hid hl
  have HST := Lib.hid hst
  have e_ := P.at_
  rw [hst] at e_
  obtain ⟨e0, _, _, e3, _, _, e6, _, _, e9, _⟩ := e_
  have f9 := P.fz 9
  have S9 := Lib.hid (P.set (s' := { s with old := true }) 9 (.bool true) rfl rfl rfl rfl)
  obtain ⟨A, cW, hW, _, _⟩ := own8_form' (n := 7) P.wd hw
  subst hW
  clear P hl hst
  go_enter Tryd.func21, Tryd.ntmps21
  go_wp2_with (first
    | (go_at_call 26; go_must (refine (take_any _ g _ _ H B c _ S9.out.1 HL.out).mono ?_; rintro e w1 ⟨rfl, W1, H1, B1, P1, S1⟩; have HP1 := Lib.hid P1; have HS1 := Lib.hid S1; clear P1 S1)))
  go_ret
  exact ⟨rfl, W1, H1, B1, HP1.out, S9.out.2.trans HS1.out⟩
set_option maxRecDepth 100000 in
set_option maxHeartbeats 1000000 in
theorem ih4f (w : World) (g : Nat) (s : PS) (W H B : Value) (c : UInt8) (P : Par w g s W H B) (hl : s.wd.length + 1 ≤ 140737488355328) (hst : s.st = 4) (hw : s.wd.length = 7) (h0 : ((c.toNat : Int) == 48) = false) (h1 : ((c.toNat : Int) == 49) = true) : Calls Tryd.prog 21 #[.pointer (some ⟨g, 0, none⟩), .int .u8 (c.toNat : Int)] w (PPost g W H B w (takeP { s with old := false } c true).1 (.int .i64 (takeP { s with old := false } c true).2)) := by
  have q0 : ((c.toNat : Int) != 48) = true := by rw [bne, h0]; rfl
  have q1 : ((c.toNat : Int) != 49) = false := by rw [bne, h1]; rfl
  have HP := Lib.hid P
  have HL := Lib.hid hl
  have HST := Lib.hid hst
  have e_ := P.at_
  rw [hst] at e_
  obtain ⟨e0, _, _, e3, _, _, e6, _, _, e9, _⟩ := e_
  have f9 := P.fz 9
  have S9 := Lib.hid (P.set (s' := { s with old := false }) 9 (.bool false) rfl rfl rfl rfl)
  obtain ⟨A, cW, hW, _, _⟩ := own8_form' (n := 7) P.wd hw
  subst hW
  clear P hl hst
  go_enter Tryd.func21, Tryd.ntmps21
  go_wp2_with (first
    | (go_at_call 26; go_must (refine (take_any _ g _ _ H B c _ S9.out.1 HL.out).mono ?_; rintro e w1 ⟨rfl, W1, H1, B1, P1, S1⟩; have HP1 := Lib.hid P1; have HS1 := Lib.hid S1; clear P1 S1)))
  go_ret
  exact ⟨rfl, W1, H1, B1, HP1.out, S9.out.2.trans HS1.out⟩
set_option maxRecDepth 100000 in
set_option maxHeartbeats 1000000 in
theorem ih4g (w : World) (g : Nat) (s : PS) (W H B : Value) (c : UInt8) (P : Par w g s W H B) (hl : s.wd.length + 1 ≤ 140737488355328) (hst : s.st = 4) (hw : s.wd.length = 7) (h0 : ((c.toNat : Int) == 48) = false) (h1 : ((c.toNat : Int) == 49) = false) : Calls Tryd.prog 21 #[.pointer (some ⟨g, 0, none⟩), .int .u8 (c.toNat : Int)] w (PPost g W H B w (takeP { s with old := false } c false).1 (.int .i64 (takeP { s with old := false } c false).2)) := by
  have q0 : ((c.toNat : Int) != 48) = true := by rw [bne, h0]; rfl
  have q1 : ((c.toNat : Int) != 49) = true := by rw [bne, h1]; rfl
  have HP := Lib.hid P
  have HL := Lib.hid hl
  have HST := Lib.hid hst
  have e_ := P.at_
  rw [hst] at e_
  obtain ⟨e0, _, _, e3, _, _, e6, _, _, e9, _⟩ := e_
  have f9 := P.fz 9
  have S9 := Lib.hid (P.set (s' := { s with old := false }) 9 (.bool false) rfl rfl rfl rfl)
  obtain ⟨A, cW, hW, _, _⟩ := own8_form' (n := 7) P.wd hw
  subst hW
  clear P hl hst
  go_enter Tryd.func21, Tryd.ntmps21
  go_wp2_with (first
    | (go_at_call 26; go_must (refine (take_any _ g _ _ H B c _ S9.out.1 HL.out).mono ?_; rintro e w1 ⟨rfl, W1, H1, B1, P1, S1⟩; have HP1 := Lib.hid P1; have HS1 := Lib.hid S1; clear P1 S1)))
  go_ret
  exact ⟨rfl, W1, H1, B1, HP1.out, S9.out.2.trans HS1.out⟩
set_option maxRecDepth 100000 in
set_option maxHeartbeats 1000000 in
theorem ih4x (w : World) (g : Nat) (s : PS) (W H B : Value) (c : UInt8) (P : Par w g s W H B) (hl : s.wd.length + 1 ≤ 140737488355328) (hst : s.st = 4) (h0 : decide ((s.wd.length : Int) < 7) = false) (h1 : ((s.wd.length : Int) == 7) = false) (h2 : ((c.toNat : Int) != 13) = true) : Calls Tryd.prog 21 #[.pointer (some ⟨g, 0, none⟩), .int .u8 (c.toNat : Int)] w (PPost g W H B w ((s, (400 : Int))).1 (.int .i64 ((s, (400 : Int))).2)) := by
  have _q1 : ((s.wd.length : Int) != 7) = true := by rw [bne, h1]; rfl
  have q2 : ((c.toNat : Int) == 13) = false := by rw [bne, Bool.not_eq_eq_eq_not] at h2; simpa using h2
  have HP := Lib.hid P
  have HL := Lib.hid hl
  have HST := Lib.hid hst
  have e_ := P.at_
  rw [hst] at e_
  obtain ⟨e0, _, _, e3, _, _, e6, _, _, e9, _⟩ := e_
  obtain ⟨n, hn⟩ : ∃ n, n = s.wd.length := ⟨_, rfl⟩
  rw [← hn] at h0
  have p0 : 7 ≤ n := by simp at h0; omega
  have i0 : (7 : Int) ≤ (n : Int) := by omega
  have m0 : ¬ n < 7 := by omega
  have l0 : ¬ ((n : Int) < 7) := by omega
  clear h0
  rw [← hn] at h1
  have d1 : ¬ n = 7 := by simp at h1; omega
  have t1 : ((n : Int) == 7) = false := by simp; omega
  clear h1
  obtain ⟨A, cW, hW, _, _⟩ := own8_form' (n := n) P.wd hn.symm
  have HN := Lib.hid hn
  clear hn
  subst hW
  clear P hl hst
  go_enter Tryd.func21, Tryd.ntmps21
  go_wp2
  go_ret
  exact ⟨rfl, _, H, B, HP.out, PStep.refl _ _ _ _ _⟩
set_option maxRecDepth 100000 in
set_option maxHeartbeats 1000000 in
theorem ih4y (w : World) (g : Nat) (s : PS) (W H B : Value) (c : UInt8) (P : Par w g s W H B) (hl : s.wd.length + 1 ≤ 140737488355328) (hst : s.st = 4) (h0 : decide ((s.wd.length : Int) < 7) = false) (h1 : ((s.wd.length : Int) == 7) = false) (h2 : ((c.toNat : Int) != 13) = false) : Calls Tryd.prog 21 #[.pointer (some ⟨g, 0, none⟩), .int .u8 (c.toNat : Int)] w (PPost g W H B w ((doneP s 5, (0 : Int))).1 (.int .i64 ((doneP s 5, (0 : Int))).2)) := by
  have _q1 : ((s.wd.length : Int) != 7) = true := by rw [bne, h1]; rfl
  have q2 : ((c.toNat : Int) == 13) = true := by rw [bne, Bool.not_eq_eq_eq_not] at h2; simpa using h2
  have HP := Lib.hid P
  have HL := Lib.hid hl
  have HST := Lib.hid hst
  have e_ := P.at_
  rw [hst] at e_
  obtain ⟨e0, _, _, e3, _, _, e6, _, _, e9, _⟩ := e_
  obtain ⟨n, hn⟩ : ∃ n, n = s.wd.length := ⟨_, rfl⟩
  rw [← hn] at h0
  have p0 : 7 ≤ n := by simp at h0; omega
  have i0 : (7 : Int) ≤ (n : Int) := by omega
  have m0 : ¬ n < 7 := by omega
  have l0 : ¬ ((n : Int) < 7) := by omega
  clear h0
  rw [← hn] at h1
  have d1 : ¬ n = 7 := by simp at h1; omega
  have t1 : ((n : Int) == 7) = false := by simp; omega
  clear h1
  obtain ⟨A, cW, hW, _, _⟩ := own8_form' (n := n) P.wd hn.symm
  have HN := Lib.hid hn
  clear hn
  subst hW
  clear P hl hst
  go_enter Tryd.func21, Tryd.ntmps21
  go_wp2_with (first
    | (go_at_call 25; go_must (refine (done_any _ g s _ H B 5 HP.out).mono ?_; rintro e w1 ⟨rfl, W1, H1, B1, P1, S1⟩; have HP1 := Lib.hid P1; have HS1 := Lib.hid S1; clear P1 S1)))
  go_ret
  exact ⟨rfl, W1, H1, B1, HP1.out, HS1.out⟩
theorem head4_any (w : World) (g : Nat) (s : PS) (W H B : Value) (c : UInt8) (P : Par w g s W H B) (hl : s.wd.length + 1 ≤ 140737488355328) (hst : s.st = 4) : Calls Tryd.prog 21 #[.pointer (some ⟨g, 0, none⟩), .int .u8 (c.toNat : Int)] w (PPost g W H B w (head4 s c).1 (.int .i64 (head4 s c).2)) := by
  unfold head4
  cases h1 : decide ((s.wd.length : Int) < 7)
  · cases h2 : ((s.wd.length : Int) == 7)
    · cases h3 : ((c.toNat : Int) != 13)
      · exact ih4y w g s W H B c P hl hst h1 h2 h3
      · exact ih4x w g s W H B c P hl hst h1 h2 h3
    · have hw : s.wd.length = 7 := by simp at h2; omega
      cases h3 : ((c.toNat : Int) == 48)
      · cases h4 : ((c.toNat : Int) == 49)
        · exact ih4g w g s W H B c P hl hst hw h3 h4
        · exact ih4f w g s W H B c P hl hst hw h3 h4
      · exact ih4e w g s W H B c P hl hst hw h3
  · have hw : s.wd.length < 7 := by simp at h1; omega
    rw [if_pos rfl]
    have h : s.wd.length = 0 ∨ s.wd.length = 1 ∨ s.wd.length = 2 ∨ s.wd.length = 3 ∨ s.wd.length = 4 ∨ s.wd.length = 5 ∨ s.wd.length = 6 := by omega
    rcases h with h | h | h | h | h | h | h <;> rw [h]
    · exact ih4l0 w g s W H B c P hl hst h
    · exact ih4l1 w g s W H B c P hl hst h
    · exact ih4l2 w g s W H B c P hl hst h
    · exact ih4l3 w g s W H B c P hl hst h
    · exact ih4l4 w g s W H B c P hl hst h
    · exact ih4l5 w g s W H B c P hl hst h
    · exact ih4l6 w g s W H B c P hl hst h
set_option maxRecDepth 100000 in
set_option maxHeartbeats 1000000 in
theorem ih5x (w : World) (g : Nat) (s : PS) (W H B : Value) (c : UInt8) (P : Par w g s W H B) (hl : s.wd.length + 1 ≤ 140737488355328) (hst : s.st = 5) (h0 : ((c.toNat : Int) != 10) = true) : Calls Tryd.prog 21 #[.pointer (some ⟨g, 0, none⟩), .int .u8 (c.toNat : Int)] w (PPost g W H B w ((s, (400 : Int))).1 (.int .i64 ((s, (400 : Int))).2)) := by
  have q0 : ((c.toNat : Int) == 10) = false := by rw [bne, Bool.not_eq_eq_eq_not] at h0; simpa using h0
  have HP := Lib.hid P
  have HL := Lib.hid hl
  have HST := Lib.hid hst
  have e_ := P.at_
  rw [hst] at e_
  obtain ⟨e0, _, _, e3, _, _, e6, _, _, e9, _⟩ := e_
  obtain ⟨n, hn⟩ : ∃ n, n = s.wd.length := ⟨_, rfl⟩
  obtain ⟨A, cW, hW, _, _⟩ := own8_form' (n := n) P.wd hn.symm
  have HN := Lib.hid hn
  clear hn
  subst hW
  clear P hl hst
  go_enter Tryd.func21, Tryd.ntmps21
  go_wp2
  go_ret
  exact ⟨rfl, _, H, B, HP.out, PStep.refl _ _ _ _ _⟩
set_option maxRecDepth 100000 in
set_option maxHeartbeats 1000000 in
theorem ih5y (w : World) (g : Nat) (s : PS) (W H B : Value) (c : UInt8) (P : Par w g s W H B) (hl : s.wd.length + 1 ≤ 140737488355328) (hst : s.st = 5) (h0 : ((c.toNat : Int) != 10) = false) : Calls Tryd.prog 21 #[.pointer (some ⟨g, 0, none⟩), .int .u8 (c.toNat : Int)] w (PPost g W H B w (({ s with st := 6 }, (0 : Int))).1 (.int .i64 (({ s with st := 6 }, (0 : Int))).2)) := by
  have q0 : ((c.toNat : Int) == 10) = true := by rw [bne, Bool.not_eq_eq_eq_not] at h0; simpa using h0
  have HP := Lib.hid P
  have HL := Lib.hid hl
  have HST := Lib.hid hst
  have e_ := P.at_
  rw [hst] at e_
  obtain ⟨e0, _, _, e3, _, _, e6, _, _, e9, _⟩ := e_
  have f0 := P.fz 0
  have S2 := Lib.hid (P.set (s' := { s with st := 6 }) 0 (.int .i64 6) rfl rfl rfl rfl)
  obtain ⟨n, hn⟩ : ∃ n, n = s.wd.length := ⟨_, rfl⟩
  obtain ⟨A, cW, hW, _, _⟩ := own8_form' (n := n) P.wd hn.symm
  have HN := Lib.hid hn
  clear hn
  subst hW
  clear P hl hst
  go_enter Tryd.func21, Tryd.ntmps21
  go_wp2
  go_ret
  exact ⟨rfl, _, H, B, S2.out.1, S2.out.2⟩
theorem head5_any (w : World) (g : Nat) (s : PS) (W H B : Value) (c : UInt8) (P : Par w g s W H B) (hl : s.wd.length + 1 ≤ 140737488355328) (hst : s.st = 5) : Calls Tryd.prog 21 #[.pointer (some ⟨g, 0, none⟩), .int .u8 (c.toNat : Int)] w (PPost g W H B w (head5 s c).1 (.int .i64 (head5 s c).2)) := by
  unfold head5
  cases h1 : ((c.toNat : Int) != 10)
  · exact ih5y w g s W H B c P hl hst h1
  · exact ih5x w g s W H B c P hl hst h1
set_option maxRecDepth 100000 in
set_option maxHeartbeats 1000000 in
theorem ih8x (w : World) (g : Nat) (s : PS) (W H B : Value) (c : UInt8) (P : Par w g s W H B) (hl : s.wd.length + 1 ≤ 140737488355328) (hst : s.st = 8) (h0 : ((c.toNat : Int) != 10) = true) : Calls Tryd.prog 21 #[.pointer (some ⟨g, 0, none⟩), .int .u8 (c.toNat : Int)] w (PPost g W H B w ((s, (400 : Int))).1 (.int .i64 ((s, (400 : Int))).2)) := by
  have q0 : ((c.toNat : Int) == 10) = false := by rw [bne, Bool.not_eq_eq_eq_not] at h0; simpa using h0
  have HP := Lib.hid P
  have HL := Lib.hid hl
  have HST := Lib.hid hst
  have e_ := P.at_
  rw [hst] at e_
  obtain ⟨e0, _, _, e3, _, _, e6, _, _, e9, _⟩ := e_
  obtain ⟨n, hn⟩ : ∃ n, n = s.wd.length := ⟨_, rfl⟩
  obtain ⟨A, cW, hW, _, _⟩ := own8_form' (n := n) P.wd hn.symm
  have HN := Lib.hid hn
  clear hn
  subst hW
  clear P hl hst
  go_enter Tryd.func21, Tryd.ntmps21
  go_wp2
  go_ret
  exact ⟨rfl, _, H, B, HP.out, PStep.refl _ _ _ _ _⟩
set_option maxRecDepth 100000 in
set_option maxHeartbeats 1000000 in
theorem ih8y (w : World) (g : Nat) (s : PS) (W H B : Value) (c : UInt8) (P : Par w g s W H B) (hl : s.wd.length + 1 ≤ 140737488355328) (hst : s.st = 8) (h0 : ((c.toNat : Int) != 10) = false) : Calls Tryd.prog 21 #[.pointer (some ⟨g, 0, none⟩), .int .u8 (c.toNat : Int)] w (PPost g W H B w (({ s with st := 9 }, (0 : Int))).1 (.int .i64 (({ s with st := 9 }, (0 : Int))).2)) := by
  have q0 : ((c.toNat : Int) == 10) = true := by rw [bne, Bool.not_eq_eq_eq_not] at h0; simpa using h0
  have HP := Lib.hid P
  have HL := Lib.hid hl
  have HST := Lib.hid hst
  have e_ := P.at_
  rw [hst] at e_
  obtain ⟨e0, _, _, e3, _, _, e6, _, _, e9, _⟩ := e_
  have f0 := P.fz 0
  have S2 := Lib.hid (P.set (s' := { s with st := 9 }) 0 (.int .i64 9) rfl rfl rfl rfl)
  obtain ⟨n, hn⟩ : ∃ n, n = s.wd.length := ⟨_, rfl⟩
  obtain ⟨A, cW, hW, _, _⟩ := own8_form' (n := n) P.wd hn.symm
  have HN := Lib.hid hn
  clear hn
  subst hW
  clear P hl hst
  go_enter Tryd.func21, Tryd.ntmps21
  go_wp2
  go_ret
  exact ⟨rfl, _, H, B, S2.out.1, S2.out.2⟩
theorem head8_any (w : World) (g : Nat) (s : PS) (W H B : Value) (c : UInt8) (P : Par w g s W H B) (hl : s.wd.length + 1 ≤ 140737488355328) (hst : s.st = 8) : Calls Tryd.prog 21 #[.pointer (some ⟨g, 0, none⟩), .int .u8 (c.toNat : Int)] w (PPost g W H B w (head8 s c).1 (.int .i64 (head8 s c).2)) := by
  unfold head8
  cases h1 : ((c.toNat : Int) != 10)
  · exact ih8y w g s W H B c P hl hst h1
  · exact ih8x w g s W H B c P hl hst h1
end Go.Proofs.YtjichadkonlfpaaDoor
