/- The texts H8a of this work, merged by wip/merge.py. No conditions. -/
import Derived.Test.YtjichadkonlfpaaDoorQH78
namespace Go.Proofs.YtjichadkonlfpaaDoor
open Go.RowKit
set_option maxRecDepth 100000 in
set_option maxHeartbeats 1000000 in
theorem ib0 (w : World) (g : Nat) (s : PS) (W H B : Value) (c : UInt8) (P : Par w g s W H B) (hl : s.wd.length + 1 ≤ 140737488355328) (hst : s.st = 0) : Calls Tryd.prog 23 #[.pointer (some ⟨g, 0, none⟩), .int .u8 (c.toNat : Int)] w (PPost g W H B w ((body0 s, (0 : Int))).1 (.int .i64 ((body0 s, (0 : Int))).2)) := by
  have HP := Lib.hid P
  have HL := Lib.hid hl
  have HST := Lib.hid hst
  have e_ := P.at_
  rw [hst] at e_
  obtain ⟨e0, _, _, e3, _, _, e6, _, _, e9, _⟩ := e_
  have f0 := P.fz 0
  have S2 := Lib.hid (P.set (s' := { s with st := 1 }) 0 (.int .i64 1) rfl rfl rfl rfl)
  obtain ⟨n, hn⟩ : ∃ n, n = s.wd.length := ⟨_, rfl⟩
  obtain ⟨A, cW, hW, _, _⟩ := own8_form' (n := n) P.wd hn.symm
  have HN := Lib.hid hn
  clear hn
  subst hW
  clear P hl hst
  go_enter Tryd.func23, Tryd.ntmps23
  go_wp2
  go_ret
  exact ⟨rfl, _, H, B, S2.out.1, S2.out.2⟩
set_option maxRecDepth 100000 in
set_option maxHeartbeats 1000000 in
theorem ib1 (w : World) (g : Nat) (s : PS) (W H B : Value) (c : UInt8) (P : Par w g s W H B) (hl : s.wd.length + 1 ≤ 140737488355328) (hst : s.st = 1) : Calls Tryd.prog 23 #[.pointer (some ⟨g, 0, none⟩), .int .u8 (c.toNat : Int)] w (PPost g W H B w (expectP s c 10 0).1 (.int .i64 (expectP s c 10 0).2)) := by
  have HP := Lib.hid P
  have HL := Lib.hid hl
  have HST := Lib.hid hst
  have e_ := P.at_
  rw [hst] at e_
  obtain ⟨e0, _, _, e3, _, _, e6, _, _, e9, _⟩ := e_
  obtain ⟨n, hn⟩ : ∃ n, n = s.wd.length := ⟨_, rfl⟩
  obtain ⟨A, cW, hW, _, _⟩ := own8_form' (n := n) P.wd hn.symm
  have HN := Lib.hid hn
  clear hn
  subst hW
  clear P hl hst
  go_enter Tryd.func23, Tryd.ntmps23
  go_wp2_with (first
    | (go_at_call 33; go_must (refine (expect_any _ g s _ H B c 10 0 HP.out).mono ?_; rintro e w1 ⟨rfl, W1, H1, B1, P1, S1⟩; have HP1 := Lib.hid P1; have HS1 := Lib.hid S1; clear P1 S1)))
  go_ret
  exact ⟨rfl, W1, H1, B1, HP1.out, HS1.out⟩
set_option maxRecDepth 100000 in
set_option maxHeartbeats 1000000 in
theorem ib13 (w : World) (g : Nat) (s : PS) (W H B : Value) (c : UInt8) (P : Par w g s W H B) (hl : s.wd.length + 1 ≤ 140737488355328) (hst : s.st = 13) : Calls Tryd.prog 23 #[.pointer (some ⟨g, 0, none⟩), .int .u8 (c.toNat : Int)] w (PPost g W H B w (expectP s c 13 14).1 (.int .i64 (expectP s c 13 14).2)) := by
  have HP := Lib.hid P
  have HL := Lib.hid hl
  have HST := Lib.hid hst
  have e_ := P.at_
  rw [hst] at e_
  obtain ⟨e0, _, _, e3, _, _, e6, _, _, e9, _⟩ := e_
  obtain ⟨n, hn⟩ : ∃ n, n = s.wd.length := ⟨_, rfl⟩
  obtain ⟨A, cW, hW, _, _⟩ := own8_form' (n := n) P.wd hn.symm
  have HN := Lib.hid hn
  clear hn
  subst hW
  clear P hl hst
  go_enter Tryd.func23, Tryd.ntmps23
  go_wp2_with (first
    | (go_at_call 33; go_must (refine (expect_any _ g s _ H B c 13 14 HP.out).mono ?_; rintro e w1 ⟨rfl, W1, H1, B1, P1, S1⟩; have HP1 := Lib.hid P1; have HS1 := Lib.hid S1; clear P1 S1)))
  go_ret
  exact ⟨rfl, W1, H1, B1, HP1.out, HS1.out⟩
set_option maxRecDepth 100000 in
set_option maxHeartbeats 1000000 in
theorem ib14a (w : World) (g : Nat) (s : PS) (W H B : Value) (c : UInt8) (P : Par w g s W H B) (hl : s.wd.length + 1 ≤ 140737488355328) (hst : s.st = 14) (h0 : decide (s.lf < 0) = true) : Calls Tryd.prog 23 #[.pointer (some ⟨g, 0, none⟩), .int .u8 (c.toNat : Int)] w (PPost g W H B w (expectP { s with lf := 0 } c 10 9).1 (.int .i64 (expectP { s with lf := 0 } c 10 9).2)) := by
  have HP := Lib.hid P
  have HL := Lib.hid hl
  have HST := Lib.hid hst
  have e_ := P.at_
  rw [hst] at e_
  obtain ⟨e0, _, _, e3, _, _, e6, _, _, e9, _⟩ := e_
  have f10 := P.fz 10
  have e10 := P.at_.2.2.2.2.2.2.2.2.2.2
  have S9 := Lib.hid (P.set (s' := { s with lf := 0 }) 10 (.int .i64 0) rfl rfl rfl rfl)
  obtain ⟨n, hn⟩ : ∃ n, n = s.wd.length := ⟨_, rfl⟩
  obtain ⟨A, cW, hW, _, _⟩ := own8_form' (n := n) P.wd hn.symm
  have HN := Lib.hid hn
  clear hn
  subst hW
  clear P hl hst
  go_enter Tryd.func23, Tryd.ntmps23
  go_wp2_with (first
    | (go_at_call 33; go_must (refine (expect_any _ g _ _ H B c 10 9 S9.out.1).mono ?_; rintro e w1 ⟨rfl, W1, H1, B1, P1, S1⟩; have HP1 := Lib.hid P1; have HS1 := Lib.hid S1; clear P1 S1)))
  go_ret
  exact ⟨rfl, W1, H1, B1, HP1.out, S9.out.2.trans HS1.out⟩
set_option maxRecDepth 100000 in
set_option maxHeartbeats 1000000 in
theorem ib14b (w : World) (g : Nat) (s : PS) (W H B : Value) (c : UInt8) (P : Par w g s W H B) (hl : s.wd.length + 1 ≤ 140737488355328) (hst : s.st = 14) (h0 : decide (s.lf < 0) = false) : Calls Tryd.prog 23 #[.pointer (some ⟨g, 0, none⟩), .int .u8 (c.toNat : Int)] w (PPost g W H B w (expectP { s with lf := 0 } c 10 10).1 (.int .i64 (expectP { s with lf := 0 } c 10 10).2)) := by
  have HP := Lib.hid P
  have HL := Lib.hid hl
  have HST := Lib.hid hst
  have e_ := P.at_
  rw [hst] at e_
  obtain ⟨e0, _, _, e3, _, _, e6, _, _, e9, _⟩ := e_
  have f10 := P.fz 10
  have e10 := P.at_.2.2.2.2.2.2.2.2.2.2
  have S9 := Lib.hid (P.set (s' := { s with lf := 0 }) 10 (.int .i64 0) rfl rfl rfl rfl)
  obtain ⟨n, hn⟩ : ∃ n, n = s.wd.length := ⟨_, rfl⟩
  obtain ⟨A, cW, hW, _, _⟩ := own8_form' (n := n) P.wd hn.symm
  have HN := Lib.hid hn
  clear hn
  subst hW
  clear P hl hst
  go_enter Tryd.func23, Tryd.ntmps23
  go_wp2_with (first
    | (go_at_call 33; go_must (refine (expect_any _ g _ _ H B c 10 10 S9.out.1).mono ?_; rintro e w1 ⟨rfl, W1, H1, B1, P1, S1⟩; have HP1 := Lib.hid P1; have HS1 := Lib.hid S1; clear P1 S1)))
  go_ret
  exact ⟨rfl, W1, H1, B1, HP1.out, S9.out.2.trans HS1.out⟩
set_option maxRecDepth 100000 in
set_option maxHeartbeats 1000000 in
theorem ib10b0 (w : World) (g : Nat) (s : PS) (W H B : Value) (c : UInt8) (P : Par w g s W H B) (hl : s.wd.length + 1 ≤ 140737488355328) (hst : s.st = 10) (h0 : ((c.toNat : Int) == 13) = false) (h1 : digitB c = true) (h2 : decide ((s.wd.length : Int) < 6) = true) : Calls Tryd.prog 23 #[.pointer (some ⟨g, 0, none⟩), .int .u8 (c.toNat : Int)] w (PPost g W H B w (takeP s c true).1 (.int .i64 (takeP s c true).2)) := by
  have q0 : ((c.toNat : Int) != 13) = true := by rw [bne, h0]; rfl
  have hD_ := h1
  have HP := Lib.hid P
  have HL := Lib.hid hl
  have HST := Lib.hid hst
  have e_ := P.at_
  rw [hst] at e_
  obtain ⟨e0, _, _, e3, _, _, e6, _, _, e9, _⟩ := e_
  obtain ⟨n, hn⟩ : ∃ n, n = s.wd.length := ⟨_, rfl⟩
  rw [← hn] at h2
  have p2 : n < 6 := by simp at h2; omega
  have i2 : (n : Int) < (6 : Int) := by omega
  clear h2
  obtain ⟨A, cW, hW, _, _⟩ := own8_form' (n := n) P.wd hn.symm
  have HN := Lib.hid hn
  clear hn
  subst hW
  clear P hl hst
  go_enter Tryd.func23, Tryd.ntmps23
  go_wp2_with (first
    | (go_at_call 28; go_must (refine (letter_any c _).mono ?_; rintro e w1 ⟨rfl, rfl⟩; rw [hL_]))
    | (go_at_call 29; go_must (refine (digit_any c _).mono ?_; rintro e w1 ⟨rfl, rfl⟩; rw [hD_]))
    | (go_at_call 26; go_must (refine (take_any _ g s _ H B c _ HP.out HL.out).mono ?_; rintro e w1 ⟨rfl, W1, H1, B1, P1, S1⟩; have HP1 := Lib.hid P1; have HS1 := Lib.hid S1; clear P1 S1)))
  go_ret
  exact ⟨rfl, W1, H1, B1, HP1.out, HS1.out⟩
set_option maxRecDepth 100000 in
set_option maxHeartbeats 1000000 in
theorem ib10b1 (w : World) (g : Nat) (s : PS) (W H B : Value) (c : UInt8) (P : Par w g s W H B) (hl : s.wd.length + 1 ≤ 140737488355328) (hst : s.st = 10) (h0 : ((c.toNat : Int) == 13) = false) (h1 : digitB c = true) (h2 : decide ((s.wd.length : Int) < 6) = false) : Calls Tryd.prog 23 #[.pointer (some ⟨g, 0, none⟩), .int .u8 (c.toNat : Int)] w (PPost g W H B w (takeP s c false).1 (.int .i64 (takeP s c false).2)) := by
  have q0 : ((c.toNat : Int) != 13) = true := by rw [bne, h0]; rfl
  have hD_ := h1
  have HP := Lib.hid P
  have HL := Lib.hid hl
  have HST := Lib.hid hst
  have e_ := P.at_
  rw [hst] at e_
  obtain ⟨e0, _, _, e3, _, _, e6, _, _, e9, _⟩ := e_
  obtain ⟨n, hn⟩ : ∃ n, n = s.wd.length := ⟨_, rfl⟩
  rw [← hn] at h2
  have p2 : 6 ≤ n := by simp at h2; omega
  have i2 : (6 : Int) ≤ (n : Int) := by omega
  have m2 : ¬ n < 6 := by omega
  have l2 : ¬ ((n : Int) < 6) := by omega
  clear h2
  obtain ⟨A, cW, hW, _, _⟩ := own8_form' (n := n) P.wd hn.symm
  have HN := Lib.hid hn
  clear hn
  subst hW
  clear P hl hst
  go_enter Tryd.func23, Tryd.ntmps23
  go_wp2_with (first
    | (go_at_call 28; go_must (refine (letter_any c _).mono ?_; rintro e w1 ⟨rfl, rfl⟩; rw [hL_]))
    | (go_at_call 29; go_must (refine (digit_any c _).mono ?_; rintro e w1 ⟨rfl, rfl⟩; rw [hD_]))
    | (go_at_call 26; go_must (rw [show decide ((n : Int) < 6) = false from decide_eq_false (by omega)]; refine (take_any _ g s _ H B c _ HP.out HL.out).mono ?_; rintro e w1 ⟨rfl, W1, H1, B1, P1, S1⟩; have HP1 := Lib.hid P1; have HS1 := Lib.hid S1; clear P1 S1)))
  go_ret
  exact ⟨rfl, W1, H1, B1, HP1.out, HS1.out⟩
set_option maxRecDepth 100000 in
set_option maxHeartbeats 1000000 in
theorem ib10b2 (w : World) (g : Nat) (s : PS) (W H B : Value) (c : UInt8) (P : Par w g s W H B) (hl : s.wd.length + 1 ≤ 140737488355328) (hst : s.st = 10) (h0 : ((c.toNat : Int) == 13) = false) (h1 : digitB c = false) (h2 : letterB c = false) : Calls Tryd.prog 23 #[.pointer (some ⟨g, 0, none⟩), .int .u8 (c.toNat : Int)] w (PPost g W H B w (takeP s c false).1 (.int .i64 (takeP s c false).2)) := by
  have q0 : ((c.toNat : Int) != 13) = true := by rw [bne, h0]; rfl
  have hD_ := h1
  have hL_ := h2
  have HP := Lib.hid P
  have HL := Lib.hid hl
  have HST := Lib.hid hst
  have e_ := P.at_
  rw [hst] at e_
  obtain ⟨e0, _, _, e3, _, _, e6, _, _, e9, _⟩ := e_
  obtain ⟨n, hn⟩ : ∃ n, n = s.wd.length := ⟨_, rfl⟩
  obtain ⟨A, cW, hW, _, _⟩ := own8_form' (n := n) P.wd hn.symm
  have HN := Lib.hid hn
  clear hn
  subst hW
  clear P hl hst
  go_enter Tryd.func23, Tryd.ntmps23
  go_wp2_with (first
    | (go_at_call 28; go_must (refine (letter_any c _).mono ?_; rintro e w1 ⟨rfl, rfl⟩; rw [hL_]))
    | (go_at_call 29; go_must (refine (digit_any c _).mono ?_; rintro e w1 ⟨rfl, rfl⟩; rw [hD_]))
    | (go_at_call 26; go_must (refine (take_any _ g s _ H B c _ HP.out HL.out).mono ?_; rintro e w1 ⟨rfl, W1, H1, B1, P1, S1⟩; have HP1 := Lib.hid P1; have HS1 := Lib.hid S1; clear P1 S1)))
  go_ret
  exact ⟨rfl, W1, H1, B1, HP1.out, HS1.out⟩
set_option maxRecDepth 100000 in
set_option maxHeartbeats 1000000 in
theorem ib10b3 (w : World) (g : Nat) (s : PS) (W H B : Value) (c : UInt8) (P : Par w g s W H B) (hl : s.wd.length + 1 ≤ 140737488355328) (hst : s.st = 10) (h0 : ((c.toNat : Int) == 13) = false) (h1 : digitB c = false) (h2 : letterB c = true) (h3 : decide (lowI c ≤ 102) = false) : Calls Tryd.prog 23 #[.pointer (some ⟨g, 0, none⟩), .int .u8 (c.toNat : Int)] w (PPost g W H B w (takeP s c false).1 (.int .i64 (takeP s c false).2)) := by
  have q0 : ((c.toNat : Int) != 13) = true := by rw [bne, h0]; rfl
  have hD_ := h1
  have hL_ := h2
  have HP := Lib.hid P
  have HL := Lib.hid hl
  have HST := Lib.hid hst
  have e_ := P.at_
  rw [hst] at e_
  obtain ⟨e0, _, _, e3, _, _, e6, _, _, e9, _⟩ := e_
  have hor : bits .or .u8 (c.toNat : Int) 32 = lowI c := rfl
  obtain ⟨lo, hlo⟩ : ∃ lo, lo = lowI c := ⟨_, rfl⟩
  rw [← hlo] at hor h3
  clear hlo
  obtain ⟨n, hn⟩ : ∃ n, n = s.wd.length := ⟨_, rfl⟩
  obtain ⟨A, cW, hW, _, _⟩ := own8_form' (n := n) P.wd hn.symm
  have HN := Lib.hid hn
  clear hn
  subst hW
  clear P hl hst
  go_enter Tryd.func23, Tryd.ntmps23
  go_wp2_with (first
    | (go_at_call 28; go_must (refine (letter_any c _).mono ?_; rintro e w1 ⟨rfl, rfl⟩; rw [hL_]))
    | (go_at_call 29; go_must (refine (digit_any c _).mono ?_; rintro e w1 ⟨rfl, rfl⟩; rw [hD_]))
    | (go_at_call 26; go_must (refine (take_any _ g s _ H B c _ HP.out HL.out).mono ?_; rintro e w1 ⟨rfl, W1, H1, B1, P1, S1⟩; have HP1 := Lib.hid P1; have HS1 := Lib.hid S1; clear P1 S1)))
  go_ret
  exact ⟨rfl, W1, H1, B1, HP1.out, HS1.out⟩
set_option maxRecDepth 100000 in
set_option maxHeartbeats 1000000 in
theorem ib10b4 (w : World) (g : Nat) (s : PS) (W H B : Value) (c : UInt8) (P : Par w g s W H B) (hl : s.wd.length + 1 ≤ 140737488355328) (hst : s.st = 10) (h0 : ((c.toNat : Int) == 13) = false) (h1 : digitB c = false) (h2 : letterB c = true) (h3 : decide (lowI c ≤ 102) = true) (h4 : decide ((s.wd.length : Int) < 6) = true) : Calls Tryd.prog 23 #[.pointer (some ⟨g, 0, none⟩), .int .u8 (c.toNat : Int)] w (PPost g W H B w (takeP s c true).1 (.int .i64 (takeP s c true).2)) := by
  have q0 : ((c.toNat : Int) != 13) = true := by rw [bne, h0]; rfl
  have hD_ := h1
  have hL_ := h2
  have HP := Lib.hid P
  have HL := Lib.hid hl
  have HST := Lib.hid hst
  have e_ := P.at_
  rw [hst] at e_
  obtain ⟨e0, _, _, e3, _, _, e6, _, _, e9, _⟩ := e_
  have hor : bits .or .u8 (c.toNat : Int) 32 = lowI c := rfl
  obtain ⟨lo, hlo⟩ : ∃ lo, lo = lowI c := ⟨_, rfl⟩
  rw [← hlo] at hor h3
  clear hlo
  obtain ⟨n, hn⟩ : ∃ n, n = s.wd.length := ⟨_, rfl⟩
  rw [← hn] at h4
  have p4 : n < 6 := by simp at h4; omega
  have i4 : (n : Int) < (6 : Int) := by omega
  clear h4
  obtain ⟨A, cW, hW, _, _⟩ := own8_form' (n := n) P.wd hn.symm
  have HN := Lib.hid hn
  clear hn
  subst hW
  clear P hl hst
  go_enter Tryd.func23, Tryd.ntmps23
  go_wp2_with (first
    | (go_at_call 28; go_must (refine (letter_any c _).mono ?_; rintro e w1 ⟨rfl, rfl⟩; rw [hL_]))
    | (go_at_call 29; go_must (refine (digit_any c _).mono ?_; rintro e w1 ⟨rfl, rfl⟩; rw [hD_]))
    | (go_at_call 26; go_must (refine (take_any _ g s _ H B c _ HP.out HL.out).mono ?_; rintro e w1 ⟨rfl, W1, H1, B1, P1, S1⟩; have HP1 := Lib.hid P1; have HS1 := Lib.hid S1; clear P1 S1)))
  go_ret
  exact ⟨rfl, W1, H1, B1, HP1.out, HS1.out⟩
set_option maxRecDepth 100000 in
set_option maxHeartbeats 1000000 in
theorem ib10b5 (w : World) (g : Nat) (s : PS) (W H B : Value) (c : UInt8) (P : Par w g s W H B) (hl : s.wd.length + 1 ≤ 140737488355328) (hst : s.st = 10) (h0 : ((c.toNat : Int) == 13) = false) (h1 : digitB c = false) (h2 : letterB c = true) (h3 : decide (lowI c ≤ 102) = true) (h4 : decide ((s.wd.length : Int) < 6) = false) : Calls Tryd.prog 23 #[.pointer (some ⟨g, 0, none⟩), .int .u8 (c.toNat : Int)] w (PPost g W H B w (takeP s c false).1 (.int .i64 (takeP s c false).2)) := by
  have q0 : ((c.toNat : Int) != 13) = true := by rw [bne, h0]; rfl
  have hD_ := h1
  have hL_ := h2
  have HP := Lib.hid P
  have HL := Lib.hid hl
  have HST := Lib.hid hst
  have e_ := P.at_
  rw [hst] at e_
  obtain ⟨e0, _, _, e3, _, _, e6, _, _, e9, _⟩ := e_
  have hor : bits .or .u8 (c.toNat : Int) 32 = lowI c := rfl
  obtain ⟨lo, hlo⟩ : ∃ lo, lo = lowI c := ⟨_, rfl⟩
  rw [← hlo] at hor h3
  clear hlo
  obtain ⟨n, hn⟩ : ∃ n, n = s.wd.length := ⟨_, rfl⟩
  rw [← hn] at h4
  have p4 : 6 ≤ n := by simp at h4; omega
  have i4 : (6 : Int) ≤ (n : Int) := by omega
  have m4 : ¬ n < 6 := by omega
  have l4 : ¬ ((n : Int) < 6) := by omega
  clear h4
  obtain ⟨A, cW, hW, _, _⟩ := own8_form' (n := n) P.wd hn.symm
  have HN := Lib.hid hn
  clear hn
  subst hW
  clear P hl hst
  go_enter Tryd.func23, Tryd.ntmps23
  go_wp2_with (first
    | (go_at_call 28; go_must (refine (letter_any c _).mono ?_; rintro e w1 ⟨rfl, rfl⟩; rw [hL_]))
    | (go_at_call 29; go_must (refine (digit_any c _).mono ?_; rintro e w1 ⟨rfl, rfl⟩; rw [hD_]))
    | (go_at_call 26; go_must (rw [show decide ((n : Int) < 6) = false from decide_eq_false (by omega)]; refine (take_any _ g s _ H B c _ HP.out HL.out).mono ?_; rintro e w1 ⟨rfl, W1, H1, B1, P1, S1⟩; have HP1 := Lib.hid P1; have HS1 := Lib.hid S1; clear P1 S1)))
  go_ret
  exact ⟨rfl, W1, H1, B1, HP1.out, HS1.out⟩
set_option maxRecDepth 100000 in
set_option maxHeartbeats 1000000 in
theorem ib10c (w : World) (g : Nat) (s : PS) (W H B : Value) (c : UInt8) (P : Par w g s W H B) (hl : s.wd.length + 1 ≤ 140737488355328) (hst : s.st = 10) (h0 : ((c.toNat : Int) == 13) = true) (h1 : decide ((0 : Int) < (s.wd.length : Int)) = false) (h2 : digitB c = false) (h3 : letterB c = false) : Calls Tryd.prog 23 #[.pointer (some ⟨g, 0, none⟩), .int .u8 (c.toNat : Int)] w (PPost g W H B w (takeP s c false).1 (.int .i64 (takeP s c false).2)) := by
  have q0 : ((c.toNat : Int) != 13) = false := by rw [bne, h0]; rfl
  have hD_ := h2
  have hL_ := h3
  have HP := Lib.hid P
  have HL := Lib.hid hl
  have HST := Lib.hid hst
  have e_ := P.at_
  rw [hst] at e_
  obtain ⟨e0, _, _, e3, _, _, e6, _, _, e9, _⟩ := e_
  obtain ⟨n, hn⟩ : ∃ n, n = s.wd.length := ⟨_, rfl⟩
  rw [← hn] at h1
  have p1 : n = 0 := by simp at h1; omega
  clear h1
  have hz0 : n = 0 := by omega
  rw [hz0] at hn
  obtain ⟨A, cW, hW, _, _⟩ := own8_form' (n := 0) P.wd hn.symm
  have HN := Lib.hid hn
  clear hn
  subst hW
  clear P hl hst
  go_enter Tryd.func23, Tryd.ntmps23
  go_wp2_with (first
    | (go_at_call 28; go_must (refine (letter_any c _).mono ?_; rintro e w1 ⟨rfl, rfl⟩; rw [hL_]))
    | (go_at_call 29; go_must (refine (digit_any c _).mono ?_; rintro e w1 ⟨rfl, rfl⟩; rw [hD_]))
    | (go_at_call 26; go_must (refine (take_any _ g s _ H B c _ HP.out HL.out).mono ?_; rintro e w1 ⟨rfl, W1, H1, B1, P1, S1⟩; have HP1 := Lib.hid P1; have HS1 := Lib.hid S1; clear P1 S1)))
  go_ret
  exact ⟨rfl, W1, H1, B1, HP1.out, HS1.out⟩
set_option maxRecDepth 100000 in
set_option maxHeartbeats 1000000 in
theorem ib11x (w : World) (g : Nat) (s : PS) (W H B : Value) (c : UInt8) (P : Par w g s W H B) (hl : s.wd.length + 1 ≤ 140737488355328) (hst : s.st = 11) (h0 : ((c.toNat : Int) != 10) = true) : Calls Tryd.prog 23 #[.pointer (some ⟨g, 0, none⟩), .int .u8 (c.toNat : Int)] w (PPost g W H B w ((s, (400 : Int))).1 (.int .i64 ((s, (400 : Int))).2)) := by
  have q0 : ((c.toNat : Int) == 10) = false := by rw [bne, Bool.not_eq_eq_eq_not] at h0; simpa using h0
  have HP := Lib.hid P
  have HL := Lib.hid hl
  have HST := Lib.hid hst
  have e_ := P.at_
  rw [hst] at e_
  obtain ⟨e0, _, _, e3, _, _, e6, _, _, e9, _⟩ := e_
  obtain ⟨n, hn⟩ : ∃ n, n = s.wd.length := ⟨_, rfl⟩
  obtain ⟨A, cW, hW, _, _⟩ := own8_form' (n := n) P.wd hn.symm
  have HN := Lib.hid hn
  clear hn
  subst hW
  clear P hl hst
  go_enter Tryd.func23, Tryd.ntmps23
  go_wp2
  go_ret
  exact ⟨rfl, _, H, B, HP.out, PStep.refl _ _ _ _ _⟩
end Go.Proofs.YtjichadkonlfpaaDoor
