/- The texts H3a of this work, merged by wip/merge.py. No conditions. -/
import Derived.Test.YtjichadkonlfpaaDoorQHS
namespace Go.Proofs.YtjichadkonlfpaaDoor
open Go.RowKit
set_option maxRecDepth 100000 in
set_option maxHeartbeats 1000000 in
theorem ih2a (w : World) (g : Nat) (s : PS) (W H B : Value) (c : UInt8) (P : Par w g s W H B) (hl : s.wd.length + 1 ≤ 140737488355328) (hst : s.st = 2) (h0 : ((c.toNat : Int) == 32) = true) (h1 : decide ((0 : Int) < (s.wd.length : Int)) = true) : Calls Tryd.prog 21 #[.pointer (some ⟨g, 0, none⟩), .int .u8 (c.toNat : Int)] w (PPost g W H B w (({ s with m := s.wd, wd := [], st := 3 }, (0 : Int))).1 (.int .i64 (({ s with m := s.wd, wd := [], st := 3 }, (0 : Int))).2)) := by
  have q0 : ((c.toNat : Int) != 32) = false := by rw [bne, h0]; rfl
  have HP := Lib.hid P
  have HL := Lib.hid hl
  have HST := Lib.hid hst
  have e_ := P.at_
  rw [hst] at e_
  obtain ⟨e0, _, _, e3, _, _, e6, _, _, e9, _⟩ := e_
  obtain ⟨n, hn⟩ : ∃ n, n = s.wd.length := ⟨_, rfl⟩
  rw [← hn] at h1
  have p1 : 0 < n := by simp at h1; omega
  have i1 : (0 : Int) < (n : Int) := by omega
  clear h1
  obtain ⟨A, cW, hW, _, _⟩ := own8_form' (n := n) P.wd hn.symm
  have HN := Lib.hid hn
  clear hn
  subst hW
  clear P hl hst
  go_enter Tryd.func21, Tryd.ntmps21
  go_wp2_with (first
    | (go_at_call 25; go_must (refine (done_any _ g s _ H B 3 HP.out).mono ?_; rintro e w1 ⟨rfl, W1, H1, B1, P1, S1⟩; have e1_ := P1.at_; obtain ⟨_, _, _, _, x4, x5, _, _, _, _, _⟩ := e1_; have f4 := P1.fz 4; have S2 := Lib.hid (P1.set (s' := { s with m := s.wd, wd := [], st := 3 }) 4 (.string ⟨s.wd.toArray⟩) rfl rfl rfl rfl); have HS1 := Lib.hid S1; clear P1 S1)))
  go_ret
  exact ⟨rfl, W1, H1, B1, S2.out.1, HS1.out.trans S2.out.2⟩
set_option maxRecDepth 100000 in
set_option maxHeartbeats 1000000 in
theorem ih2b0 (w : World) (g : Nat) (s : PS) (W H B : Value) (c : UInt8) (P : Par w g s W H B) (hl : s.wd.length + 1 ≤ 140737488355328) (hst : s.st = 2) (h0 : ((c.toNat : Int) == 32) = false) (h1 : decide ((65 : Int) ≤ (c.toNat : Int)) = false) : Calls Tryd.prog 21 #[.pointer (some ⟨g, 0, none⟩), .int .u8 (c.toNat : Int)] w (PPost g W H B w (takeP s c false).1 (.int .i64 (takeP s c false).2)) := by
  have q0 : ((c.toNat : Int) != 32) = true := by rw [bne, h0]; rfl
  have HP := Lib.hid P
  have HL := Lib.hid hl
  have HST := Lib.hid hst
  have e_ := P.at_
  rw [hst] at e_
  obtain ⟨e0, _, _, e3, _, _, e6, _, _, e9, _⟩ := e_
  obtain ⟨n, hn⟩ : ∃ n, n = s.wd.length := ⟨_, rfl⟩
  obtain ⟨A, cW, hW, _, _⟩ := own8_form' (n := n) P.wd hn.symm
  have HN := Lib.hid hn
  clear hn
  subst hW
  clear P hl hst
  go_enter Tryd.func21, Tryd.ntmps21
  go_wp2_with (first
    | (go_at_call 26; go_must (refine (take_any _ g s _ H B c _ HP.out HL.out).mono ?_; rintro e w1 ⟨rfl, W1, H1, B1, P1, S1⟩; have HP1 := Lib.hid P1; have HS1 := Lib.hid S1; clear P1 S1)))
  go_ret
  exact ⟨rfl, W1, H1, B1, HP1.out, HS1.out⟩
set_option maxRecDepth 100000 in
set_option maxHeartbeats 1000000 in
theorem ih2b1 (w : World) (g : Nat) (s : PS) (W H B : Value) (c : UInt8) (P : Par w g s W H B) (hl : s.wd.length + 1 ≤ 140737488355328) (hst : s.st = 2) (h0 : ((c.toNat : Int) == 32) = false) (h1 : decide ((65 : Int) ≤ (c.toNat : Int)) = true) (h2 : decide ((c.toNat : Int) ≤ 90) = false) : Calls Tryd.prog 21 #[.pointer (some ⟨g, 0, none⟩), .int .u8 (c.toNat : Int)] w (PPost g W H B w (takeP s c false).1 (.int .i64 (takeP s c false).2)) := by
  have q0 : ((c.toNat : Int) != 32) = true := by rw [bne, h0]; rfl
  have HP := Lib.hid P
  have HL := Lib.hid hl
  have HST := Lib.hid hst
  have e_ := P.at_
  rw [hst] at e_
  obtain ⟨e0, _, _, e3, _, _, e6, _, _, e9, _⟩ := e_
  obtain ⟨n, hn⟩ : ∃ n, n = s.wd.length := ⟨_, rfl⟩
  obtain ⟨A, cW, hW, _, _⟩ := own8_form' (n := n) P.wd hn.symm
  have HN := Lib.hid hn
  clear hn
  subst hW
  clear P hl hst
  go_enter Tryd.func21, Tryd.ntmps21
  go_wp2_with (first
    | (go_at_call 26; go_must (refine (take_any _ g s _ H B c _ HP.out HL.out).mono ?_; rintro e w1 ⟨rfl, W1, H1, B1, P1, S1⟩; have HP1 := Lib.hid P1; have HS1 := Lib.hid S1; clear P1 S1)))
  go_ret
  exact ⟨rfl, W1, H1, B1, HP1.out, HS1.out⟩
set_option maxRecDepth 100000 in
set_option maxHeartbeats 1000000 in
theorem ih2b2 (w : World) (g : Nat) (s : PS) (W H B : Value) (c : UInt8) (P : Par w g s W H B) (hl : s.wd.length + 1 ≤ 140737488355328) (hst : s.st = 2) (h0 : ((c.toNat : Int) == 32) = false) (h1 : decide ((65 : Int) ≤ (c.toNat : Int)) = true) (h2 : decide ((c.toNat : Int) ≤ 90) = true) (h3 : decide ((s.wd.length : Int) < 16) = false) : Calls Tryd.prog 21 #[.pointer (some ⟨g, 0, none⟩), .int .u8 (c.toNat : Int)] w (PPost g W H B w (takeP s c false).1 (.int .i64 (takeP s c false).2)) := by
  have q0 : ((c.toNat : Int) != 32) = true := by rw [bne, h0]; rfl
  have HP := Lib.hid P
  have HL := Lib.hid hl
  have HST := Lib.hid hst
  have e_ := P.at_
  rw [hst] at e_
  obtain ⟨e0, _, _, e3, _, _, e6, _, _, e9, _⟩ := e_
  obtain ⟨n, hn⟩ : ∃ n, n = s.wd.length := ⟨_, rfl⟩
  rw [← hn] at h3
  have p3 : 16 ≤ n := by simp at h3; omega
  have i3 : (16 : Int) ≤ (n : Int) := by omega
  have m3 : ¬ n < 16 := by omega
  have l3 : ¬ ((n : Int) < 16) := by omega
  clear h3
  obtain ⟨A, cW, hW, _, _⟩ := own8_form' (n := n) P.wd hn.symm
  have HN := Lib.hid hn
  clear hn
  subst hW
  clear P hl hst
  go_enter Tryd.func21, Tryd.ntmps21
  go_wp2_with (first
    | (go_at_call 26; go_must (refine (take_any _ g s _ H B c _ HP.out HL.out).mono ?_; rintro e w1 ⟨rfl, W1, H1, B1, P1, S1⟩; have HP1 := Lib.hid P1; have HS1 := Lib.hid S1; clear P1 S1)))
  go_ret
  exact ⟨rfl, W1, H1, B1, HP1.out, HS1.out⟩
set_option maxRecDepth 100000 in
set_option maxHeartbeats 1000000 in
theorem ih2b3 (w : World) (g : Nat) (s : PS) (W H B : Value) (c : UInt8) (P : Par w g s W H B) (hl : s.wd.length + 1 ≤ 140737488355328) (hst : s.st = 2) (h0 : ((c.toNat : Int) == 32) = false) (h1 : decide ((65 : Int) ≤ (c.toNat : Int)) = true) (h2 : decide ((c.toNat : Int) ≤ 90) = true) (h3 : decide ((s.wd.length : Int) < 16) = true) : Calls Tryd.prog 21 #[.pointer (some ⟨g, 0, none⟩), .int .u8 (c.toNat : Int)] w (PPost g W H B w (takeP s c true).1 (.int .i64 (takeP s c true).2)) := by
  have q0 : ((c.toNat : Int) != 32) = true := by rw [bne, h0]; rfl
  have HP := Lib.hid P
  have HL := Lib.hid hl
  have HST := Lib.hid hst
  have e_ := P.at_
  rw [hst] at e_
  obtain ⟨e0, _, _, e3, _, _, e6, _, _, e9, _⟩ := e_
  obtain ⟨n, hn⟩ : ∃ n, n = s.wd.length := ⟨_, rfl⟩
  rw [← hn] at h3
  have p3 : n < 16 := by simp at h3; omega
  have i3 : (n : Int) < (16 : Int) := by omega
  clear h3
  obtain ⟨A, cW, hW, _, _⟩ := own8_form' (n := n) P.wd hn.symm
  have HN := Lib.hid hn
  clear hn
  subst hW
  clear P hl hst
  go_enter Tryd.func21, Tryd.ntmps21
  go_wp2_with (first
    | (go_at_call 26; go_must (refine (take_any _ g s _ H B c _ HP.out HL.out).mono ?_; rintro e w1 ⟨rfl, W1, H1, B1, P1, S1⟩; have HP1 := Lib.hid P1; have HS1 := Lib.hid S1; clear P1 S1)))
  go_ret
  exact ⟨rfl, W1, H1, B1, HP1.out, HS1.out⟩
set_option maxRecDepth 100000 in
set_option maxHeartbeats 1000000 in
theorem ih2b4 (w : World) (g : Nat) (s : PS) (W H B : Value) (c : UInt8) (P : Par w g s W H B) (hl : s.wd.length + 1 ≤ 140737488355328) (hst : s.st = 2) (h0 : ((c.toNat : Int) == 32) = true) (h1 : decide ((0 : Int) < (s.wd.length : Int)) = false) (h2 : decide ((65 : Int) ≤ (c.toNat : Int)) = false) : Calls Tryd.prog 21 #[.pointer (some ⟨g, 0, none⟩), .int .u8 (c.toNat : Int)] w (PPost g W H B w (takeP s c false).1 (.int .i64 (takeP s c false).2)) := by
  have q0 : ((c.toNat : Int) != 32) = false := by rw [bne, h0]; rfl
  have HP := Lib.hid P
  have HL := Lib.hid hl
  have HST := Lib.hid hst
  have e_ := P.at_
  rw [hst] at e_
  obtain ⟨e0, _, _, e3, _, _, e6, _, _, e9, _⟩ := e_
  obtain ⟨n, hn⟩ : ∃ n, n = s.wd.length := ⟨_, rfl⟩
  rw [← hn] at h1
  have p1 : n = 0 := by simp at h1; omega
  clear h1
  have hz0 : n = 0 := by omega
  rw [hz0] at hn
  obtain ⟨A, cW, hW, _, _⟩ := own8_form' (n := 0) P.wd hn.symm
  have HN := Lib.hid hn
  clear hn
  subst hW
  clear P hl hst
  go_enter Tryd.func21, Tryd.ntmps21
  go_wp2_with (first
    | (go_at_call 26; go_must (refine (take_any _ g s _ H B c _ HP.out HL.out).mono ?_; rintro e w1 ⟨rfl, W1, H1, B1, P1, S1⟩; have HP1 := Lib.hid P1; have HS1 := Lib.hid S1; clear P1 S1)))
  go_ret
  exact ⟨rfl, W1, H1, B1, HP1.out, HS1.out⟩
theorem head2_any (w : World) (g : Nat) (s : PS) (W H B : Value) (c : UInt8) (P : Par w g s W H B) (hl : s.wd.length + 1 ≤ 140737488355328) (hst : s.st = 2) : Calls Tryd.prog 21 #[.pointer (some ⟨g, 0, none⟩), .int .u8 (c.toNat : Int)] w (PPost g W H B w (head2 s c).1 (.int .i64 (head2 s c).2)) := by
  unfold head2
  cases h1 : ((c.toNat : Int) == 32) <;> cases h2 : decide ((0 : Int) < (s.wd.length : Int))
  · cases h3 : decide ((65 : Int) ≤ (c.toNat : Int))
    · exact ih2b0 w g s W H B c P hl hst h1 h3
    · cases h4 : decide ((c.toNat : Int) ≤ 90)
      · exact ih2b1 w g s W H B c P hl hst h1 h3 h4
      · cases h5 : decide ((s.wd.length : Int) < 16)
        · exact ih2b2 w g s W H B c P hl hst h1 h3 h4 h5
        · exact ih2b3 w g s W H B c P hl hst h1 h3 h4 h5
  · cases h3 : decide ((65 : Int) ≤ (c.toNat : Int))
    · exact ih2b0 w g s W H B c P hl hst h1 h3
    · cases h4 : decide ((c.toNat : Int) ≤ 90)
      · exact ih2b1 w g s W H B c P hl hst h1 h3 h4
      · cases h5 : decide ((s.wd.length : Int) < 16)
        · exact ih2b2 w g s W H B c P hl hst h1 h3 h4 h5
        · exact ih2b3 w g s W H B c P hl hst h1 h3 h4 h5
  · have h3 : decide ((65 : Int) ≤ (c.toNat : Int)) = false := by simp at h1 ⊢; omega
    rw [h3]
    exact ih2b4 w g s W H B c P hl hst h1 h2 h3
  · exact ih2a w g s W H B c P hl hst h1 h2
set_option maxRecDepth 100000 in
set_option maxHeartbeats 1000000 in
theorem ih3a (w : World) (g : Nat) (s : PS) (W H B : Value) (c : UInt8) (P : Par w g s W H B) (hl : s.wd.length + 1 ≤ 140737488355328) (hst : s.st = 3) (h0 : ((c.toNat : Int) == 32) = true) (h1 : decide ((0 : Int) < (s.wd.length : Int)) = true) : Calls Tryd.prog 21 #[.pointer (some ⟨g, 0, none⟩), .int .u8 (c.toNat : Int)] w (PPost g W H B w (({ s with t := s.wd, wd := [], st := 4 }, (0 : Int))).1 (.int .i64 (({ s with t := s.wd, wd := [], st := 4 }, (0 : Int))).2)) := by
  have q0 : ((c.toNat : Int) != 32) = false := by rw [bne, h0]; rfl
  have HP := Lib.hid P
  have HL := Lib.hid hl
  have HST := Lib.hid hst
  have e_ := P.at_
  rw [hst] at e_
  obtain ⟨e0, _, _, e3, _, _, e6, _, _, e9, _⟩ := e_
  obtain ⟨n, hn⟩ : ∃ n, n = s.wd.length := ⟨_, rfl⟩
  rw [← hn] at h1
  have p1 : 0 < n := by simp at h1; omega
  have i1 : (0 : Int) < (n : Int) := by omega
  clear h1
  obtain ⟨A, cW, hW, _, _⟩ := own8_form' (n := n) P.wd hn.symm
  have HN := Lib.hid hn
  clear hn
  subst hW
  clear P hl hst
  go_enter Tryd.func21, Tryd.ntmps21
  go_wp2_with (first
    | (go_at_call 25; go_must (refine (done_any _ g s _ H B 4 HP.out).mono ?_; rintro e w1 ⟨rfl, W1, H1, B1, P1, S1⟩; have e1_ := P1.at_; obtain ⟨_, _, _, _, x4, x5, _, _, _, _, _⟩ := e1_; have f4 := P1.fz 5; have S2 := Lib.hid (P1.set (s' := { s with t := s.wd, wd := [], st := 4 }) 5 (.string ⟨s.wd.toArray⟩) rfl rfl rfl rfl); have HS1 := Lib.hid S1; clear P1 S1)))
  go_ret
  exact ⟨rfl, W1, H1, B1, S2.out.1, HS1.out.trans S2.out.2⟩
set_option maxRecDepth 100000 in
set_option maxHeartbeats 1000000 in
theorem ih3b0 (w : World) (g : Nat) (s : PS) (W H B : Value) (c : UInt8) (P : Par w g s W H B) (hl : s.wd.length + 1 ≤ 140737488355328) (hst : s.st = 3) (h0 : ((c.toNat : Int) == 32) = false) (h1 : decide ((32 : Int) < (c.toNat : Int)) = false) : Calls Tryd.prog 21 #[.pointer (some ⟨g, 0, none⟩), .int .u8 (c.toNat : Int)] w (PPost g W H B w (takeP s c false).1 (.int .i64 (takeP s c false).2)) := by
  have q0 : ((c.toNat : Int) != 32) = true := by rw [bne, h0]; rfl
  have HP := Lib.hid P
  have HL := Lib.hid hl
  have HST := Lib.hid hst
  have e_ := P.at_
  rw [hst] at e_
  obtain ⟨e0, _, _, e3, _, _, e6, _, _, e9, _⟩ := e_
  obtain ⟨n, hn⟩ : ∃ n, n = s.wd.length := ⟨_, rfl⟩
  obtain ⟨A, cW, hW, _, _⟩ := own8_form' (n := n) P.wd hn.symm
  have HN := Lib.hid hn
  clear hn
  subst hW
  clear P hl hst
  go_enter Tryd.func21, Tryd.ntmps21
  go_wp2_with (first
    | (go_at_call 26; go_must (refine (take_any _ g s _ H B c _ HP.out HL.out).mono ?_; rintro e w1 ⟨rfl, W1, H1, B1, P1, S1⟩; have HP1 := Lib.hid P1; have HS1 := Lib.hid S1; clear P1 S1)))
  go_ret
  exact ⟨rfl, W1, H1, B1, HP1.out, HS1.out⟩
set_option maxRecDepth 100000 in
set_option maxHeartbeats 1000000 in
theorem ih3b1 (w : World) (g : Nat) (s : PS) (W H B : Value) (c : UInt8) (P : Par w g s W H B) (hl : s.wd.length + 1 ≤ 140737488355328) (hst : s.st = 3) (h0 : ((c.toNat : Int) == 32) = false) (h1 : decide ((32 : Int) < (c.toNat : Int)) = true) (h2 : decide ((c.toNat : Int) < 127) = false) : Calls Tryd.prog 21 #[.pointer (some ⟨g, 0, none⟩), .int .u8 (c.toNat : Int)] w (PPost g W H B w (takeP s c false).1 (.int .i64 (takeP s c false).2)) := by
  have q0 : ((c.toNat : Int) != 32) = true := by rw [bne, h0]; rfl
  have HP := Lib.hid P
  have HL := Lib.hid hl
  have HST := Lib.hid hst
  have e_ := P.at_
  rw [hst] at e_
  obtain ⟨e0, _, _, e3, _, _, e6, _, _, e9, _⟩ := e_
  obtain ⟨n, hn⟩ : ∃ n, n = s.wd.length := ⟨_, rfl⟩
  obtain ⟨A, cW, hW, _, _⟩ := own8_form' (n := n) P.wd hn.symm
  have HN := Lib.hid hn
  clear hn
  subst hW
  clear P hl hst
  go_enter Tryd.func21, Tryd.ntmps21
  go_wp2_with (first
    | (go_at_call 26; go_must (refine (take_any _ g s _ H B c _ HP.out HL.out).mono ?_; rintro e w1 ⟨rfl, W1, H1, B1, P1, S1⟩; have HP1 := Lib.hid P1; have HS1 := Lib.hid S1; clear P1 S1)))
  go_ret
  exact ⟨rfl, W1, H1, B1, HP1.out, HS1.out⟩
set_option maxRecDepth 100000 in
set_option maxHeartbeats 1000000 in
theorem ih3b2 (w : World) (g : Nat) (s : PS) (W H B : Value) (c : UInt8) (P : Par w g s W H B) (hl : s.wd.length + 1 ≤ 140737488355328) (hst : s.st = 3) (h0 : ((c.toNat : Int) == 32) = false) (h1 : decide ((32 : Int) < (c.toNat : Int)) = true) (h2 : decide ((c.toNat : Int) < 127) = true) (h3 : decide ((0 : Int) < (s.wd.length : Int)) = true) : Calls Tryd.prog 21 #[.pointer (some ⟨g, 0, none⟩), .int .u8 (c.toNat : Int)] w (PPost g W H B w (takeP s c true).1 (.int .i64 (takeP s c true).2)) := by
  have q0 : ((c.toNat : Int) != 32) = true := by rw [bne, h0]; rfl
  have HP := Lib.hid P
  have HL := Lib.hid hl
  have HST := Lib.hid hst
  have e_ := P.at_
  rw [hst] at e_
  obtain ⟨e0, _, _, e3, _, _, e6, _, _, e9, _⟩ := e_
  obtain ⟨n, hn⟩ : ∃ n, n = s.wd.length := ⟨_, rfl⟩
  rw [← hn] at h3
  have p3 : 0 < n := by simp at h3; omega
  have i3 : (0 : Int) < (n : Int) := by omega
  clear h3
  obtain ⟨A, cW, hW, _, _⟩ := own8_form' (n := n) P.wd hn.symm
  have HN := Lib.hid hn
  clear hn
  subst hW
  clear P hl hst
  go_enter Tryd.func21, Tryd.ntmps21
  go_wp2_with (first
    | (go_at_call 26; go_must (refine (take_any _ g s _ H B c _ HP.out HL.out).mono ?_; rintro e w1 ⟨rfl, W1, H1, B1, P1, S1⟩; have HP1 := Lib.hid P1; have HS1 := Lib.hid S1; clear P1 S1)))
  go_ret
  exact ⟨rfl, W1, H1, B1, HP1.out, HS1.out⟩
set_option maxRecDepth 100000 in
set_option maxHeartbeats 1000000 in
theorem ih3b3 (w : World) (g : Nat) (s : PS) (W H B : Value) (c : UInt8) (P : Par w g s W H B) (hl : s.wd.length + 1 ≤ 140737488355328) (hst : s.st = 3) (h0 : ((c.toNat : Int) == 32) = false) (h1 : decide ((32 : Int) < (c.toNat : Int)) = true) (h2 : decide ((c.toNat : Int) < 127) = true) (h3 : decide ((0 : Int) < (s.wd.length : Int)) = false) (h4 : ((c.toNat : Int) == 47) = true) : Calls Tryd.prog 21 #[.pointer (some ⟨g, 0, none⟩), .int .u8 (c.toNat : Int)] w (PPost g W H B w (takeP s c true).1 (.int .i64 (takeP s c true).2)) := by
  have q0 : ((c.toNat : Int) != 32) = true := by rw [bne, h0]; rfl
  have q4 : ((c.toNat : Int) != 47) = false := by rw [bne, h4]; rfl
  have HP := Lib.hid P
  have HL := Lib.hid hl
  have HST := Lib.hid hst
  have e_ := P.at_
  rw [hst] at e_
  obtain ⟨e0, _, _, e3, _, _, e6, _, _, e9, _⟩ := e_
  obtain ⟨n, hn⟩ : ∃ n, n = s.wd.length := ⟨_, rfl⟩
  rw [← hn] at h3
  have p3 : n = 0 := by simp at h3; omega
  clear h3
  have hz0 : n = 0 := by omega
  rw [hz0] at hn
  obtain ⟨A, cW, hW, _, _⟩ := own8_form' (n := 0) P.wd hn.symm
  have HN := Lib.hid hn
  clear hn
  subst hW
  clear P hl hst
  go_enter Tryd.func21, Tryd.ntmps21
  go_wp2_with (first
    | (go_at_call 26; go_must (refine (take_any _ g s _ H B c _ HP.out HL.out).mono ?_; rintro e w1 ⟨rfl, W1, H1, B1, P1, S1⟩; have HP1 := Lib.hid P1; have HS1 := Lib.hid S1; clear P1 S1)))
  go_ret
  exact ⟨rfl, W1, H1, B1, HP1.out, HS1.out⟩
set_option maxRecDepth 100000 in
set_option maxHeartbeats 1000000 in
theorem ih3b4 (w : World) (g : Nat) (s : PS) (W H B : Value) (c : UInt8) (P : Par w g s W H B) (hl : s.wd.length + 1 ≤ 140737488355328) (hst : s.st = 3) (h0 : ((c.toNat : Int) == 32) = false) (h1 : decide ((32 : Int) < (c.toNat : Int)) = true) (h2 : decide ((c.toNat : Int) < 127) = true) (h3 : decide ((0 : Int) < (s.wd.length : Int)) = false) (h4 : ((c.toNat : Int) == 47) = false) : Calls Tryd.prog 21 #[.pointer (some ⟨g, 0, none⟩), .int .u8 (c.toNat : Int)] w (PPost g W H B w (takeP s c false).1 (.int .i64 (takeP s c false).2)) := by
  have q0 : ((c.toNat : Int) != 32) = true := by rw [bne, h0]; rfl
  have q4 : ((c.toNat : Int) != 47) = true := by rw [bne, h4]; rfl
  have HP := Lib.hid P
  have HL := Lib.hid hl
  have HST := Lib.hid hst
  have e_ := P.at_
  rw [hst] at e_
  obtain ⟨e0, _, _, e3, _, _, e6, _, _, e9, _⟩ := e_
  obtain ⟨n, hn⟩ : ∃ n, n = s.wd.length := ⟨_, rfl⟩
  rw [← hn] at h3
  have p3 : n = 0 := by simp at h3; omega
  clear h3
  have hz0 : n = 0 := by omega
  rw [hz0] at hn
  obtain ⟨A, cW, hW, _, _⟩ := own8_form' (n := 0) P.wd hn.symm
  have HN := Lib.hid hn
  clear hn
  subst hW
  clear P hl hst
  go_enter Tryd.func21, Tryd.ntmps21
  go_wp2_with (first
    | (go_at_call 26; go_must (refine (take_any _ g s _ H B c _ HP.out HL.out).mono ?_; rintro e w1 ⟨rfl, W1, H1, B1, P1, S1⟩; have HP1 := Lib.hid P1; have HS1 := Lib.hid S1; clear P1 S1)))
  go_ret
  exact ⟨rfl, W1, H1, B1, HP1.out, HS1.out⟩
set_option maxRecDepth 100000 in
set_option maxHeartbeats 1000000 in
theorem ih3b5 (w : World) (g : Nat) (s : PS) (W H B : Value) (c : UInt8) (P : Par w g s W H B) (hl : s.wd.length + 1 ≤ 140737488355328) (hst : s.st = 3) (h0 : ((c.toNat : Int) == 32) = true) (h1 : decide ((0 : Int) < (s.wd.length : Int)) = false) (h2 : decide ((32 : Int) < (c.toNat : Int)) = false) : Calls Tryd.prog 21 #[.pointer (some ⟨g, 0, none⟩), .int .u8 (c.toNat : Int)] w (PPost g W H B w (takeP s c false).1 (.int .i64 (takeP s c false).2)) := by
  have q0 : ((c.toNat : Int) != 32) = false := by rw [bne, h0]; rfl
  have HP := Lib.hid P
  have HL := Lib.hid hl
  have HST := Lib.hid hst
  have e_ := P.at_
  rw [hst] at e_
  obtain ⟨e0, _, _, e3, _, _, e6, _, _, e9, _⟩ := e_
  obtain ⟨n, hn⟩ : ∃ n, n = s.wd.length := ⟨_, rfl⟩
  rw [← hn] at h1
  have p1 : n = 0 := by simp at h1; omega
  clear h1
  have hz0 : n = 0 := by omega
  rw [hz0] at hn
  obtain ⟨A, cW, hW, _, _⟩ := own8_form' (n := 0) P.wd hn.symm
  have HN := Lib.hid hn
  clear hn
  subst hW
  clear P hl hst
  go_enter Tryd.func21, Tryd.ntmps21
  go_wp2_with (first
    | (go_at_call 26; go_must (refine (take_any _ g s _ H B c _ HP.out HL.out).mono ?_; rintro e w1 ⟨rfl, W1, H1, B1, P1, S1⟩; have HP1 := Lib.hid P1; have HS1 := Lib.hid S1; clear P1 S1)))
  go_ret
  exact ⟨rfl, W1, H1, B1, HP1.out, HS1.out⟩
theorem head3_any (w : World) (g : Nat) (s : PS) (W H B : Value) (c : UInt8) (P : Par w g s W H B) (hl : s.wd.length + 1 ≤ 140737488355328) (hst : s.st = 3) : Calls Tryd.prog 21 #[.pointer (some ⟨g, 0, none⟩), .int .u8 (c.toNat : Int)] w (PPost g W H B w (head3 s c).1 (.int .i64 (head3 s c).2)) := by
  unfold head3
  cases h1 : ((c.toNat : Int) == 32)
  · cases h3 : decide ((32 : Int) < (c.toNat : Int))
    · exact ih3b0 w g s W H B c P hl hst h1 h3
    · cases h4 : decide ((c.toNat : Int) < 127)
      · exact ih3b1 w g s W H B c P hl hst h1 h3 h4
      · cases h2 : decide ((0 : Int) < (s.wd.length : Int))
        · cases h5 : ((c.toNat : Int) == 47)
          · exact ih3b4 w g s W H B c P hl hst h1 h3 h4 h2 h5
          · exact ih3b3 w g s W H B c P hl hst h1 h3 h4 h2 h5
        · exact ih3b2 w g s W H B c P hl hst h1 h3 h4 h2
  · cases h2 : decide ((0 : Int) < (s.wd.length : Int))
    · have h3 : decide ((32 : Int) < (c.toNat : Int)) = false := by simp at h1 ⊢; omega
      rw [h3]
      exact ih3b5 w g s W H B c P hl hst h1 h2 h3
    · exact ih3a w g s W H B c P hl hst h1 h2
end Go.Proofs.YtjichadkonlfpaaDoor
