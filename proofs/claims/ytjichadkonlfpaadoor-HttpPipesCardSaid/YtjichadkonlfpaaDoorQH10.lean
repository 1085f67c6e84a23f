/- The texts H10 H11 of this work, merged by wip/merge.py. No conditions. -/
import Derived.Test.YtjichadkonlfpaaDoorQH3x
import Derived.Test.YtjichadkonlfpaaDoorQH3y
import Derived.Test.YtjichadkonlfpaaDoorQH3z
import Derived.Test.YtjichadkonlfpaaDoorQH78
import Derived.Test.YtjichadkonlfpaaDoorQH8z
import Derived.Test.YtjichadkonlfpaaDoorQH9
namespace Go.Proofs.YtjichadkonlfpaaDoor
open Go.RowKit
theorem head_any (w : World) (g : Nat) (s : PS) (W H B : Value) (c : UInt8) (P : Par w g s W H B) (hk : Ok s) (h2 : 2 ≤ s.st) (h8 : s.st ≤ 8) :
    Calls Tryd.prog 21 #[.pointer (some ⟨g, 0, none⟩), .int .u8 (c.toNat : Int)] w (PPost g W H B w (inHeadP s c).1 (.int .i64 (inHeadP s c).2)) := by
  have hl : s.wd.length + 1 ≤ 140737488355328 := by have := hk.wl; omega
  have hh : s.hs.length ≤ 1000000000 := by have := hk.hl; have := hk.hd1; omega
  unfold inHeadP
  by_cases e2 : s.st = 2
  · rw [if_pos e2]; exact head2_any w g s W H B c P hl e2
  rw [if_neg e2]
  by_cases e3 : s.st = 3
  · rw [if_pos e3]; exact head3_any w g s W H B c P hl e3
  rw [if_neg e3]
  by_cases e4 : s.st = 4
  · rw [if_pos e4]; exact head4_any w g s W H B c P hl e4
  rw [if_neg e4]
  by_cases e5 : s.st = 5
  · rw [if_pos e5]; exact head5_any w g s W H B c P hl e5
  rw [if_neg e5]
  by_cases e6 : s.st = 6
  · rw [if_pos e6]; exact head6_any w g s W H B c P hl e6 hk.wa hh
  rw [if_neg e6]
  by_cases e7 : s.st = 7
  · rw [if_pos e7]; exact head7_any w g s W H B c P hl e7 (hk.h7 e7) hh
  rw [if_neg e7]
  have e8 : s.st = 8 := by omega
  rw [if_pos e8]; exact head8_any w g s W H B c P hl e8
theorem hbody_any (w : World) (g : Nat) (s : PS) (W H B : Value) (c : UInt8) (P : Par w g s W H B) (hk : Ok s) (hs : ¬ (2 ≤ s.st ∧ s.st ≤ 8)) :
    Calls Tryd.prog 23 #[.pointer (some ⟨g, 0, none⟩), .int .u8 (c.toNat : Int)] w (PPost g W H B w (inBodyP s c).1 (.int .i64 (inBodyP s c).2)) := by
  have := hk.wl
  have := hk.bd
  have := hk.l0
  have := hk.l1
  have := hk.st0
  have := hk.st1
  exact body_any w g s W H B c P (by omega) (by omega) (by omega) (by omega) hk.w10 (by omega)
/-- A head's byte: the state that take1 finds in the head, whether it was there or was set now. -/
def TP (g : Nat) (W H B : Value) (w : World) (r : PS × Int) (e : Ending) (w' : World) : Prop := PPost g W H B w r.1 (.int .i64 r.2) e w'
theorem TP.intro {g : Nat} {W H B W' H' B' : Value} {w w' : World} {r : PS × Int} {v : Value} (hv : v = .int .i64 r.2) (P : Par w' g r.1 W' H' B') (S : PStep g W H B w W' H' B' w') : TP g W H B w r (.returned v) w' := by
  subst hv; exact ⟨rfl, W', H', B', P, S⟩
set_option maxRecDepth 100000 in
set_option maxHeartbeats 2000000 in
theorem take1b (w : World) (g : Nat) (s : PS) (W H B : Value) (c : UInt8) (P : Par w g s W H B) (hk : Ok s) (h0 : ¬ (s.st = 0 ∧ c ≠ 13)) (h1 : ¬ (2 ≤ s.st ∧ s.st ≤ 8)) :
    Calls Tryd.prog 17 #[.pointer (some ⟨g, 0, none⟩), .int .u8 (c.toNat : Int)] w (TP g W H B w (inBodyP s c)) := by
  have HB := Lib.hid (hbody_any w g s W H B c P hk h1)
  have e0 := P.at_.1
  have s0 := hk.st0
  have s1 := hk.st1
  obtain ⟨st, hst⟩ : ∃ st, st = s.st := ⟨_, rfl⟩
  rw [← hst] at e0 h0 h1 s0 s1
  clear P hk hst
  by_cases hz : st = 0
  · subst hz
    have hc : c = 13 := by
      by_cases h : c = 13
      · exact h
      · exact absurd ⟨rfl, h⟩ h0
    subst hc
    clear h0 h1 s0 s1
    go_enter Tryd.func17, Tryd.ntmps17
    go_wp2_with (go_at_call 23; go_must (refine HB.out.mono ?_; rintro e w1 ⟨rfl, W1, H1, B1, P1, S1⟩; have HP1 := Lib.hid P1; have HS1 := Lib.hid S1; clear P1 S1))
    go_ret
    exact TP.intro rfl HP1.out HS1.out
  · have q0 : (st == 0) = false := by simpa using hz
    clear h0
    by_cases hb : st = 1
    · subst hb
      clear h1 s0 s1 hz
      go_enter Tryd.func17, Tryd.ntmps17
      go_wp2_with (go_at_call 23; go_must (refine HB.out.mono ?_; rintro e w1 ⟨rfl, W1, H1, B1, P1, S1⟩; have HP1 := Lib.hid P1; have HS1 := Lib.hid S1; clear P1 S1))
      go_ret
      exact TP.intro rfl HP1.out HS1.out
    · have q2 : decide ((2 : Int) ≤ st) = true := by simp; omega
      have q8 : decide (st ≤ 8) = false := by simp; omega
      clear h1 hz hb s0 s1
      go_enter Tryd.func17, Tryd.ntmps17
      go_wp2_with (go_at_call 23; go_must (refine HB.out.mono ?_; rintro e w1 ⟨rfl, W1, H1, B1, P1, S1⟩; have HP1 := Lib.hid P1; have HS1 := Lib.hid S1; clear P1 S1))
      go_ret
      exact TP.intro rfl HP1.out HS1.out
end Go.Proofs.YtjichadkonlfpaaDoor

namespace Go.Proofs.YtjichadkonlfpaaDoor
open Go.RowKit
set_option maxRecDepth 100000 in
set_option maxHeartbeats 2000000 in
theorem t1ae (w : World) (g : Nat) (s : PS) (W H B : Value) (c : UInt8) (P : Par w g s W H B) (hk : Ok s) (hs : 2 ≤ s.st ∧ s.st ≤ 8) (R : PS) (v : Int) (hR : inHeadP s c = (R, v)) (hv : v ≠ 0) :
    Calls Tryd.prog 17 #[.pointer (some ⟨g, 0, none⟩), .int .u8 (c.toNat : Int)] w (TP g W H B w (R, v)) := by
  have HI := Lib.hid (head_any w g s W H B c P hk hs.1 hs.2)
  rw [hR] at HI
  have e0 := P.at_.1
  obtain ⟨st, hst⟩ : ∃ st, st = s.st := ⟨_, rfl⟩
  rw [← hst] at e0 hs
  have q0 : (st == 0) = false := by simp; omega
  have q2 : decide ((2 : Int) ≤ st) = true := by simp; omega
  have q8 : decide (st ≤ 8) = true := by simp; omega
  clear P hk hst hs hR
  have qv : (v != 0) = true := by simpa using hv
  clear hv
  go_enter Tryd.func17, Tryd.ntmps17
  go_wp2_with (first
    | (go_at_call 21; go_must (refine HI.out.mono ?_; rintro e w1 ⟨rfl, W1, H1, B1, P1, S1⟩; have HS1 := Lib.hid S1; have HP1 := Lib.hid P1; clear P1 S1)))
  go_ret
  exact TP.intro rfl HP1.out HS1.out
set_option maxRecDepth 100000 in
set_option maxHeartbeats 2000000 in
theorem t1al (w : World) (g : Nat) (s : PS) (W H B : Value) (c : UInt8) (P : Par w g s W H B) (hk : Ok s) (hs : 2 ≤ s.st ∧ s.st ≤ 8) (R : PS) (v : Int) (hR : inHeadP s c = (R, v)) (hv : v = 0) (hg : 2048 < R.hd + 1) (hd0 : 0 ≤ R.hd) (hd1 : R.hd ≤ 2048) :
    Calls Tryd.prog 17 #[.pointer (some ⟨g, 0, none⟩), .int .u8 (c.toNat : Int)] w (TP g W H B w ({ R with hd := R.hd + 1 }, (431 : Int))) := by
  have HI := Lib.hid (head_any w g s W H B c P hk hs.1 hs.2)
  rw [hR] at HI
  have e0 := P.at_.1
  obtain ⟨st, hst⟩ : ∃ st, st = s.st := ⟨_, rfl⟩
  rw [← hst] at e0 hs
  have q0 : (st == 0) = false := by simp; omega
  have q2 : decide ((2 : Int) ≤ st) = true := by simp; omega
  have q8 : decide (st ≤ 8) = true := by simp; omega
  clear P hk hst hs hR
  subst hv
  obtain ⟨h, hh_⟩ : ∃ h, h = R.hd := ⟨_, rfl⟩
  have HH := Lib.hid hh_
  rw [← hh_] at hd0 hd1
  have qg : decide ((2048 : Int) < h + 1) = true := by rw [hh_]; simpa using hg
  clear hg
  clear hh_
  go_enter Tryd.func17, Tryd.ntmps17
  go_wp2_with (first
    | (go_at_call 21; go_must (refine HI.out.mono ?_; rintro e w1 ⟨rfl, W1, H1, B1, P1, S1⟩; have HS1 := Lib.hid S1; have x2 := P1.at_.2.2.1; have y2 := P1.fz 2; rw [← HH.out] at x2; have P2 := Lib.hid (P1.set (s' := { R with hd := R.hd + 1 }) 2 (.int .i64 (R.hd + 1)) rfl rfl rfl rfl); rw [← HH.out] at P2; clear P1 S1)))
  go_ret
  rw [← HH.out]
  exact TP.intro rfl P2.out.1 (HS1.out.trans P2.out.2)
set_option maxRecDepth 100000 in
set_option maxHeartbeats 2000000 in
theorem t1aw (w : World) (g : Nat) (s : PS) (W H B : Value) (c : UInt8) (P : Par w g s W H B) (hk : Ok s) (hs : 2 ≤ s.st ∧ s.st ≤ 8) (R : PS) (v : Int) (hR : inHeadP s c = (R, v)) (hv : v = 0) (hg : ¬ 2048 < R.hd + 1) (h9 : R.st = 9) (hh : R.hs.length ≤ 1000000000) (hvv : ∀ p ∈ R.hs, p.2.length ≤ 140737488355328 ∧ ∀ b ∈ p.2, b.toNat < 128) (hd0 : 0 ≤ R.hd) (hd1 : R.hd ≤ 2048) :
    Calls Tryd.prog 17 #[.pointer (some ⟨g, 0, none⟩), .int .u8 (c.toNat : Int)] w (TP g W H B w (wholeP { R with hd := R.hd + 1 })) := by
  have HI := Lib.hid (head_any w g s W H B c P hk hs.1 hs.2)
  rw [hR] at HI
  have e0 := P.at_.1
  obtain ⟨st, hst⟩ : ∃ st, st = s.st := ⟨_, rfl⟩
  rw [← hst] at e0 hs
  have q0 : (st == 0) = false := by simp; omega
  have q2 : decide ((2 : Int) ≤ st) = true := by simp; omega
  have q8 : decide (st ≤ 8) = true := by simp; omega
  clear P hk hst hs hR
  subst hv
  obtain ⟨h, hh_⟩ : ∃ h, h = R.hd := ⟨_, rfl⟩
  have HH := Lib.hid hh_
  rw [← hh_] at hd0 hd1
  have qg : decide ((2048 : Int) < h + 1) = false := by rw [hh_]; simpa using hg
  clear hg
  have H9 := Lib.hid h9
  have HHS := Lib.hid hh
  have HVV := Lib.hid hvv
  clear h9 hh hvv
  clear hh_
  go_enter Tryd.func17, Tryd.ntmps17
  go_wp2_with (first
    | (go_at_call 21; go_must (refine HI.out.mono ?_; rintro e w1 ⟨rfl, W1, H1, B1, P1, S1⟩; have HS1 := Lib.hid S1; have x2 := P1.at_.2.2.1; have y2 := P1.fz 2; rw [← HH.out] at x2; have P2 := Lib.hid (P1.set (s' := { R with hd := R.hd + 1 }) 2 (.int .i64 (R.hd + 1)) rfl rfl rfl rfl); rw [← HH.out] at P2; have x0 := P2.out.1.at_.1; rw [show ({ R with hd := h + 1 } : PS).st = 9 from H9.out] at x0; clear P1 S1))
    | (go_at_call 22; go_must (refine (whole_any _ g { R with hd := h + 1 } W1 H1 B1 P2.out.1 HHS.out HVV.out).mono ?_; rintro e w2 ⟨rfl, W2, H2, B2, P3, S3⟩; have HP3 := Lib.hid P3; have HS3 := Lib.hid S3; clear P3 S3)))
  go_ret
  rw [← HH.out]
  exact TP.intro rfl HP3.out ((HS1.out.trans P2.out.2).trans HS3.out)
set_option maxRecDepth 100000 in
set_option maxHeartbeats 2000000 in
theorem t1an (w : World) (g : Nat) (s : PS) (W H B : Value) (c : UInt8) (P : Par w g s W H B) (hk : Ok s) (hs : 2 ≤ s.st ∧ s.st ≤ 8) (R : PS) (v : Int) (hR : inHeadP s c = (R, v)) (hv : v = 0) (hg : ¬ 2048 < R.hd + 1) (h9 : R.st ≠ 9) (hd0 : 0 ≤ R.hd) (hd1 : R.hd ≤ 2048) :
    Calls Tryd.prog 17 #[.pointer (some ⟨g, 0, none⟩), .int .u8 (c.toNat : Int)] w (TP g W H B w ({ R with hd := R.hd + 1 }, (0 : Int))) := by
  have HI := Lib.hid (head_any w g s W H B c P hk hs.1 hs.2)
  rw [hR] at HI
  have e0 := P.at_.1
  obtain ⟨st, hst⟩ : ∃ st, st = s.st := ⟨_, rfl⟩
  rw [← hst] at e0 hs
  have q0 : (st == 0) = false := by simp; omega
  have q2 : decide ((2 : Int) ≤ st) = true := by simp; omega
  have q8 : decide (st ≤ 8) = true := by simp; omega
  clear P hk hst hs hR
  subst hv
  obtain ⟨h, hh_⟩ : ∃ h, h = R.hd := ⟨_, rfl⟩
  have HH := Lib.hid hh_
  rw [← hh_] at hd0 hd1
  have qg : decide ((2048 : Int) < h + 1) = false := by rw [hh_]; simpa using hg
  clear hg
  obtain ⟨s9, hs9⟩ : ∃ x, x = R.st := ⟨_, rfl⟩
  have HS9 := Lib.hid hs9
  have q9 : (s9 == 9) = false := by rw [hs9]; simpa using h9
  clear h9 hs9
  clear hh_
  go_enter Tryd.func17, Tryd.ntmps17
  go_wp2_with (first
    | (go_at_call 21; go_must (refine HI.out.mono ?_; rintro e w1 ⟨rfl, W1, H1, B1, P1, S1⟩; have HS1 := Lib.hid S1; have x2 := P1.at_.2.2.1; have y2 := P1.fz 2; rw [← HH.out] at x2; have P2 := Lib.hid (P1.set (s' := { R with hd := R.hd + 1 }) 2 (.int .i64 (R.hd + 1)) rfl rfl rfl rfl); rw [← HH.out] at P2; have x0 := P2.out.1.at_.1; rw [show ({ R with hd := h + 1 } : PS).st = s9 from HS9.out.symm] at x0; clear P1 S1)))
  go_ret
  rw [← HH.out]
  exact TP.intro rfl P2.out.1 (HS1.out.trans P2.out.2)
set_option maxRecDepth 100000 in
set_option maxHeartbeats 2000000 in
theorem t1ze (w : World) (g : Nat) (s : PS) (W H B : Value) (c : UInt8) (P : Par w g s W H B) (hk : Ok s) (hst : s.st = 0) (hc : c ≠ 13) (R : PS) (v : Int) (hR : inHeadP { s with st := 2 } c = (R, v)) (hv : v ≠ 0) :
    Calls Tryd.prog 17 #[.pointer (some ⟨g, 0, none⟩), .int .u8 (c.toNat : Int)] w (TP g W H B w (R, v)) := by
  have N := P.set (s' := { s with st := 2 }) 0 (.int .i64 2) rfl rfl rfl rfl
  have hk2 : Ok { s with st := 2 } := by
    have h := hk.start c
    unfold start1 at h
    rw [if_pos ⟨hst, hc⟩] at h
    exact h
  have HI := Lib.hid (head_any _ g { s with st := 2 } W H B c N.1 hk2 (by simp) (by simp))
  rw [hR] at HI
  have HN := Lib.hid N.2
  have e0 := P.at_.1
  have f0 := P.fz 0
  rw [hst] at e0
  have qc : ((c.toNat : Int) != 13) = true := by
    simp only [bne_iff_ne, ne_eq]
    intro h
    exact hc (UInt8.toNat_inj.1 (by show c.toNat = 13; omega))
  clear P hk N hk2 hst hc hR
  have qv : (v != 0) = true := by simpa using hv
  clear hv
  go_enter Tryd.func17, Tryd.ntmps17
  go_wp2_with (first
    | (go_at_call 21; go_must (refine HI.out.mono ?_; rintro e w1 ⟨rfl, W1, H1, B1, P1, S1⟩; have HS1 := Lib.hid S1; have HP1 := Lib.hid P1; clear P1 S1)))
  go_ret
  exact TP.intro rfl HP1.out (HN.out.trans HS1.out)
set_option maxRecDepth 100000 in
set_option maxHeartbeats 2000000 in
theorem t1zl (w : World) (g : Nat) (s : PS) (W H B : Value) (c : UInt8) (P : Par w g s W H B) (hk : Ok s) (hst : s.st = 0) (hc : c ≠ 13) (R : PS) (v : Int) (hR : inHeadP { s with st := 2 } c = (R, v)) (hv : v = 0) (hg : 2048 < R.hd + 1) (hd0 : 0 ≤ R.hd) (hd1 : R.hd ≤ 2048) :
    Calls Tryd.prog 17 #[.pointer (some ⟨g, 0, none⟩), .int .u8 (c.toNat : Int)] w (TP g W H B w ({ R with hd := R.hd + 1 }, (431 : Int))) := by
  have N := P.set (s' := { s with st := 2 }) 0 (.int .i64 2) rfl rfl rfl rfl
  have hk2 : Ok { s with st := 2 } := by
    have h := hk.start c
    unfold start1 at h
    rw [if_pos ⟨hst, hc⟩] at h
    exact h
  have HI := Lib.hid (head_any _ g { s with st := 2 } W H B c N.1 hk2 (by simp) (by simp))
  rw [hR] at HI
  have HN := Lib.hid N.2
  have e0 := P.at_.1
  have f0 := P.fz 0
  rw [hst] at e0
  have qc : ((c.toNat : Int) != 13) = true := by
    simp only [bne_iff_ne, ne_eq]
    intro h
    exact hc (UInt8.toNat_inj.1 (by show c.toNat = 13; omega))
  clear P hk N hk2 hst hc hR
  subst hv
  obtain ⟨h, hh_⟩ : ∃ h, h = R.hd := ⟨_, rfl⟩
  have HH := Lib.hid hh_
  rw [← hh_] at hd0 hd1
  have qg : decide ((2048 : Int) < h + 1) = true := by rw [hh_]; simpa using hg
  clear hg
  clear hh_
  go_enter Tryd.func17, Tryd.ntmps17
  go_wp2_with (first
    | (go_at_call 21; go_must (refine HI.out.mono ?_; rintro e w1 ⟨rfl, W1, H1, B1, P1, S1⟩; have HS1 := Lib.hid S1; have x2 := P1.at_.2.2.1; have y2 := P1.fz 2; rw [← HH.out] at x2; have P2 := Lib.hid (P1.set (s' := { R with hd := R.hd + 1 }) 2 (.int .i64 (R.hd + 1)) rfl rfl rfl rfl); rw [← HH.out] at P2; clear P1 S1)))
  go_ret
  rw [← HH.out]
  exact TP.intro rfl P2.out.1 ((HN.out.trans HS1.out).trans P2.out.2)
set_option maxRecDepth 100000 in
set_option maxHeartbeats 2000000 in
theorem t1zw (w : World) (g : Nat) (s : PS) (W H B : Value) (c : UInt8) (P : Par w g s W H B) (hk : Ok s) (hst : s.st = 0) (hc : c ≠ 13) (R : PS) (v : Int) (hR : inHeadP { s with st := 2 } c = (R, v)) (hv : v = 0) (hg : ¬ 2048 < R.hd + 1) (h9 : R.st = 9) (hh : R.hs.length ≤ 1000000000) (hvv : ∀ p ∈ R.hs, p.2.length ≤ 140737488355328 ∧ ∀ b ∈ p.2, b.toNat < 128) (hd0 : 0 ≤ R.hd) (hd1 : R.hd ≤ 2048) :
    Calls Tryd.prog 17 #[.pointer (some ⟨g, 0, none⟩), .int .u8 (c.toNat : Int)] w (TP g W H B w (wholeP { R with hd := R.hd + 1 })) := by
  have N := P.set (s' := { s with st := 2 }) 0 (.int .i64 2) rfl rfl rfl rfl
  have hk2 : Ok { s with st := 2 } := by
    have h := hk.start c
    unfold start1 at h
    rw [if_pos ⟨hst, hc⟩] at h
    exact h
  have HI := Lib.hid (head_any _ g { s with st := 2 } W H B c N.1 hk2 (by simp) (by simp))
  rw [hR] at HI
  have HN := Lib.hid N.2
  have e0 := P.at_.1
  have f0 := P.fz 0
  rw [hst] at e0
  have qc : ((c.toNat : Int) != 13) = true := by
    simp only [bne_iff_ne, ne_eq]
    intro h
    exact hc (UInt8.toNat_inj.1 (by show c.toNat = 13; omega))
  clear P hk N hk2 hst hc hR
  subst hv
  obtain ⟨h, hh_⟩ : ∃ h, h = R.hd := ⟨_, rfl⟩
  have HH := Lib.hid hh_
  rw [← hh_] at hd0 hd1
  have qg : decide ((2048 : Int) < h + 1) = false := by rw [hh_]; simpa using hg
  clear hg
  have H9 := Lib.hid h9
  have HHS := Lib.hid hh
  have HVV := Lib.hid hvv
  clear h9 hh hvv
  clear hh_
  go_enter Tryd.func17, Tryd.ntmps17
  go_wp2_with (first
    | (go_at_call 21; go_must (refine HI.out.mono ?_; rintro e w1 ⟨rfl, W1, H1, B1, P1, S1⟩; have HS1 := Lib.hid S1; have x2 := P1.at_.2.2.1; have y2 := P1.fz 2; rw [← HH.out] at x2; have P2 := Lib.hid (P1.set (s' := { R with hd := R.hd + 1 }) 2 (.int .i64 (R.hd + 1)) rfl rfl rfl rfl); rw [← HH.out] at P2; have x0 := P2.out.1.at_.1; rw [show ({ R with hd := h + 1 } : PS).st = 9 from H9.out] at x0; clear P1 S1))
    | (go_at_call 22; go_must (refine (whole_any _ g { R with hd := h + 1 } W1 H1 B1 P2.out.1 HHS.out HVV.out).mono ?_; rintro e w2 ⟨rfl, W2, H2, B2, P3, S3⟩; have HP3 := Lib.hid P3; have HS3 := Lib.hid S3; clear P3 S3)))
  go_ret
  rw [← HH.out]
  exact TP.intro rfl HP3.out (((HN.out.trans HS1.out).trans P2.out.2).trans HS3.out)
set_option maxRecDepth 100000 in
set_option maxHeartbeats 2000000 in
theorem t1zn (w : World) (g : Nat) (s : PS) (W H B : Value) (c : UInt8) (P : Par w g s W H B) (hk : Ok s) (hst : s.st = 0) (hc : c ≠ 13) (R : PS) (v : Int) (hR : inHeadP { s with st := 2 } c = (R, v)) (hv : v = 0) (hg : ¬ 2048 < R.hd + 1) (h9 : R.st ≠ 9) (hd0 : 0 ≤ R.hd) (hd1 : R.hd ≤ 2048) :
    Calls Tryd.prog 17 #[.pointer (some ⟨g, 0, none⟩), .int .u8 (c.toNat : Int)] w (TP g W H B w ({ R with hd := R.hd + 1 }, (0 : Int))) := by
  have N := P.set (s' := { s with st := 2 }) 0 (.int .i64 2) rfl rfl rfl rfl
  have hk2 : Ok { s with st := 2 } := by
    have h := hk.start c
    unfold start1 at h
    rw [if_pos ⟨hst, hc⟩] at h
    exact h
  have HI := Lib.hid (head_any _ g { s with st := 2 } W H B c N.1 hk2 (by simp) (by simp))
  rw [hR] at HI
  have HN := Lib.hid N.2
  have e0 := P.at_.1
  have f0 := P.fz 0
  rw [hst] at e0
  have qc : ((c.toNat : Int) != 13) = true := by
    simp only [bne_iff_ne, ne_eq]
    intro h
    exact hc (UInt8.toNat_inj.1 (by show c.toNat = 13; omega))
  clear P hk N hk2 hst hc hR
  subst hv
  obtain ⟨h, hh_⟩ : ∃ h, h = R.hd := ⟨_, rfl⟩
  have HH := Lib.hid hh_
  rw [← hh_] at hd0 hd1
  have qg : decide ((2048 : Int) < h + 1) = false := by rw [hh_]; simpa using hg
  clear hg
  obtain ⟨s9, hs9⟩ : ∃ x, x = R.st := ⟨_, rfl⟩
  have HS9 := Lib.hid hs9
  have q9 : (s9 == 9) = false := by rw [hs9]; simpa using h9
  clear h9 hs9
  clear hh_
  go_enter Tryd.func17, Tryd.ntmps17
  go_wp2_with (first
    | (go_at_call 21; go_must (refine HI.out.mono ?_; rintro e w1 ⟨rfl, W1, H1, B1, P1, S1⟩; have HS1 := Lib.hid S1; have x2 := P1.at_.2.2.1; have y2 := P1.fz 2; rw [← HH.out] at x2; have P2 := Lib.hid (P1.set (s' := { R with hd := R.hd + 1 }) 2 (.int .i64 (R.hd + 1)) rfl rfl rfl rfl); rw [← HH.out] at P2; have x0 := P2.out.1.at_.1; rw [show ({ R with hd := h + 1 } : PS).st = s9 from HS9.out.symm] at x0; clear P1 S1)))
  go_ret
  rw [← HH.out]
  exact TP.intro rfl P2.out.1 ((HN.out.trans HS1.out).trans P2.out.2)
theorem hk_vals {s R : PS} {c : UInt8} (hk : Ok s) (h2 : 2 ≤ s.st) (h8 : s.st ≤ 8) (hR : inHeadP s c = (R, 0)) : 0 ≤ R.hd ∧ R.hd ≤ 2048 ∧ R.hs.length ≤ 1000000000 ∧ ∀ p ∈ R.hs, p.2.length ≤ 140737488355328 ∧ ∀ b ∈ p.2, b.toNat < 128 := by
  have k := hk_head hk h2 h8 (by rw [hR])
  rw [hR] at k
  have h1 := k.hd
  have h3 := hk.hd0
  have h4 := hk.hd1
  have h5 := k.hl
  have h6 := hk.hl
  exact ⟨by simp only at h1; omega, by simp only at h1; omega, by simp only at h5; omega, fun p hp => ⟨Nat.le_trans (k.hv p hp).1 (by decide), (k.hv p hp).2⟩⟩
/-- One byte. -/
theorem take1_any (w : World) (g : Nat) (s : PS) (W H B : Value) (c : UInt8) (P : Par w g s W H B) (hk : Ok s) :
    Calls Tryd.prog 17 #[.pointer (some ⟨g, 0, none⟩), .int .u8 (c.toNat : Int)] w (TP g W H B w (take1P s c)) := by
  unfold take1P
  rcases start1_cases s c with ⟨h1, h2, h3⟩ | ⟨h1, h3⟩
  · have hk2 := hk.start c
    rw [h3] at hk2 ⊢
    rw [if_pos ⟨by simp, by simp⟩]
    obtain ⟨R, v, hR⟩ : ∃ R v, inHeadP { s with st := 2 } c = (R, v) := ⟨_, _, rfl⟩
    rw [hR]
    unfold head1
    by_cases hv : v = 0
    · subst hv
      obtain ⟨d0, d1, d2, d3⟩ := hk_vals hk2 (by simp) (by simp) hR
      rw [if_neg (by simp)]
      by_cases hg : 2048 < R.hd + 1
      · rw [if_pos hg]; exact t1zl w g s W H B c P hk h1 h2 R 0 hR rfl hg d0 d1
      · rw [if_neg hg]
        by_cases h9 : R.st = 9
        · rw [if_pos h9]; exact t1zw w g s W H B c P hk h1 h2 R 0 hR rfl hg h9 d2 d3 d0 d1
        · rw [if_neg h9]; exact t1zn w g s W H B c P hk h1 h2 R 0 hR rfl hg h9 d0 d1
    · rw [if_pos hv]; exact t1ze w g s W H B c P hk h1 h2 R v hR hv
  · rw [h3]
    by_cases hs : 2 ≤ s.st ∧ s.st ≤ 8
    · rw [if_pos hs]
      obtain ⟨R, v, hR⟩ : ∃ R v, inHeadP s c = (R, v) := ⟨_, _, rfl⟩
      rw [hR]
      unfold head1
      by_cases hv : v = 0
      · subst hv
        obtain ⟨d0, d1, d2, d3⟩ := hk_vals hk hs.1 hs.2 hR
        rw [if_neg (by simp)]
        by_cases hg : 2048 < R.hd + 1
        · rw [if_pos hg]; exact t1al w g s W H B c P hk hs R 0 hR rfl hg d0 d1
        · rw [if_neg hg]
          by_cases h9 : R.st = 9
          · rw [if_pos h9]; exact t1aw w g s W H B c P hk hs R 0 hR rfl hg h9 d2 d3 d0 d1
          · rw [if_neg h9]; exact t1an w g s W H B c P hk hs R 0 hR rfl hg h9 d0 d1
      · rw [if_pos hv]; exact t1ae w g s W H B c P hk hs R v hR hv
    · rw [if_neg hs]
      exact take1b w g s W H B c P hk h1 hs
end Go.Proofs.YtjichadkonlfpaaDoor
