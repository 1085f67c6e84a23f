/- inHead. Printed by wip/genH3.py. No conditions. -/
import Derived.Test.YtjichadkonlfpaaDoorH3c
namespace Go.Proofs.YtjichadkonlfpaaDoor
open Go.RowKit
set_option maxRecDepth 100000 in
set_option maxHeartbeats 1000000 in
theorem ih7b0 (w : World) (g : Nat) (s : PS) (W H B : Value) (c : UInt8) (P : Par w g s W H B) (hl : s.wd.length + 1 ≤ 140737488355328) (hst : s.st = 7) (h0 : ((c.toNat : Int) != 13) = true) (h1 : decide ((32 : Int) ≤ (c.toNat : Int)) = true) (h2 : decide ((c.toNat : Int) < 127) = true) : Calls Tryd.prog 21 #[.pointer (some ⟨g, 0, none⟩), .int .u8 (c.toNat : Int)] w (PPost g W H B w (takeP s c true).1 (.int .i64 (takeP s c true).2)) := by
  have q0 : ((c.toNat : Int) == 13) = false := by rw [bne, Bool.not_eq_eq_eq_not] at h0; simpa using h0
  have HP := Lib.hid P
  have HL := Lib.hid hl
  have HST := Lib.hid hst
  have e_ := P.at_
  rw [hst] at e_
  obtain ⟨e0, _, _, e3, _, _, e6, _, _, e9, _⟩ := e_
  obtain ⟨n, hn⟩ : ∃ n, n = s.wd.length := ⟨_, rfl⟩
  obtain ⟨A, cW, hW, _, _⟩ := own8_form' (n := n) P.wd hn.symm
  have HN := Lib.hid hn
  clear hn
  subst hW
  clear P hl hst
  go_enter Tryd.func21, Tryd.ntmps21
  go_wp2_with (first
    | (go_at_call 26; go_must (refine (take_any _ g s _ H B c _ HP.out HL.out).mono ?_; rintro e w1 ⟨rfl, W1, H1, B1, P1, S1⟩; have HP1 := Lib.hid P1; have HS1 := Lib.hid S1; clear P1 S1)))
  go_ret
  exact ⟨rfl, W1, H1, B1, HP1.out, HS1.out⟩
set_option maxRecDepth 100000 in
set_option maxHeartbeats 1000000 in
theorem ih7b1 (w : World) (g : Nat) (s : PS) (W H B : Value) (c : UInt8) (P : Par w g s W H B) (hl : s.wd.length + 1 ≤ 140737488355328) (hst : s.st = 7) (h0 : ((c.toNat : Int) != 13) = true) (h1 : decide ((32 : Int) ≤ (c.toNat : Int)) = true) (h2 : decide ((c.toNat : Int) < 127) = false) (h3 : ((c.toNat : Int) == 9) = true) : Calls Tryd.prog 21 #[.pointer (some ⟨g, 0, none⟩), .int .u8 (c.toNat : Int)] w (PPost g W H B w (takeP s c true).1 (.int .i64 (takeP s c true).2)) := by
  have q0 : ((c.toNat : Int) == 13) = false := by rw [bne, Bool.not_eq_eq_eq_not] at h0; simpa using h0
  have q3 : ((c.toNat : Int) != 9) = false := by rw [bne, h3]; rfl
  have HP := Lib.hid P
  have HL := Lib.hid hl
  have HST := Lib.hid hst
  have e_ := P.at_
  rw [hst] at e_
  obtain ⟨e0, _, _, e3, _, _, e6, _, _, e9, _⟩ := e_
  obtain ⟨n, hn⟩ : ∃ n, n = s.wd.length := ⟨_, rfl⟩
  obtain ⟨A, cW, hW, _, _⟩ := own8_form' (n := n) P.wd hn.symm
  have HN := Lib.hid hn
  clear hn
  subst hW
  clear P hl hst
  go_enter Tryd.func21, Tryd.ntmps21
  go_wp2_with (first
    | (go_at_call 26; go_must (refine (take_any _ g s _ H B c _ HP.out HL.out).mono ?_; rintro e w1 ⟨rfl, W1, H1, B1, P1, S1⟩; have HP1 := Lib.hid P1; have HS1 := Lib.hid S1; clear P1 S1)))
  go_ret
  exact ⟨rfl, W1, H1, B1, HP1.out, HS1.out⟩
set_option maxRecDepth 100000 in
set_option maxHeartbeats 1000000 in
theorem ih7b2 (w : World) (g : Nat) (s : PS) (W H B : Value) (c : UInt8) (P : Par w g s W H B) (hl : s.wd.length + 1 ≤ 140737488355328) (hst : s.st = 7) (h0 : ((c.toNat : Int) != 13) = true) (h1 : decide ((32 : Int) ≤ (c.toNat : Int)) = true) (h2 : decide ((c.toNat : Int) < 127) = false) (h3 : ((c.toNat : Int) == 9) = false) : Calls Tryd.prog 21 #[.pointer (some ⟨g, 0, none⟩), .int .u8 (c.toNat : Int)] w (PPost g W H B w (takeP s c false).1 (.int .i64 (takeP s c false).2)) := by
  have q0 : ((c.toNat : Int) == 13) = false := by rw [bne, Bool.not_eq_eq_eq_not] at h0; simpa using h0
  have q3 : ((c.toNat : Int) != 9) = true := by rw [bne, h3]; rfl
  have HP := Lib.hid P
  have HL := Lib.hid hl
  have HST := Lib.hid hst
  have e_ := P.at_
  rw [hst] at e_
  obtain ⟨e0, _, _, e3, _, _, e6, _, _, e9, _⟩ := e_
  obtain ⟨n, hn⟩ : ∃ n, n = s.wd.length := ⟨_, rfl⟩
  obtain ⟨A, cW, hW, _, _⟩ := own8_form' (n := n) P.wd hn.symm
  have HN := Lib.hid hn
  clear hn
  subst hW
  clear P hl hst
  go_enter Tryd.func21, Tryd.ntmps21
  go_wp2_with (first
    | (go_at_call 26; go_must (refine (take_any _ g s _ H B c _ HP.out HL.out).mono ?_; rintro e w1 ⟨rfl, W1, H1, B1, P1, S1⟩; have HP1 := Lib.hid P1; have HS1 := Lib.hid S1; clear P1 S1)))
  go_ret
  exact ⟨rfl, W1, H1, B1, HP1.out, HS1.out⟩
set_option maxRecDepth 100000 in
set_option maxHeartbeats 1000000 in
theorem ih7b3 (w : World) (g : Nat) (s : PS) (W H B : Value) (c : UInt8) (P : Par w g s W H B) (hl : s.wd.length + 1 ≤ 140737488355328) (hst : s.st = 7) (h0 : ((c.toNat : Int) != 13) = true) (h1 : decide ((32 : Int) ≤ (c.toNat : Int)) = false) (h2 : ((c.toNat : Int) == 9) = true) : Calls Tryd.prog 21 #[.pointer (some ⟨g, 0, none⟩), .int .u8 (c.toNat : Int)] w (PPost g W H B w (takeP s c true).1 (.int .i64 (takeP s c true).2)) := by
  have q0 : ((c.toNat : Int) == 13) = false := by rw [bne, Bool.not_eq_eq_eq_not] at h0; simpa using h0
  have q2 : ((c.toNat : Int) != 9) = false := by rw [bne, h2]; rfl
  have HP := Lib.hid P
  have HL := Lib.hid hl
  have HST := Lib.hid hst
  have e_ := P.at_
  rw [hst] at e_
  obtain ⟨e0, _, _, e3, _, _, e6, _, _, e9, _⟩ := e_
  obtain ⟨n, hn⟩ : ∃ n, n = s.wd.length := ⟨_, rfl⟩
  obtain ⟨A, cW, hW, _, _⟩ := own8_form' (n := n) P.wd hn.symm
  have HN := Lib.hid hn
  clear hn
  subst hW
  clear P hl hst
  go_enter Tryd.func21, Tryd.ntmps21
  go_wp2_with (first
    | (go_at_call 26; go_must (refine (take_any _ g s _ H B c _ HP.out HL.out).mono ?_; rintro e w1 ⟨rfl, W1, H1, B1, P1, S1⟩; have HP1 := Lib.hid P1; have HS1 := Lib.hid S1; clear P1 S1)))
  go_ret
  exact ⟨rfl, W1, H1, B1, HP1.out, HS1.out⟩
set_option maxRecDepth 100000 in
set_option maxHeartbeats 1000000 in
theorem ih7b4 (w : World) (g : Nat) (s : PS) (W H B : Value) (c : UInt8) (P : Par w g s W H B) (hl : s.wd.length + 1 ≤ 140737488355328) (hst : s.st = 7) (h0 : ((c.toNat : Int) != 13) = true) (h1 : decide ((32 : Int) ≤ (c.toNat : Int)) = false) (h2 : ((c.toNat : Int) == 9) = false) : Calls Tryd.prog 21 #[.pointer (some ⟨g, 0, none⟩), .int .u8 (c.toNat : Int)] w (PPost g W H B w (takeP s c false).1 (.int .i64 (takeP s c false).2)) := by
  have q0 : ((c.toNat : Int) == 13) = false := by rw [bne, Bool.not_eq_eq_eq_not] at h0; simpa using h0
  have q2 : ((c.toNat : Int) != 9) = true := by rw [bne, h2]; rfl
  have HP := Lib.hid P
  have HL := Lib.hid hl
  have HST := Lib.hid hst
  have e_ := P.at_
  rw [hst] at e_
  obtain ⟨e0, _, _, e3, _, _, e6, _, _, e9, _⟩ := e_
  obtain ⟨n, hn⟩ : ∃ n, n = s.wd.length := ⟨_, rfl⟩
  obtain ⟨A, cW, hW, _, _⟩ := own8_form' (n := n) P.wd hn.symm
  have HN := Lib.hid hn
  clear hn
  subst hW
  clear P hl hst
  go_enter Tryd.func21, Tryd.ntmps21
  go_wp2_with (first
    | (go_at_call 26; go_must (refine (take_any _ g s _ H B c _ HP.out HL.out).mono ?_; rintro e w1 ⟨rfl, W1, H1, B1, P1, S1⟩; have HP1 := Lib.hid P1; have HS1 := Lib.hid S1; clear P1 S1)))
  go_ret
  exact ⟨rfl, W1, H1, B1, HP1.out, HS1.out⟩
set_option maxRecDepth 100000 in
set_option maxHeartbeats 2000000 in
theorem ih7a (w : World) (g : Nat) (s : PS) (W H B : Value) (c : UInt8) (P : Par w g s W H B) (hl : s.wd.length + 1 ≤ 140737488355328) (hst : s.st = 7) (h0 : ((c.toNat : Int) != 13) = false) (init : List (List UInt8 × List UInt8)) (p : List UInt8 × List UInt8) (hhs : s.hs = init ++ [p]) (hh : s.hs.length ≤ 1000000000) :
    Calls Tryd.prog 21 #[.pointer (some ⟨g, 0, none⟩), .int .u8 (c.toNat : Int)] w (PPost g W H B w { s with hs := setLast s.hs (Lib.trimS s.wd [32, 9]), wd := [], st := 5 } (.int .i64 0)) := by
  have q0 : ((c.toNat : Int) == 13) = true := by rw [bne, Bool.not_eq_eq_eq_not] at h0; simpa using h0
  obtain ⟨k, hk⟩ : ∃ k, k = init.length := ⟨_, rfl⟩
  have hlen : s.hs.length = k + 1 := by rw [hhs, hk]; simp
  have hk1 : k + 1 ≤ 1000000000 := by omega
  have HP := Lib.hid P
  have HL := Lib.hid hl
  have e_ := P.at_
  rw [hst] at e_
  obtain ⟨e0, _, _, e3, _, _, e6, _, _, _, _⟩ := e_
  obtain ⟨hl0, h2 | ⟨hb, cap, cur, hH, _⟩⟩ := P.hs
  · have := h2.2; omega
  rw [hlen] at hH
  subst hH
  have HLEN := Lib.hid hlen
  have HHS := Lib.hid hhs
  have HK := Lib.hid hk
  have kI : (0 : Int) ≤ (k : Int) := by omega
  have kJ : (k : Int) < (k : Int) + 1 := by omega
  clear P hl hst hh hl0 hlen hhs hk
  go_enter Tryd.func21, Tryd.ntmps21
  go_wp2
  refine AnyCZ.start [17] (fun w' => w'.cell? ⟨g, 6, none⟩ = some (.slice (some ⟨hb, 0, none⟩) (k + 1) cap)) (by kernel_rfl) rfl ?_
  intro w1 hb1
  have P1 := Lib.hid (HP.out.below hb1)
  have S1 : Hid (PStep g W (.slice (some ⟨hb, 0, none⟩) (k + 1) cap) B w W (.slice (some ⟨hb, 0, none⟩) (k + 1) cap) B w1) := PStep.of_below hb1
  clear hb1 e0 e3 e6
  apply AnyCZ.take (i := 0) rfl (by kernel_rfl) (by kernel_rfl) rfl
  · intro w' hC K hK
    go_wp2
    exact hK
  · rfl
  apply AnyCZ.take (i := 1) rfl (by kernel_rfl) (by kernel_rfl) rfl
  · intro w' hC K hK
    go_wp2
    exact hK
  · rfl
  apply AnyCZ.take (i := 2) rfl (by kernel_rfl) (by kernel_rfl) rfl
  · intro w' hC K hK
    go_wp2
    exact hK
  · rfl
  apply AnyCZ.take (i := 3) rfl (by kernel_rfl) (by kernel_rfl) rfl
  · intro w' hC K hK
    go_wp2
    exact hK
  · rfl
  apply AnyCZ.take (i := 4) rfl (by kernel_rfl) (by kernel_rfl) rfl
  · intro w' hC K hK
    have cc := hC
    go_wp2
    exact hK
  · rfl
  apply AnyCZ.take (i := 5) rfl (by kernel_rfl) (by kernel_rfl) rfl
  · intro w' hC K hK
    go_wp2
    exact hK
  · rfl
  apply AnyCZ.take (i := 6) rfl (by kernel_rfl) (by kernel_rfl) rfl
  · intro w' hC K hK
    go_wp2
    exact hK
  · rfl
  apply AnyCZ.take (i := 7) rfl (by kernel_rfl) (by kernel_rfl) rfl
  · intro w' hC K hK
    go_wp2
    exact hK
  · rfl
  apply AnyCZ.take (i := 8) rfl (by kernel_rfl) (by kernel_rfl) rfl
  · intro w' hC K hK
    go_wp2
    exact hK
  · rfl
  apply AnyCZ.take (i := 9) rfl (by kernel_rfl) (by kernel_rfl) rfl
  · intro w' hC K hK
    have cc := hC
    go_wp2
    exact hK
  · rfl
  apply AnyCZ.take (i := 10) rfl (by kernel_rfl) (by kernel_rfl) rfl
  · intro w' hC K hK
    go_wp2
    exact hK
  · rfl
  apply AnyCZ.take (i := 11) rfl (by kernel_rfl) (by kernel_rfl) rfl
  · intro w' hC K hK
    go_wp2
    exact hK
  · rfl
  apply AnyCZ.take (i := 12) rfl (by kernel_rfl) (by kernel_rfl) rfl
  · intro w' hC K hK
    go_wp2
    exact hK
  · rfl
  apply AnyCZ.solo (i := 13) rfl (by kernel_rfl) P1.out.at_.2.2.2.2.2.2.1
  go_wp2_with (go_at_call 25; go_must (refine (done_st w1 g s _ _ B 5 P1.out).mono ?_; rintro e w2 ⟨rfl, P2, S2⟩; have HP2 := Lib.hid P2; have HS2 := Lib.hid (S1.out.trans S2); clear P2 S2))
  refine ⟨rfl, ?_⟩
  apply AnyCZ.solo (i := 14) rfl (by kernel_rfl) HP2.out.at_.2.2.2.2.2.2.1
  go_wp2_with (go_at_call 30; go_must (refine (trim_any s.wd ⟨#[32, 9]⟩ (by have h_ := HL.out; omega) (by decide) (Go.Proofs.ascii_of_all (by decide)) w2).mono ?_; rintro e w3 ⟨rfl, hb3⟩; have HP3 := Lib.hid (HP2.out.below hb3); have HS3 := Lib.hid (HS2.out.trans (PStep.of_below hb3)); clear hb3))
  refine ⟨rfl, ?_⟩
  apply AnyCZ.take (i := 15) rfl (by kernel_rfl) (by kernel_rfl) rfl
  · intro w' hC K hK
    go_wp2
    exact hK
  · rfl
  apply AnyCZ.take (i := 16) rfl (by kernel_rfl) (by kernel_rfl) rfl
  · intro w' hC K hK
    go_wp2
    exact hK
  · rfl
  have Q := HP3.out.setH (j := k * 2 + 1) (u := .string ⟨(Lib.trimS s.wd [32, 9]).toArray⟩) (l := setLast s.hs (Lib.trimS s.wd [32, 9])) HLEN.out (by rw [HHS.out, setLast_snoc, HK.out]; simp) (by show (hsV s.hs).set _ _ = _; rw [HHS.out, setLast_snoc, HK.out]; exact hsV_last _ _ _)
  have cA := World.ownsRow.cellAt (by have h_ := HP3.out.hs; rw [show (doneP s 5).hs.length = k + 1 from HLEN.out] at h_; exact h_) (k * 2 + 1) (by omega)
  have fA := World.ownsRow.frozenAt (by have h_ := HP3.out.hs; rw [show (doneP s 5).hs.length = k + 1 from HLEN.out] at h_; exact h_) (k * 2 + 1)
  rw [show hsV (doneP s 5).hs = hsV init ++ [.string ⟨p.1.toArray⟩, .string ⟨p.2.toArray⟩] from by show hsV s.hs = _; rw [HHS.out, hsV_snoc], List.getElem?_append_right (by rw [hsV_len, HK.out]; omega), hsV_len, ← HK.out, show k * 2 + 1 - k * 2 = 1 from by omega] at cA
  have cB : w3.cell? ⟨hb, k * 2 + 1, none⟩ = some (.string ⟨p.2.toArray⟩) := cA
  have HQ := Lib.hid Q
  clear Q cA
  apply AnyCZ.soloW (i := 17) rfl (by kernel_rfl) HP3.out.at_.2.2.2.2.2.2.1
  go_wp2
  refine ⟨rfl, ?_⟩
  refine AnyW.done (by kernel_rfl) ?_
  go_wp2
  go_ret
  exact ⟨rfl, _, _, _, HQ.out.1, HS3.out.trans HQ.out.2⟩
theorem head7_any (w : World) (g : Nat) (s : PS) (W H B : Value) (c : UInt8) (P : Par w g s W H B) (hl : s.wd.length + 1 ≤ 140737488355328) (hst : s.st = 7) (hne : s.hs ≠ []) (hh : s.hs.length ≤ 1000000000) : Calls Tryd.prog 21 #[.pointer (some ⟨g, 0, none⟩), .int .u8 (c.toNat : Int)] w (PPost g W H B w (head7 s c).1 (.int .i64 (head7 s c).2)) := by
  unfold head7
  cases h1 : ((c.toNat : Int) != 13)
  · obtain ⟨init, p, hhs⟩ : ∃ init p, s.hs = init ++ [p] := ⟨s.hs.dropLast, s.hs.getLast hne, (List.dropLast_concat_getLast hne).symm⟩
    exact ih7a w g s W H B c P hl hst h1 init p hhs hh
  · cases h2 : decide ((32 : Int) ≤ (c.toNat : Int))
    · cases h4 : ((c.toNat : Int) == 9)
      · exact ih7b4 w g s W H B c P hl hst h1 h2 h4
      · exact ih7b3 w g s W H B c P hl hst h1 h2 h4
    · cases h3 : decide ((c.toNat : Int) < 127)
      · cases h4 : ((c.toNat : Int) == 9)
        · exact ih7b2 w g s W H B c P hl hst h1 h2 h3 h4
        · exact ih7b1 w g s W H B c P hl hst h1 h2 h3 h4
      · exact ih7b0 w g s W H B c P hl hst h1 h2 h3
end Go.Proofs.YtjichadkonlfpaaDoor
