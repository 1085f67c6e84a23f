/- The texts H8b of this work, merged by wip/merge.py. No conditions. -/
import Derived.Test.YtjichadkonlfpaaDoorQH8x
namespace Go.Proofs.YtjichadkonlfpaaDoor
open Go.RowKit
set_option maxRecDepth 100000 in
set_option maxHeartbeats 1000000 in
theorem ib9z (w : World) (g : Nat) (s : PS) (W H B : Value) (c : UInt8) (P : Par w g s W H B) (hb : s.bd.length + 1 ≤ 140737488355328) (l0 : -1 ≤ s.lf) (l1 : s.lf ≤ 1000000000) (hst : s.st = 9) (h0 : (s.lf - 1 == 0) = true) : Calls Tryd.prog 23 #[.pointer (some ⟨g, 0, none⟩), .int .u8 (c.toNat : Int)] w (PPost g W H B w (({ s with bd := s.bd ++ [c], lf := s.lf - 1 }, (0 : Int))).1 (.int .i64 (({ s with bd := s.bd ++ [c], lf := s.lf - 1 }, (0 : Int))).2)) := by
  have q0 : (s.lf - 1 != 0) = false := by rw [bne, h0]; rfl
  have HP := Lib.hid P
  have HB := Lib.hid hb
  have HST := Lib.hid hst
  have e_ := P.at_
  rw [hst] at e_
  obtain ⟨e0, _, _, _, _, _, _, e7, _, _, e10⟩ := e_
  obtain ⟨m, hm⟩ : ∃ m, m = s.bd.length := ⟨_, rfl⟩
  obtain ⟨A, cB, hB, _, _⟩ := own8_form' (n := m) P.bd hm.symm
  have HM := Lib.hid hm
  have bm : (m : Int) + 1 ≤ 140737488355328 := by omega
  have bm0 : (0 : Int) ≤ (m : Int) := by omega
  obtain ⟨lf, hlf⟩ : ∃ lf, lf = s.lf := ⟨_, rfl⟩
  rw [← hlf] at e10 l0 l1
  have HLF := Lib.hid hlf
  have z0 : lf = 1 := by rw [hlf]; simp at h0; omega
  subst z0
  subst hB
  have B0 : Hid (Below w.heap.size w (w.alloc (.cells #[.int .u8 (c.toNat : Int)] 5))) := (Below.refl _ _).alloc (Nat.le_refl _) _
  have Q0 : Hid ((w.alloc (.cells #[.int .u8 (c.toNat : Int)] 5)).heap[w.heap.size]? = some (.cells #[.int .u8 (c.toNat : Int)] 5 (0, 0))) := heap_alloc_new _ _
  clear P hb hst hm hlf h0 q0
  go_enter Tryd.func23, Tryd.ntmps23
  go_wp2_with (at_builtin; go_must (refine app8 (l := s.bd) (base := 0) (news := [c]) rfl rfl rfl rfl (HP.out.below B0.out).bd (reads_block Q0.out rfl) (by have h_ := HB.out; simpa using h_) (Nat.zero_le _) ?_; intro v2 w2 ho hg hx; obtain ⟨A2, c2, hv2, _, _⟩ := own8_form' (n := m + 1) ho (by rw [HM.out]; simp); subst hv2; obtain ⟨e7', f7, P3, S3⟩ := HP.out.appB B0.out ho hg hx; have a_ := P3.at_; obtain ⟨a0, _, _, _, _, _, _, _, _, _, a10⟩ := a_; rw [show ({ s with bd := s.bd ++ [c] } : PS).st = _ from HST.out] at a0; rw [show ({ s with bd := s.bd ++ [c] } : PS).lf = _ from HLF.out.symm] at a10; have f10 := P3.fz 10; have S5 := P3.set (s' := { s with bd := s.bd ++ [c], lf := 0 }) 10 (.int .i64 (0)) rfl rfl rfl rfl; have b10 := S5.1.at_.2.2.2.2.2.2.2.2.2.2; have S7 := Lib.hid (And.intro S5.1 (S3.trans S5.2)); have a0 := S5.1.at_; obtain ⟨a0, _⟩ := a0; rw [show ({ s with bd := s.bd ++ [c], lf := 0 } : PS).st = _ from HST.out] at a0; clear P3 S3 S5 ho hg hx))
  go_ret
  exact ⟨rfl, W, H, _, by rw [show s.lf - 1 = 0 from by have h_ := HLF.out; omega]; exact S7.out.1, S7.out.2⟩
set_option maxRecDepth 100000 in
set_option maxHeartbeats 1000000 in
theorem ib9n (w : World) (g : Nat) (s : PS) (W H B : Value) (c : UInt8) (P : Par w g s W H B) (hb : s.bd.length + 1 ≤ 140737488355328) (l0 : -1 ≤ s.lf) (l1 : s.lf ≤ 1000000000) (hst : s.st = 9) (h0 : (s.lf - 1 == 0) = false) : Calls Tryd.prog 23 #[.pointer (some ⟨g, 0, none⟩), .int .u8 (c.toNat : Int)] w (PPost g W H B w (({ s with bd := s.bd ++ [c], lf := s.lf - 1 }, (0 : Int))).1 (.int .i64 (({ s with bd := s.bd ++ [c], lf := s.lf - 1 }, (0 : Int))).2)) := by
  have q0 : (s.lf - 1 != 0) = true := by rw [bne, h0]; rfl
  have HP := Lib.hid P
  have HB := Lib.hid hb
  have HST := Lib.hid hst
  have e_ := P.at_
  rw [hst] at e_
  obtain ⟨e0, _, _, _, _, _, _, e7, _, _, e10⟩ := e_
  obtain ⟨m, hm⟩ : ∃ m, m = s.bd.length := ⟨_, rfl⟩
  obtain ⟨A, cB, hB, _, _⟩ := own8_form' (n := m) P.bd hm.symm
  have HM := Lib.hid hm
  have bm : (m : Int) + 1 ≤ 140737488355328 := by omega
  have bm0 : (0 : Int) ≤ (m : Int) := by omega
  obtain ⟨lf, hlf⟩ : ∃ lf, lf = s.lf := ⟨_, rfl⟩
  rw [← hlf] at e10 l0 l1
  have HLF := Lib.hid hlf
  have z0 : ((lf - 1 : Int) == 0) = false := by rw [hlf]; exact h0
  subst hB
  have B0 : Hid (Below w.heap.size w (w.alloc (.cells #[.int .u8 (c.toNat : Int)] 5))) := (Below.refl _ _).alloc (Nat.le_refl _) _
  have Q0 : Hid ((w.alloc (.cells #[.int .u8 (c.toNat : Int)] 5)).heap[w.heap.size]? = some (.cells #[.int .u8 (c.toNat : Int)] 5 (0, 0))) := heap_alloc_new _ _
  clear P hb hst hm hlf h0 q0
  go_enter Tryd.func23, Tryd.ntmps23
  go_wp2_with (at_builtin; go_must (refine app8 (l := s.bd) (base := 0) (news := [c]) rfl rfl rfl rfl (HP.out.below B0.out).bd (reads_block Q0.out rfl) (by have h_ := HB.out; simpa using h_) (Nat.zero_le _) ?_; intro v2 w2 ho hg hx; obtain ⟨A2, c2, hv2, _, _⟩ := own8_form' (n := m + 1) ho (by rw [HM.out]; simp); subst hv2; obtain ⟨e7', f7, P3, S3⟩ := HP.out.appB B0.out ho hg hx; have a_ := P3.at_; obtain ⟨a0, _, _, _, _, _, _, _, _, _, a10⟩ := a_; rw [show ({ s with bd := s.bd ++ [c] } : PS).st = _ from HST.out] at a0; rw [show ({ s with bd := s.bd ++ [c] } : PS).lf = _ from HLF.out.symm] at a10; have f10 := P3.fz 10; have S5 := P3.set (s' := { s with bd := s.bd ++ [c], lf := lf - 1 }) 10 (.int .i64 (lf - 1)) rfl rfl rfl rfl; have b10 := S5.1.at_.2.2.2.2.2.2.2.2.2.2; have S7 := Lib.hid (And.intro S5.1 (S3.trans S5.2)); have a0 := S5.1.at_; obtain ⟨a0, _⟩ := a0; rw [show ({ s with bd := s.bd ++ [c], lf := lf - 1 } : PS).st = _ from HST.out] at a0; clear P3 S3 S5 ho hg hx))
  go_ret
  exact ⟨rfl, W, H, _, by rw [← HLF.out]; exact S7.out.1, S7.out.2⟩
set_option maxRecDepth 100000 in
set_option maxHeartbeats 1000000 in
theorem ib12z (w : World) (g : Nat) (s : PS) (W H B : Value) (c : UInt8) (P : Par w g s W H B) (hb : s.bd.length + 1 ≤ 140737488355328) (l0 : -1 ≤ s.lf) (l1 : s.lf ≤ 1000000000) (hst : s.st = 12) (h0 : (s.lf - 1 == 0) = true) : Calls Tryd.prog 23 #[.pointer (some ⟨g, 0, none⟩), .int .u8 (c.toNat : Int)] w (PPost g W H B w (({ s with bd := s.bd ++ [c], lf := s.lf - 1, st := 13 }, (0 : Int))).1 (.int .i64 (({ s with bd := s.bd ++ [c], lf := s.lf - 1, st := 13 }, (0 : Int))).2)) := by
  have q0 : (s.lf - 1 != 0) = false := by rw [bne, h0]; rfl
  have HP := Lib.hid P
  have HB := Lib.hid hb
  have HST := Lib.hid hst
  have e_ := P.at_
  rw [hst] at e_
  obtain ⟨e0, _, _, _, _, _, _, e7, _, _, e10⟩ := e_
  obtain ⟨m, hm⟩ : ∃ m, m = s.bd.length := ⟨_, rfl⟩
  obtain ⟨A, cB, hB, _, _⟩ := own8_form' (n := m) P.bd hm.symm
  have HM := Lib.hid hm
  have bm : (m : Int) + 1 ≤ 140737488355328 := by omega
  have bm0 : (0 : Int) ≤ (m : Int) := by omega
  obtain ⟨lf, hlf⟩ : ∃ lf, lf = s.lf := ⟨_, rfl⟩
  rw [← hlf] at e10 l0 l1
  have HLF := Lib.hid hlf
  have z0 : lf = 1 := by rw [hlf]; simp at h0; omega
  subst z0
  subst hB
  have B0 : Hid (Below w.heap.size w (w.alloc (.cells #[.int .u8 (c.toNat : Int)] 5))) := (Below.refl _ _).alloc (Nat.le_refl _) _
  have Q0 : Hid ((w.alloc (.cells #[.int .u8 (c.toNat : Int)] 5)).heap[w.heap.size]? = some (.cells #[.int .u8 (c.toNat : Int)] 5 (0, 0))) := heap_alloc_new _ _
  clear P hb hst hm hlf h0 q0
  go_enter Tryd.func23, Tryd.ntmps23
  go_wp2_with (at_builtin; go_must (refine app8 (l := s.bd) (base := 0) (news := [c]) rfl rfl rfl rfl (HP.out.below B0.out).bd (reads_block Q0.out rfl) (by have h_ := HB.out; simpa using h_) (Nat.zero_le _) ?_; intro v2 w2 ho hg hx; obtain ⟨A2, c2, hv2, _, _⟩ := own8_form' (n := m + 1) ho (by rw [HM.out]; simp); subst hv2; obtain ⟨e7', f7, P3, S3⟩ := HP.out.appB B0.out ho hg hx; have a_ := P3.at_; obtain ⟨a0, _, _, _, _, _, _, _, _, _, a10⟩ := a_; rw [show ({ s with bd := s.bd ++ [c] } : PS).st = _ from HST.out] at a0; rw [show ({ s with bd := s.bd ++ [c] } : PS).lf = _ from HLF.out.symm] at a10; have f10 := P3.fz 10; have S5 := P3.set (s' := { s with bd := s.bd ++ [c], lf := 0 }) 10 (.int .i64 (0)) rfl rfl rfl rfl; have b10 := S5.1.at_.2.2.2.2.2.2.2.2.2.2; have a0 := S5.1.at_; obtain ⟨a0, _⟩ := a0; rw [show ({ s with bd := s.bd ++ [c], lf := 0 } : PS).st = _ from HST.out] at a0; have b0 := S5.1.fz 0; have S6 := S5.1.set (s' := { s with bd := s.bd ++ [c], lf := 0, st := 13 }) 0 (.int .i64 13) rfl rfl rfl rfl; have S7 := Lib.hid (And.intro S6.1 ((S3.trans S5.2).trans S6.2)); clear S6; clear P3 S3 S5 ho hg hx))
  go_ret
  exact ⟨rfl, W, H, _, by rw [show s.lf - 1 = 0 from by have h_ := HLF.out; omega]; exact S7.out.1, S7.out.2⟩
set_option maxRecDepth 100000 in
set_option maxHeartbeats 1000000 in
theorem ib12n (w : World) (g : Nat) (s : PS) (W H B : Value) (c : UInt8) (P : Par w g s W H B) (hb : s.bd.length + 1 ≤ 140737488355328) (l0 : -1 ≤ s.lf) (l1 : s.lf ≤ 1000000000) (hst : s.st = 12) (h0 : (s.lf - 1 == 0) = false) : Calls Tryd.prog 23 #[.pointer (some ⟨g, 0, none⟩), .int .u8 (c.toNat : Int)] w (PPost g W H B w (({ s with bd := s.bd ++ [c], lf := s.lf - 1 }, (0 : Int))).1 (.int .i64 (({ s with bd := s.bd ++ [c], lf := s.lf - 1 }, (0 : Int))).2)) := by
  have q0 : (s.lf - 1 != 0) = true := by rw [bne, h0]; rfl
  have HP := Lib.hid P
  have HB := Lib.hid hb
  have HST := Lib.hid hst
  have e_ := P.at_
  rw [hst] at e_
  obtain ⟨e0, _, _, _, _, _, _, e7, _, _, e10⟩ := e_
  obtain ⟨m, hm⟩ : ∃ m, m = s.bd.length := ⟨_, rfl⟩
  obtain ⟨A, cB, hB, _, _⟩ := own8_form' (n := m) P.bd hm.symm
  have HM := Lib.hid hm
  have bm : (m : Int) + 1 ≤ 140737488355328 := by omega
  have bm0 : (0 : Int) ≤ (m : Int) := by omega
  obtain ⟨lf, hlf⟩ : ∃ lf, lf = s.lf := ⟨_, rfl⟩
  rw [← hlf] at e10 l0 l1
  have HLF := Lib.hid hlf
  have z0 : ((lf - 1 : Int) == 0) = false := by rw [hlf]; exact h0
  subst hB
  have B0 : Hid (Below w.heap.size w (w.alloc (.cells #[.int .u8 (c.toNat : Int)] 5))) := (Below.refl _ _).alloc (Nat.le_refl _) _
  have Q0 : Hid ((w.alloc (.cells #[.int .u8 (c.toNat : Int)] 5)).heap[w.heap.size]? = some (.cells #[.int .u8 (c.toNat : Int)] 5 (0, 0))) := heap_alloc_new _ _
  clear P hb hst hm hlf h0 q0
  go_enter Tryd.func23, Tryd.ntmps23
  go_wp2_with (at_builtin; go_must (refine app8 (l := s.bd) (base := 0) (news := [c]) rfl rfl rfl rfl (HP.out.below B0.out).bd (reads_block Q0.out rfl) (by have h_ := HB.out; simpa using h_) (Nat.zero_le _) ?_; intro v2 w2 ho hg hx; obtain ⟨A2, c2, hv2, _, _⟩ := own8_form' (n := m + 1) ho (by rw [HM.out]; simp); subst hv2; obtain ⟨e7', f7, P3, S3⟩ := HP.out.appB B0.out ho hg hx; have a_ := P3.at_; obtain ⟨a0, _, _, _, _, _, _, _, _, _, a10⟩ := a_; rw [show ({ s with bd := s.bd ++ [c] } : PS).st = _ from HST.out] at a0; rw [show ({ s with bd := s.bd ++ [c] } : PS).lf = _ from HLF.out.symm] at a10; have f10 := P3.fz 10; have S5 := P3.set (s' := { s with bd := s.bd ++ [c], lf := lf - 1 }) 10 (.int .i64 (lf - 1)) rfl rfl rfl rfl; have b10 := S5.1.at_.2.2.2.2.2.2.2.2.2.2; have S7 := Lib.hid (And.intro S5.1 (S3.trans S5.2)); have a0 := S5.1.at_; obtain ⟨a0, _⟩ := a0; rw [show ({ s with bd := s.bd ++ [c], lf := lf - 1 } : PS).st = _ from HST.out] at a0; clear P3 S3 S5 ho hg hx))
  go_ret
  exact ⟨rfl, W, H, _, by rw [← HLF.out]; exact S7.out.1, S7.out.2⟩
set_option maxRecDepth 100000 in
set_option maxHeartbeats 1000000 in
theorem ib11a (w : World) (g : Nat) (s : PS) (W H B : Value) (c : UInt8) (P : Par w g s W H B) (hb : s.bd.length + 1 ≤ 140737488355328) (l0 : -1 ≤ s.lf) (l1 : s.lf ≤ 1000000000) (hst : s.st = 11) (h0 : ((c.toNat : Int) != 10) = false) (h1 : decide (4096 < s.lf + (s.bd.length : Int)) = true) : Calls Tryd.prog 23 #[.pointer (some ⟨g, 0, none⟩), .int .u8 (c.toNat : Int)] w (PPost g W H B w ((s, (413 : Int))).1 (.int .i64 ((s, (413 : Int))).2)) := by
  have q0 : ((c.toNat : Int) == 10) = true := by rw [bne, Bool.not_eq_eq_eq_not] at h0; simpa using h0
  have HP := Lib.hid P
  have HB := Lib.hid hb
  have HST := Lib.hid hst
  have e_ := P.at_
  rw [hst] at e_
  obtain ⟨e0, _, _, _, _, _, _, e7, _, _, e10⟩ := e_
  obtain ⟨m, hm⟩ : ∃ m, m = s.bd.length := ⟨_, rfl⟩
  obtain ⟨A, cB, hB, _, _⟩ := own8_form' (n := m) P.bd hm.symm
  have HM := Lib.hid hm
  have bm : (m : Int) + 1 ≤ 140737488355328 := by omega
  have bm0 : (0 : Int) ≤ (m : Int) := by omega
  obtain ⟨lf, hlf⟩ : ∃ lf, lf = s.lf := ⟨_, rfl⟩
  rw [← hlf] at e10 l0 l1
  have HLF := Lib.hid hlf
  rw [← hm, ← hlf] at h1
  have g1 : (4096 : Int) < lf + (m : Int) := by simpa using h1
  subst hB
  clear P hb hst hm hlf
  go_enter Tryd.func23, Tryd.ntmps23
  go_wp2
  go_quiet (fail)
  have P := HP.out.below ⟨rfl, rfl, rfl, Nat.le_refl _, fun _ _ => rfl⟩ (w' := w.drewN nq)
  have D : Below w.heap.size w (w.drewN nq) := ⟨rfl, rfl, rfl, Nat.le_refl _, fun _ _ => rfl⟩
  have HP1 := Lib.hid P
  have HD := Lib.hid D
  clear P D
  go_wp2
  go_ret
  exact ⟨rfl, W, H, _, HP1.out, PStep.of_below HD.out⟩
set_option maxRecDepth 100000 in
set_option maxHeartbeats 1000000 in
theorem ib11b (w : World) (g : Nat) (s : PS) (W H B : Value) (c : UInt8) (P : Par w g s W H B) (hb : s.bd.length + 1 ≤ 140737488355328) (l0 : -1 ≤ s.lf) (l1 : s.lf ≤ 1000000000) (hst : s.st = 11) (h0 : ((c.toNat : Int) != 10) = false) (h1 : decide (4096 < s.lf + (s.bd.length : Int)) = false) (h2 : (s.lf == 0) = false) : Calls Tryd.prog 23 #[.pointer (some ⟨g, 0, none⟩), .int .u8 (c.toNat : Int)] w (PPost g W H B w (({ s with st := 12 }, (0 : Int))).1 (.int .i64 (({ s with st := 12 }, (0 : Int))).2)) := by
  have q0 : ((c.toNat : Int) == 10) = true := by rw [bne, Bool.not_eq_eq_eq_not] at h0; simpa using h0
  have q2 : (s.lf != 0) = true := by rw [bne, h2]; rfl
  have HP := Lib.hid P
  have HB := Lib.hid hb
  have HST := Lib.hid hst
  have e_ := P.at_
  rw [hst] at e_
  obtain ⟨e0, _, _, _, _, _, _, e7, _, _, e10⟩ := e_
  obtain ⟨m, hm⟩ : ∃ m, m = s.bd.length := ⟨_, rfl⟩
  obtain ⟨A, cB, hB, _, _⟩ := own8_form' (n := m) P.bd hm.symm
  have HM := Lib.hid hm
  have bm : (m : Int) + 1 ≤ 140737488355328 := by omega
  have bm0 : (0 : Int) ≤ (m : Int) := by omega
  obtain ⟨lf, hlf⟩ : ∃ lf, lf = s.lf := ⟨_, rfl⟩
  rw [← hlf] at e10 l0 l1
  have HLF := Lib.hid hlf
  rw [← hm, ← hlf] at h1
  have g1 : lf + (m : Int) ≤ 4096 := by simp at h1; omega
  have g2 : ¬ (4096 : Int) < lf + (m : Int) := by omega
  have z0 : (lf == 0) = false := by rw [hlf]; exact h2
  clear h2 q2
  subst hB
  clear P hb hst hm hlf
  go_enter Tryd.func23, Tryd.ntmps23
  go_wp2
  go_quiet (fail)
  have P := HP.out.below ⟨rfl, rfl, rfl, Nat.le_refl _, fun _ _ => rfl⟩ (w' := w.drewN nq)
  have D : Below w.heap.size w (w.drewN nq) := ⟨rfl, rfl, rfl, Nat.le_refl _, fun _ _ => rfl⟩
  have HP1 := Lib.hid P
  have HD := Lib.hid D
  have f0 := P.fz 0
  have e0 := P.at_.1
  rw [HST.out] at e0
  have S1 := P.set (s' := { s with st := 12 }) 0 (.int .i64 12) rfl rfl rfl rfl
  have a10 := S1.1.at_.2.2.2.2.2.2.2.2.2.2
  rw [show ({ s with st := 12 } : PS).lf = _ from HLF.out.symm] at a10
  have HS1 := Lib.hid S1
  clear P D S1
  go_wp2
  go_ret
  exact ⟨rfl, W, H, _, HS1.out.1, (PStep.of_below HD.out).trans HS1.out.2⟩
set_option maxRecDepth 100000 in
set_option maxHeartbeats 1000000 in
theorem ib11c (w : World) (g : Nat) (s : PS) (W H B : Value) (c : UInt8) (P : Par w g s W H B) (hb : s.bd.length + 1 ≤ 140737488355328) (l0 : -1 ≤ s.lf) (l1 : s.lf ≤ 1000000000) (hst : s.st = 11) (h0 : ((c.toNat : Int) != 10) = false) (h1 : decide (4096 < s.lf + (s.bd.length : Int)) = false) (h2 : (s.lf == 0) = true) : Calls Tryd.prog 23 #[.pointer (some ⟨g, 0, none⟩), .int .u8 (c.toNat : Int)] w (PPost g W H B w (({ s with st := 13, lf := -1 }, (0 : Int))).1 (.int .i64 (({ s with st := 13, lf := -1 }, (0 : Int))).2)) := by
  have q0 : ((c.toNat : Int) == 10) = true := by rw [bne, Bool.not_eq_eq_eq_not] at h0; simpa using h0
  have q2 : (s.lf != 0) = false := by rw [bne, h2]; rfl
  have HP := Lib.hid P
  have HB := Lib.hid hb
  have HST := Lib.hid hst
  have e_ := P.at_
  rw [hst] at e_
  obtain ⟨e0, _, _, _, _, _, _, e7, _, _, e10⟩ := e_
  obtain ⟨m, hm⟩ : ∃ m, m = s.bd.length := ⟨_, rfl⟩
  obtain ⟨A, cB, hB, _, _⟩ := own8_form' (n := m) P.bd hm.symm
  have HM := Lib.hid hm
  have bm : (m : Int) + 1 ≤ 140737488355328 := by omega
  have bm0 : (0 : Int) ≤ (m : Int) := by omega
  obtain ⟨lf, hlf⟩ : ∃ lf, lf = s.lf := ⟨_, rfl⟩
  rw [← hlf] at e10 l0 l1
  have HLF := Lib.hid hlf
  rw [← hm, ← hlf] at h1
  have g1 : lf + (m : Int) ≤ 4096 := by simp at h1; omega
  have g2 : ¬ (4096 : Int) < lf + (m : Int) := by omega
  have z0 : (lf == 0) = true := by rw [hlf]; exact h2
  clear h2 q2
  subst hB
  clear P hb hst hm hlf
  go_enter Tryd.func23, Tryd.ntmps23
  go_wp2
  go_quiet (fail)
  have P := HP.out.below ⟨rfl, rfl, rfl, Nat.le_refl _, fun _ _ => rfl⟩ (w' := w.drewN nq)
  have D : Below w.heap.size w (w.drewN nq) := ⟨rfl, rfl, rfl, Nat.le_refl _, fun _ _ => rfl⟩
  have HP1 := Lib.hid P
  have HD := Lib.hid D
  have f0 := P.fz 0
  have e0 := P.at_.1
  rw [HST.out] at e0
  have S1 := P.set (s' := { s with st := 12 }) 0 (.int .i64 12) rfl rfl rfl rfl
  have a10 := S1.1.at_.2.2.2.2.2.2.2.2.2.2
  rw [show ({ s with st := 12 } : PS).lf = _ from HLF.out.symm] at a10
  have e0' := S1.1.at_.1
  have f0' := S1.1.fz 0
  have S2 := S1.1.set (s' := { s with st := 13 }) 0 (.int .i64 13) rfl rfl rfl rfl
  have a10' := S2.1.at_.2.2.2.2.2.2.2.2.2.2
  rw [show ({ s with st := 13 } : PS).lf = _ from HLF.out.symm] at a10'
  have f10 := S2.1.fz 10
  have S3 := S2.1.set (s' := { s with st := 13, lf := -1 }) 10 (.int .i64 (-1)) rfl rfl rfl rfl
  have HS3 := Lib.hid (And.intro S3.1 ((S1.2.trans S2.2).trans S3.2))
  clear P D S1 S2 S3
  go_wp2
  go_ret
  exact ⟨rfl, W, H, _, HS3.out.1, (PStep.of_below HD.out).trans HS3.out.2⟩
end Go.Proofs.YtjichadkonlfpaaDoor
