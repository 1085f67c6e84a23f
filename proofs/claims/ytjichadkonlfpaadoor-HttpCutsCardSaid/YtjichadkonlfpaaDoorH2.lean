/- take, done, expect. No conditions. -/
import Derived.Test.YtjichadkonlfpaaDoorH1
namespace Go.Proofs.YtjichadkonlfpaaDoor
open Go.RowKit
set_option maxRecDepth 100000 in
set_option maxHeartbeats 1000000 in
theorem take_any (w : World) (g : Nat) (s : PS) (W H B : Value) (c : UInt8) (fits : Bool) (P : Par w g s W H B) (hl : s.wd.length + 1 ≤ 140737488355328) :
    Calls Tryd.prog 26 #[.pointer (some ⟨g, 0, none⟩), .int .u8 (c.toNat : Int), .bool fits] w (PPost g W H B w (takeP s c fits).1 (.int .i64 (takeP s c fits).2)) := by
  cases fits
  · go_enter Tryd.func26, Tryd.ntmps26
    go_wp2
    go_ret
    exact ⟨rfl, W, H, B, P, PStep.refl _ _ _ _ _⟩
  · have HP := Lib.hid P
    have e3 := P.at_.2.2.2.1
    obtain ⟨A, cW, hW, _, _⟩ := own8_form P.wd
    subst hW
    have B0 : Hid (Below w.heap.size w (w.alloc (.cells #[.int .u8 (c.toNat : Int)] 5))) := (Below.refl _ _).alloc (Nat.le_refl _) _
    have Q0 : Hid ((w.alloc (.cells #[.int .u8 (c.toNat : Int)] 5)).heap[w.heap.size]? = some (.cells #[.int .u8 (c.toNat : Int)] 5 (0, 0))) := heap_alloc_new _ _
    have HL := Lib.hid hl
    clear P hl
    go_enter Tryd.func26, Tryd.ntmps26
    go_wp2_with (at_builtin; go_must (refine app8 (l := s.wd) (base := 0) (news := [c]) rfl rfl rfl rfl (HP.out.below B0.out).wd (reads_block Q0.out rfl) (by have h_ := HL.out; simpa using h_) (Nat.zero_le _) ?_; intro v2 w2 ho hg hx; obtain ⟨A2, c2, hv2, _, _⟩ := own8_form' (n := s.wd.length + 1) ho (by simp); subst hv2; obtain ⟨e3', f3, P3, S3⟩ := HP.out.appW B0.out ho hg hx; have HP3 := Lib.hid P3; have HS3 := Lib.hid S3; clear P3 S3 ho hg hx))
    go_ret
    exact ⟨rfl, _, H, B, HP3.out, HS3.out⟩
set_option maxRecDepth 100000 in
set_option maxHeartbeats 1000000 in
theorem done_st (w : World) (g : Nat) (s : PS) (W H B : Value) (st : Int) (P : Par w g s W H B) :
    Calls Tryd.prog 25 #[.pointer (some ⟨g, 0, none⟩), .int .i64 st] w fun e w' => e = .returned (.string ⟨s.wd.toArray⟩) ∧ Par w' g (doneP s st) (.slice none 0 0) H B ∧ PStep g W H B w (.slice none 0 0) H B w' := by
  have HP := Lib.hid P
  have e3 := P.at_.2.2.2.1
  have f3 := P.fz 3
  obtain ⟨A, cW, hW, _, hr⟩ := own8_form P.wd
  subst hW
  have hs := run_str8 hr cW
  have N := P.nilW
  have HN := Lib.hid N
  have e0 := N.1.at_.1
  have f0 := N.1.fz 0
  have S2 := Lib.hid (N.1.set (s' := doneP s st) 0 (.int .i64 st) rfl rfl rfl rfl)
  clear P N hr
  go_enter Tryd.func25, Tryd.ntmps25
  go_wp2
  go_ret
  exact ⟨rfl, S2.out.1, HN.out.2.trans S2.out.2⟩
theorem done_any (w : World) (g : Nat) (s : PS) (W H B : Value) (st : Int) (P : Par w g s W H B) :
    Calls Tryd.prog 25 #[.pointer (some ⟨g, 0, none⟩), .int .i64 st] w (PPost g W H B w (doneP s st) (.string ⟨s.wd.toArray⟩)) :=
  (done_st w g s W H B st P).mono fun _ _ h => ⟨h.1, _, _, _, h.2.1, h.2.2⟩
set_option maxRecDepth 100000 in
set_option maxHeartbeats 1000000 in
theorem expect_any (w : World) (g : Nat) (s : PS) (W H B : Value) (c want : UInt8) (st : Int) (P : Par w g s W H B) :
    Calls Tryd.prog 33 #[.pointer (some ⟨g, 0, none⟩), .int .u8 (c.toNat : Int), .int .u8 (want.toNat : Int), .int .i64 st] w (PPost g W H B w (expectP s c want st).1 (.int .i64 (expectP s c want st).2)) := by
  have HP := Lib.hid P
  have e0 := P.at_.1
  have f0 := P.fz 0
  have S2 := Lib.hid (P.set (s' := { s with st := st }) 0 (.int .i64 st) rfl rfl rfl rfl)
  clear P
  by_cases hc : c = want
  · subst hc
    rw [show expectP s c c st = ({ s with st := st }, 0) from if_pos rfl]
    go_enter Tryd.func33, Tryd.ntmps33
    go_wp2
    go_ret
    exact ⟨rfl, W, H, B, S2.out.1, S2.out.2⟩
  · have hne : ((c.toNat : Int) == (want.toNat : Int)) = false := by
      simp only [beq_eq_false_iff_ne, ne_eq]
      intro h
      exact hc (UInt8.toNat_inj.1 (by omega))
    rw [show expectP s c want st = (s, 400) from if_neg hc]
    clear hc
    go_enter Tryd.func33, Tryd.ntmps33
    go_wp2
    go_ret
    exact ⟨rfl, W, H, B, HP.out, PStep.refl _ _ _ _ _⟩
end Go.Proofs.YtjichadkonlfpaaDoor
