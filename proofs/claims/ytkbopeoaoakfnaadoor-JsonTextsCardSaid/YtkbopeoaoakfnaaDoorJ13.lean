/- json: Parse. No conditions. -/
import Derived.Test.YtkbopeoaoakfnaaDoorJ12
namespace Go.Proofs.YtkbopeoaoakfnaaDoor
open Go.RowKit
/-- What Parse leaves. -/
def ParsePost (w : World) (s : List UInt8) (e : Ending) (w' : World) : Prop :=
  ∃ v, e = .returned (.tuple #[v, .int .i64 (parseP s).2.1, .int .i64 (parseP s).2.2]) ∧ Below w.heap.size w w' ∧ IsV w' (fun k => w.heap.size ≤ k ∧ k < w'.heap.size) v (parseP s).1
section
variable {w w' : World} {s : List UInt8}
theorem at_new (w : World) (s : List UInt8) (hl : s.length ≤ 8192) : At (w.alloc (.cells #[.string ⟨s.toArray⟩, .int .i64 0, .int .i64 0, .pointer none] 80)) w.heap.size w.heap.size s (w.alloc (.cells #[.string ⟨s.toArray⟩, .int .i64 0, .int .i64 0, .pointer none] 80)) ⟨0, 0, none⟩ :=
  At.start ⟨.pointer none, heap_alloc_new w _, Nat.le_refl _, Nat.zero_le _, rfl⟩ (by simp) hl
theorem at_back {w1 : World} {st : PS} {o : Obj} (h1 : w1 = w.alloc o) (h : At w1 w.heap.size w.heap.size s w' st) : Below w.heap.size w w' := by
  have hb : Below w.heap.size w w1 := by rw [h1]; exact (Below.refl _ _).alloc (Nat.le_refl _) _
  have ht := h.turn
  exact hb.trans ⟨ht.os, ht.tape, ht.output, ht.size, fun k hk => ht.block k (Nat.lt_of_lt_of_le hk hb.size) (by omega)⟩
set_option maxRecDepth 100000 in
set_option maxHeartbeats 800000 in
theorem parse_any (w : World) (s : List UInt8) : Calls Tryd.prog 16 #[.string ⟨s.toArray⟩] w (ParsePost w s) := by
  have hsz : (⟨s.toArray⟩ : ByteArray).size = s.length := by simp [ByteArray.size]
  by_cases hbig : 8192 < s.length
  · have hb : (8192 : Int) < (s.length : Int) := by omega
    have HR := Lib.hid (show parseP s = (.nil, 0, 6) by unfold parseP; rw [if_pos hbig])
    clear hbig
    go_enter Tryd.func16, Tryd.ntmps16
    go_wp2
    go_ret3
    rw [ParsePost, HR.out]
    exact ⟨_, rfl, Below.refl _ _, .nil⟩
  · have hl : s.length ≤ 8192 := by omega
    have hb : ¬ (8192 : Int) < (s.length : Int) := by omega
    obtain ⟨w1, hw1⟩ : ∃ w1, w1 = w.alloc (.cells #[.string ⟨s.toArray⟩, .int .i64 0, .int .i64 0, .pointer none] 80) := ⟨_, rfl⟩
    have h0 := at_new w s hl
    rw [← hw1] at h0
    have HW := Lib.hid hw1
    have hend : parseP s = match (endP s).fault with | some (k, e) => (.nil, k, e) | none => ((bodyP s).1, 0, 0) := by unfold parseP; rw [if_neg hbig]; rfl
    have HE := Lib.hid hend
    clear hbig hend
    go_enter Tryd.func16, Tryd.ntmps16
    go_upto_region 7 with (first
      | (go_at_call 31; have hx_ := h3; go_must (refine (lift_at h3 (blanks_at h3.self)).mono ?_; rintro e w4 ⟨rfl, h4, t4⟩))
      | (go_at_call 31; go_must (rw [← HW.out]; refine (lift_at h0 (blanks_at h0.self)).mono ?_; rintro e w2 ⟨rfl, h2, t2⟩))
      | (go_at_call 32; go_must (refine (val_all s (s.length + 1) _ _ _ _ h2.self (fun _ => ⟨by omega, by rw [PS.blanks_depth]; decide, by rw [PS.blanks_depth]; decide⟩) (by omega)).mono ?_; rintro e w3 ⟨v, rfl, hv3, hu⟩; have h3 := h2.step hv3.ps hv3.turn)))
    have hE : (PS.blanks (valP s (s.length + 1) (PS.blanks ⟨0, 0, none⟩ s)).2 s) = (bodyP s).2.blanks s := rfl
    rw [hE] at h4
    obtain ⟨D, hD⟩ : ∃ D, D = (bodyP s).2.blanks s := ⟨_, rfl⟩
    rw [← hD] at h4
    have hend2 : endP s = if D.fault = none ∧ D.at_ < s.length then D.fail D.at_ 2 else D := by rw [hD]; rfl
    have HEND := Lib.hid hend2
    have HU := Lib.hid (show IsV w3 (fun k => w2.heap.size ≤ k ∧ k < w3.heap.size) v (bodyP s).1 from hu)
    have HS := Lib.hid (show w.heap.size < w2.heap.size ∧ w2.heap.size ≤ w3.heap.size from ⟨by have h_ := h2.ps.lt; omega, hv3.turn.size⟩)
    obtain ⟨fp, c3, hfp⟩ := h4.fault
    obtain ⟨c0, c1, c2, fz⟩ := h4.cells
    have hsl : (s.length : Int) ≤ 8192 := by omega
    clear hE hD hend2 hu hv3 h2 t2 h3 h0
    go_cut [32] from 7 (fun v w' => v = .bool (decide (D.fault = none ∧ D.at_ < s.length)) ∧ w' = w4)
    case first =>
      by_cases hf : D.fault = none
      · have hd0 : decide (D.fault = none) = true := by simp [hf]
        rw [hd0] at hfp
        by_cases hlt : D.at_ < s.length
        · have hI : (D.at_ : Int) < (s.length : Int) := by omega
          go_wp2
          go_meet
          case rel => exact ⟨by simp [hf, hlt], rfl⟩
        · have hI : (s.length : Int) ≤ (D.at_ : Int) := by omega
          go_wp2
          go_meet
          case rel => exact ⟨by simp [hlt], rfl⟩
      · have hd0 : decide (D.fault = none) = false := by simp [hf]
        rw [hd0] at hfp
        go_wp2
        go_meet
        case rel => exact ⟨by simp [hf], rfl⟩
    case rest =>
      obtain ⟨rfl, rfl⟩ := hcut
      go_upto_if 32 with fail
      go_cut [] from 7 (fun w' => At w1 w.heap.size w.heap.size s w' (endP s) ∧ Turn w.heap.size w3 w')
      case first =>
        by_cases hc : D.fault = none ∧ D.at_ < s.length
        · have hb2 : decide (D.fault = none ∧ D.at_ < s.length) = true := by simp [hc]
          rw [hb2]
          have HK := Lib.hid hc
          clear hc hb2
          go_wp2_with (go_at_call 33; go_must (refine (lift_at h4 (fail_at h4.self _ _)).mono ?_; rintro e w5 ⟨rfl, h5, t5⟩))
          go_meet
          case rel => exact ⟨h5.cast (by rw [HEND.out, if_pos HK.out]), t4.trans t5⟩
        · have hb2 : decide (D.fault = none ∧ D.at_ < s.length) = false := by simpa using hc
          rw [hb2]
          go_wp2
          go_meet
          case rel => exact ⟨h4.cast (by rw [HEND.out, if_neg hc]), t4⟩
      case rest =>
        obtain ⟨h6, t6⟩ := hcut
        clear c0 c1 c2 fz c3 hfp h4 t4
        obtain ⟨fq, d3, hfq⟩ := h6.fault
        obtain ⟨d0, d1, d2, fz⟩ := h6.cells
        cases hF : (endP s).fault with
        | none =>
          rw [hF] at hfq
          have hq : fq.isNone = true := hfq
          have HR := Lib.hid (show parseP s = ((bodyP s).1, 0, 0) by rw [HE.out, hF])
          clear hfq hF
          go_wp2
          go_ret3
          rw [ParsePost, HR.out]
          refine ⟨_, rfl, at_back HW.out h6, ?_⟩
          have h_ := HS.out
          exact HU.out.keep (fun k hk => t6.block k hk.2 (by omega)) (fun k hk => ⟨by omega, Nat.lt_of_lt_of_le hk.2 t6.size⟩)
        | some ke =>
          obtain ⟨k, e⟩ := ke
          obtain ⟨f, e3, e4, e5⟩ := h6.ps.some_ hF
          rw [hF] at hfq
          have hq : fq.isNone = false := hfq
          have HR := Lib.hid (show parseP s = (.nil, k, e) by rw [HE.out, hF])
          rw [e3] at d3
          cases Option.some.inj d3
          clear hfq hF
          go_wp2
          go_quiet (fail)
          go_wp2
          go_ret3
          rw [ParsePost, HR.out]
          exact ⟨_, rfl, at_back HW.out (h6.below (below_drewN' (n := nq) rfl)), .nil⟩
end
end Go.Proofs.YtkbopeoaoakfnaaDoor
