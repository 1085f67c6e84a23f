/- The walk of the reference's Devices. No conditions. -/
import Derived.Test.YtbpgbihcihnieaaW13
import Derived.Test.YtbpgbihcihnieaaReg
namespace Go.Proofs.Ytbpgbihcihnieaa
open Go.RowKit

set_option maxRecDepth 100000 in
set_option maxHeartbeats 4000000 in
theorem rDevices_any (A : Option Addr) (c : Nat) (hs : List (List UInt8)) (w : World) (hh : Hsh w w.heap.size A hs) (hn : hs.length ≤ 140737488355328) :
    Calls Try.prog 19 #[.slice A hs.length c] w (DevPost hs w) := by
  go_enter Try.func19, Try.ntmps19
  go_wp2
  go_loopw [3] (fun i wr => ∃ k : Nat, (k : Int) ≤ 140737488355329 ∧ i = .int .i64 ((k + 1 : Nat) : Int) ∧ Hid (ascP hs (k + 1)) ∧ Below w.heap.size w wr) (fun i _ => hs.length + 1 - (intOf i).toNat)
  case atStart => exact ⟨0, by omega, rfl, fun i _ h => by omega, Below.refl _ _⟩
  case round =>
    obtain ⟨k, hk, rfl, hasc, hbw⟩ := hrel
    by_cases hlt : k + 1 < hs.length
    · obtain ⟨b, off, rfl, hb, hall⟩ := hh.at_ hlt
      have hk1 : k < hs.length := by omega
      obtain ⟨l, hl, hl32, hrl, _⟩ := hall k hk1
      obtain ⟨m, hm, hm32, hrm, _⟩ := hall (k + 1) hlt
      clear hall
      have Hl32 := Lib.hid hl32
      have Hm32 := Lib.hid hm32
      obtain ⟨bv, hbv⟩ : ∃ bv, belowB l m = bv := ⟨_, rfl⟩
      have Hbv := Lib.hid hbv
      clear hl32 hm32 hbv
      have hk' : (k : Int) < (hs.length : Int) := by omega
      have hlt' : (k : Int) + 1 < (hs.length : Int) := by omega
      have hsub : IntKind.i64.wrap (((k + 1 : Nat) : Int) - 1) = (k : Int) := by rw [IntWalk.i64_in _ (by omega)]; omega
      go_wp2
      refine Any.start (by kernel_rfl) rfl ?_
      apply Any.take (i := 0) rfl (by kernel_rfl) rfl
      · intro w' hC K hK
        go_wp2
        exact hK
      · rfl
      apply Any.take (i := 1) rfl (by kernel_rfl) rfl
      · intro w' hC K hK
        go_wp2
        exact hK
      · rfl
      apply Any.take (i := 2) rfl (by kernel_rfl) rfl
      · intro w' hC K hK
        go_wp2
        exact hK
      · rfl
      apply Any.take (i := 3) rfl (by kernel_rfl) rfl
      · intro w' hC K hK
        go_wp2
        exact hK
      · rfl
      apply Any.take (i := 4) rfl (by kernel_rfl) rfl
      · intro w' hC K hK
        refine wpList_load_mid rfl _ _ rfl b (off + k * 32) rfl (bvs l) _ (rangeAt_below hrl (hbw.trans (hC.mono hbw.size)) hb) Try.underlying44 rfl (by rw [bvs_length, Hl32.out]; kernel_rfl) ?_
        exact hK
      · rfl
      apply Any.take (i := 5) rfl (by kernel_rfl) rfl
      · intro w' hC K hK
        go_wp2
        exact hK
      · rfl
      apply Any.take (i := 6) rfl (by kernel_rfl) rfl
      · intro w' hC K hK
        go_wp2
        exact hK
      · rfl
      apply Any.take (i := 7) rfl (by kernel_rfl) rfl
      · intro w' hC K hK
        go_wp2
        exact hK
      · rfl
      apply Any.take (i := 8) rfl (by kernel_rfl) rfl
      · intro w' hC K hK
        refine wpList_load_mid rfl _ _ rfl b (off + (k + 1) * 32) rfl (bvs m) _ (rangeAt_below hrm (hbw.trans (hC.mono hbw.size)) hb) Try.underlying44 rfl (by rw [bvs_length, Hm32.out]; kernel_rfl) ?_
        exact hK
      · rfl
      apply Any.solo (i := 9) rfl (by kernel_rfl)
      intro w6 hC
      go_wp2_with (go_at_call 46; go_must (refine (rBelow_any l m _ Hl32.out Hm32.out).mono ?_; rintro e w7 ⟨rfl, hb7⟩; rw [Hbv.out]))
      refine ⟨rfl, hC.trans (hb7.mono hC.size), ?_⟩
      apply Any.take (i := 10) rfl (by kernel_rfl) rfl
      · intro w' hC K hK
        go_wp2
        exact hK
      · rfl
      refine Any.done (by kernel_rfl) (fun w8 hC8 => ?_)
      have hbz : Below w.heap.size w w8 := hbw.trans ((hC.trans ((hb7.trans (hC8.mono hb7.size)).mono hC.size)).mono hbw.size)
      cases bv with
      | true =>
        go_wp2
        go_roundw
        case rel => exact ⟨k + 1, by omega, by go_num, ascP_succ hasc.out hlt hl.out hm.out Hbv.out, hbz⟩
        case measure => simp [intOf]; omega
      | false =>
        go_wp2
        go_ret
        exact DevPost.no (ascP_no hlt hl.out hm.out Hbv.out) hbz
    · go_wp2
      go_ret
      exact ⟨_, rfl, by rw [decide_eq_true_iff]; exact ⟨fun h => ⟨fun i hi _ => hasc.out i hi (by omega), by omega⟩, fun h => by have := h.2; omega⟩, hbw⟩
end Go.Proofs.Ytbpgbihcihnieaa
