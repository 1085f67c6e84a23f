/- The walk of the law WireNames. No conditions. -/
import Derived.Test.YtbpgbihcihnieaaW5
import Derived.Test.YtbpgbihcihnieaaW14
import Derived.Test.YtbpgbihcihnieaaArgs2
namespace Go.Proofs.Ytbpgbihcihnieaa
open Go.RowKit
set_option maxRecDepth 100000 in
set_option maxHeartbeats 1000000 in
theorem WireNames_walk (v0 v1 : Value) (s : ByteArray) (hs : List (List UInt8)) (w : World) (a0 : ArgS v0 s) (a1 : ArgH w v1 hs) :
    Calls Try.prog 4 #[v0, v1] w fun e w' => e = .returned (.bool true) ∧ Below w.heap.size w w' := by
  obtain ⟨rfl, hsz⟩ := a0
  obtain ⟨A, c, rfl, hc, hh, hm⟩ := a1
  rw [reach_eq] at hm
  go_enter Try.func4, Try.ntmps4
  go_wp2_with (first
    | (go_at_call 12; go_must (refine (awake_any _).mono ?_; rintro e w1 ⟨rfl, hb1⟩))
    | (go_at_call 16; go_must (refine (Account_any s _).mono ?_; rintro e w2 ⟨rfl, hb2'⟩; have hb2 := hb1.trans (hb2'.mono hb1.size)))
    | (go_at_call 17; go_must (refine (rAccount_any s _ (by rw [reach_eq] at hsz; omega)).mono ?_; rintro e w3 ⟨rfl, hb3'⟩; have hb3 := hb2.trans (hb3'.mono hb2.size)))
    | (go_at_call 18; go_must (refine (Devices_any A c hs _ ((hh.below hb3).more hb3.size) (by omega)).mono ?_; rintro e w4 ⟨b4, rfl, hd4, hb4'⟩; have hb4 := hb3.trans (hb4'.mono hb3.size); have Hd4 := Lib.hid hd4; clear hd4))
    | (go_at_call 19; go_must (refine (rDevices_any A c hs _ ((hh.below hb4).more hb4.size) (by omega)).mono ?_; rintro e w5 ⟨b5, rfl, hd5, hb5'⟩; have hb5 := hb4.trans (hb5'.mono hb4.size); have hbb : b5 = b4 := Bool.eq_iff_iff.2 (hd5.trans Hd4.out.symm); subst hbb)))
  go_ret
  exact ⟨by simp, hb5⟩
end Go.Proofs.Ytbpgbihcihnieaa
