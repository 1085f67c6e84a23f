/- The walk of awake. No conditions. -/
import Derived.Test.YtagjeideohplpaaDoorS11
namespace Go.Proofs.YtagjeideohplpaaDoor
open Go.RowKit
def one8 (b : UInt8) : List UInt8 := b :: List.replicate 31 0
theorem one8_length (b : UInt8) : (one8 b).length = 32 := by simp [one8]
theorem awake_val : toB ((leN (one8 2) * leN (one8 3) + leN (one8 4)) % ordN) = one8 10 := by decide +kernel
theorem awake_can : decide (leN (one8 1) < ordN) = true := by decide +kernel
theorem lit10 : (bvs (one8 10)).toArray = #[.int .u8 10, .int .u8 0, .int .u8 0, .int .u8 0, .int .u8 0, .int .u8 0, .int .u8 0, .int .u8 0, .int .u8 0, .int .u8 0, .int .u8 0, .int .u8 0, .int .u8 0, .int .u8 0, .int .u8 0, .int .u8 0, .int .u8 0, .int .u8 0, .int .u8 0, .int .u8 0, .int .u8 0, .int .u8 0, .int .u8 0, .int .u8 0, .int .u8 0, .int .u8 0, .int .u8 0, .int .u8 0, .int .u8 0, .int .u8 0, .int .u8 0, .int .u8 0] := by kernel_rfl
set_option maxRecDepth 100000 in
set_option maxHeartbeats 1000000 in
theorem awake_any (w : World) (ho : Ord w) : Calls Tryd.prog 7 #[] w (fun e w' => e = .returned (.bool true) ∧ Below w.heap.size w w') := by
  have Ho := Lib.hid ho
  clear ho
  obtain ⟨cs, hcs⟩ : ∃ cs, cs = (bvs (one8 10)).toArray := ⟨_, rfl⟩
  have heq : ∀ w, (Op.equalIn 10000 22 (.agg cs) (.agg #[.int .u8 10, .int .u8 0, .int .u8 0, .int .u8 0, .int .u8 0, .int .u8 0, .int .u8 0, .int .u8 0, .int .u8 0, .int .u8 0, .int .u8 0, .int .u8 0, .int .u8 0, .int .u8 0, .int .u8 0, .int .u8 0, .int .u8 0, .int .u8 0, .int .u8 0, .int .u8 0, .int .u8 0, .int .u8 0, .int .u8 0, .int .u8 0, .int .u8 0, .int .u8 0, .int .u8 0, .int .u8 0, .int .u8 0, .int .u8 0, .int .u8 0, .int .u8 0])).run Tryd.prog w = .ok true w := fun w => by rw [← lit10, hcs, eq32 9998 _ _ (one8_length _) (one8_length _) w, beq_self_eq_true]
  have Hcs := Lib.hid hcs
  clear hcs
  go_enter Tryd.func7, Tryd.ntmps7
  go_wp2_with (first
    | (go_at_call 9; go_must (have h_ := MulAdd_any (one8 2) (one8 3) (one8 4) (one8_length _) (one8_length _) (one8_length _) w Ho.out; rw [awake_val] at h_; unfold BytesPost at h_; rw [← Hcs.out] at h_; refine h_.mono ?_; rintro e w2 ⟨rfl, hb2⟩; have HB2 := Lib.hid hb2; clear hb2 h_))
    | (go_at_call 12; go_must (have h_ := Canonical_any (one8 1) (one8_length _) w2 (Ho.out.below HB2.out); rw [awake_can] at h_; refine h_.mono ?_; rintro e w3 ⟨rfl, hb3⟩; have HB3 := Lib.hid hb3; clear hb3 h_)))
  refine bodyPost_ret (v := .bool true) (by simp [results, Tryd.results7]) rfl ⟨rfl, HB2.out.trans (HB3.out.mono HB2.out.size)⟩
end Go.Proofs.YtagjeideohplpaaDoor
