/- The walk of ScalarRing. No conditions. -/
import Derived.Test.YtagjeideohplpaaDoorS13
namespace Go.Proofs.YtagjeideohplpaaDoor
open Go.RowKit
theorem ring_assoc (A B C : Nat) : ((A + B) % ordN + C) % ordN = (A + (B + C) % ordN) % ordN := by
  rw [Nat.add_mod ((A + B) % ordN) C, Nat.mod_mod, ← Nat.add_mod, Nat.add_mod A ((B + C) % ordN), Nat.mod_mod, ← Nat.add_mod, Nat.add_assoc]
theorem ring_neg (A : Nat) : (A + negN A) % ordN = 0 := by
  unfold negN
  have h1 := Nat.mod_lt A ordN_pos
  rw [Nat.add_mod A, Nat.mod_mod, ← Nat.mod_mod A, ← Nat.add_mod]
  rw [Nat.mod_mod, Nat.add_sub_cancel' (Nat.le_of_lt h1), Nat.mod_self]
theorem ring_mul (A B C : Nat) : (A * B + C) % ordN = ((B * A + 0) % ordN + C) % ordN := by
  rw [Nat.add_zero, Nat.add_mod ((B * A) % ordN) C, Nat.mod_mod, ← Nat.add_mod, Nat.mul_comm]
theorem ring_dist (A B C : Nat) : (A * ((B + C) % ordN) + 0) % ordN = ((A * B + 0) % ordN + (A * C + 0) % ordN) % ordN := by
  rw [Nat.add_zero, Nat.add_zero, Nat.add_zero, ← Nat.add_mod, ← Nat.mul_add, Nat.mul_mod, Nat.mod_mod, ← Nat.mul_mod]
set_option maxRecDepth 100000 in
set_option maxHeartbeats 8000000 in
theorem ring_any {xs ys us : Array Value} {A B C : Nat} (hx : Num xs A) (hy : Num ys B) (hu : Num us C) (w : World) (ho : Ord w) : Calls Tryd.prog 4 #[.agg xs, .agg ys, .agg us] w (fun e w' => e = .returned (.bool true) ∧ Below w.heap.size w w') := by
  obtain ⟨zs, hz, hz32⟩ := zeroN
  have HX := Lib.hid hx
  have HY := Lib.hid hy
  have HU := Lib.hid hu
  have HZ := Lib.hid hz
  have L2 := Lib.hid (Lb.three (w := w) (xs := xs) (ys := ys) (us := us))
  have Ho := Lib.hid ho
  clear hx hy hu hz ho
  go_enter Tryd.func4, Tryd.ntmps4
  go_wp2_with (first
    | (go_at_call 7; go_must (refine (awake_any _ (Ho.out.below L2.out.2.1)).mono ?_; rintro e w2 ⟨rfl, hb2⟩; have F2 : Hid (Lb [(w.heap.size, xs), (w.heap.size + 1, ys), (w.heap.size + 2, us)] w2 ∧ Below w.heap.size w w2) := ⟨L2.out.1.below hb2, L2.out.2.1.trans (hb2.mono L2.out.2.1.size)⟩; clear hb2))
    | (refine wpList_store_mid rfl _ _ _ rfl w2.heap.size 0 zs rfl rfl (there_new w2 zs _ _ (Nat.le_refl _)) (by rw [HZ.out.size]; kernel_rfl) HZ.out.cells ?_))
  simp only [Act.put]
  have L3 : Hid (Lb [(w2.heap.size, zs), (w.heap.size, xs), (w.heap.size + 1, ys), (w.heap.size + 2, us)] ((w2.alloc (.cells zs 22)).setCells w2.heap.size 0 zs.toList)) := Lb.push F2.out.1 rfl
  have B3 : Hid (Below w.heap.size w ((w2.alloc (.cells zs 22)).setCells w2.heap.size 0 zs.toList)) := below_setCells _ _ _ (F2.out.2.alloc F2.out.2.size _) F2.out.2.size
  refine AnyC.startB (Lb [(w2.heap.size, zs), (w.heap.size, xs), (w.heap.size + 1, ys), (w.heap.size + 2, us)]) (by kernel_rfl) rfl ?_
  intro w4 hb4 _
  have L4 : Hid (Lb [(w2.heap.size, zs), (w.heap.size, xs), (w.heap.size + 1, ys), (w.heap.size + 2, us)] w4) := L3.out.below hb4
  have B4 : Hid (Below w.heap.size w w4) := B3.out.trans (hb4.mono B3.out.size)
  clear hb4 L3 B3 F2
  apply AnyC.take (i := 0) rfl (by kernel_rfl) rfl
  · intro w' hC K hK
    refine wpList_load_box hC (by kernel_rfl) _ rfl (w.heap.size) xs (by simp) HX.out.size rfl rfl ?_
    go_wp2
    exact hK
  · rfl
  apply AnyC.take (i := 1) rfl (by kernel_rfl) rfl
  · intro w' hC K hK
    refine wpList_load_box hC (by kernel_rfl) _ rfl (w.heap.size + 1) ys (by simp) HY.out.size rfl rfl ?_
    go_wp2
    exact hK
  · rfl
  apply AnyC.take (i := 3) rfl (by kernel_rfl) rfl
  · intro w' hC K hK
    refine wpList_load_box hC (by kernel_rfl) _ rfl (w.heap.size + 1) ys (by simp) HY.out.size rfl rfl ?_
    go_wp2
    exact hK
  · rfl
  apply AnyC.take (i := 4) rfl (by kernel_rfl) rfl
  · intro w' hC K hK
    refine wpList_load_box hC (by kernel_rfl) _ rfl (w.heap.size) xs (by simp) HX.out.size rfl rfl ?_
    go_wp2
    exact hK
  · rfl
  apply AnyC.solo (i := 2) rfl (by kernel_rfl) L4.out
  go_wp2_with (go_at_call 10; go_must (refine (Add_n HX.out HY.out _ (Ho.out.below B4.out)).mono ?_; rintro e w5 ⟨r5, rfl, hn, hb⟩; have N5 := Lib.hid hn; have L5 := Lib.hid (L4.out.below hb); have B5 := Lib.hid (B4.out.trans (hb.mono B4.out.size)); clear hn hb))
  refine ⟨rfl, ?_⟩
  apply AnyC.solo (i := 5) rfl (by kernel_rfl) L5.out
  go_wp2_with (go_at_call 10; go_must (refine (Add_n HY.out HX.out _ (Ho.out.below B5.out)).mono ?_; rintro e w6 ⟨r6, rfl, hn, hb⟩; have N6 := Lib.hid hn; have L6 := Lib.hid (L5.out.below hb); have B6 := Lib.hid (B5.out.trans (hb.mono B5.out.size)); clear hn hb))
  refine ⟨rfl, ?_⟩
  have heqN5N6 := eq_true N5.out N6.out (congrArg (· % ordN) (Nat.add_comm A B))
  apply AnyC.take (i := 6) rfl (by kernel_rfl) rfl
  · intro w' hC K hK
    go_wp2
    exact hK
  · rfl
  apply AnyC.take (i := 7) rfl (by kernel_rfl) rfl
  · intro w' hC K hK
    go_wp2
    exact hK
  · rfl
  apply AnyC.take (i := 8) rfl (by kernel_rfl) rfl
  · intro w' hC K hK
    refine wpList_load_box hC (by kernel_rfl) _ rfl (w.heap.size) xs (by simp) HX.out.size rfl rfl ?_
    go_wp2
    exact hK
  · rfl
  apply AnyC.take (i := 9) rfl (by kernel_rfl) rfl
  · intro w' hC K hK
    refine wpList_load_box hC (by kernel_rfl) _ rfl (w.heap.size + 1) ys (by simp) HY.out.size rfl rfl ?_
    go_wp2
    exact hK
  · rfl
  apply AnyC.take (i := 11) rfl (by kernel_rfl) rfl
  · intro w' hC K hK
    refine wpList_load_box hC (by kernel_rfl) _ rfl (w.heap.size + 2) us (by simp) HU.out.size rfl rfl ?_
    go_wp2
    exact hK
  · rfl
  apply AnyC.take (i := 13) rfl (by kernel_rfl) rfl
  · intro w' hC K hK
    refine wpList_load_box hC (by kernel_rfl) _ rfl (w.heap.size) xs (by simp) HX.out.size rfl rfl ?_
    go_wp2
    exact hK
  · rfl
  apply AnyC.take (i := 14) rfl (by kernel_rfl) rfl
  · intro w' hC K hK
    refine wpList_load_box hC (by kernel_rfl) _ rfl (w.heap.size + 1) ys (by simp) HY.out.size rfl rfl ?_
    go_wp2
    exact hK
  · rfl
  apply AnyC.take (i := 15) rfl (by kernel_rfl) rfl
  · intro w' hC K hK
    refine wpList_load_box hC (by kernel_rfl) _ rfl (w.heap.size + 2) us (by simp) HU.out.size rfl rfl ?_
    go_wp2
    exact hK
  · rfl
  apply AnyC.solo (i := 10) rfl (by kernel_rfl) L6.out
  go_wp2_with (go_at_call 10; go_must (refine (Add_n HX.out HY.out _ (Ho.out.below B6.out)).mono ?_; rintro e w7 ⟨r7, rfl, hn, hb⟩; have N7 := Lib.hid hn; have L7 := Lib.hid (L6.out.below hb); have B7 := Lib.hid (B6.out.trans (hb.mono B6.out.size)); clear hn hb))
  refine ⟨rfl, ?_⟩
  apply AnyC.solo (i := 12) rfl (by kernel_rfl) L7.out
  go_wp2_with (go_at_call 10; go_must (refine (Add_n N7.out HU.out _ (Ho.out.below B7.out)).mono ?_; rintro e w8 ⟨r8, rfl, hn, hb⟩; have N8 := Lib.hid hn; have L8 := Lib.hid (L7.out.below hb); have B8 := Lib.hid (B7.out.trans (hb.mono B7.out.size)); clear hn hb))
  refine ⟨rfl, ?_⟩
  apply AnyC.solo (i := 16) rfl (by kernel_rfl) L8.out
  go_wp2_with (go_at_call 10; go_must (refine (Add_n HY.out HU.out _ (Ho.out.below B8.out)).mono ?_; rintro e w9 ⟨r9, rfl, hn, hb⟩; have N9 := Lib.hid hn; have L9 := Lib.hid (L8.out.below hb); have B9 := Lib.hid (B8.out.trans (hb.mono B8.out.size)); clear hn hb))
  refine ⟨rfl, ?_⟩
  apply AnyC.solo (i := 17) rfl (by kernel_rfl) L9.out
  go_wp2_with (go_at_call 10; go_must (refine (Add_n HX.out N9.out _ (Ho.out.below B9.out)).mono ?_; rintro e w10 ⟨r10, rfl, hn, hb⟩; have N10 := Lib.hid hn; have L10 := Lib.hid (L9.out.below hb); have B10 := Lib.hid (B9.out.trans (hb.mono B9.out.size)); clear hn hb))
  refine ⟨rfl, ?_⟩
  have heqN8N10 := eq_true N8.out N10.out (ring_assoc A B C)
  apply AnyC.take (i := 18) rfl (by kernel_rfl) rfl
  · intro w' hC K hK
    go_wp2
    exact hK
  · rfl
  apply AnyC.take (i := 19) rfl (by kernel_rfl) rfl
  · intro w' hC K hK
    go_wp2
    exact hK
  · rfl
  apply AnyC.take (i := 20) rfl (by kernel_rfl) rfl
  · intro w' hC K hK
    go_wp2
    exact hK
  · rfl
  apply AnyC.take (i := 21) rfl (by kernel_rfl) rfl
  · intro w' hC K hK
    refine wpList_load_box hC (by kernel_rfl) _ rfl (w.heap.size) xs (by simp) HX.out.size rfl rfl ?_
    go_wp2
    exact hK
  · rfl
  apply AnyC.take (i := 22) rfl (by kernel_rfl) rfl
  · intro w' hC K hK
    refine wpList_load_box hC (by kernel_rfl) _ rfl (w.heap.size) xs (by simp) HX.out.size rfl rfl ?_
    go_wp2
    exact hK
  · rfl
  apply AnyC.take (i := 25) rfl (by kernel_rfl) rfl
  · intro w' hC K hK
    refine wpList_load_box hC (by kernel_rfl) _ rfl (w2.heap.size) zs (by simp) HZ.out.size rfl rfl ?_
    go_wp2
    exact hK
  · rfl
  apply AnyC.solo (i := 23) rfl (by kernel_rfl) L10.out
  go_wp2_with (go_at_call 11; go_must (refine (Neg_n HX.out _ (Ho.out.below B10.out)).mono ?_; rintro e w11 ⟨r11, rfl, hn, hb⟩; have N11 := Lib.hid hn; have L11 := Lib.hid (L10.out.below hb); have B11 := Lib.hid (B10.out.trans (hb.mono B10.out.size)); clear hn hb))
  refine ⟨rfl, ?_⟩
  apply AnyC.solo (i := 24) rfl (by kernel_rfl) L11.out
  go_wp2_with (go_at_call 10; go_must (refine (Add_n HX.out N11.out _ (Ho.out.below B11.out)).mono ?_; rintro e w12 ⟨r12, rfl, hn, hb⟩; have N12 := Lib.hid hn; have L12 := Lib.hid (L11.out.below hb); have B12 := Lib.hid (B11.out.trans (hb.mono B11.out.size)); clear hn hb))
  refine ⟨rfl, ?_⟩
  have heqN12HZ := eq_true N12.out HZ.out (ring_neg A)
  apply AnyC.take (i := 26) rfl (by kernel_rfl) rfl
  · intro w' hC K hK
    go_wp2
    exact hK
  · rfl
  apply AnyC.take (i := 27) rfl (by kernel_rfl) rfl
  · intro w' hC K hK
    go_wp2
    exact hK
  · rfl
  refine AnyC.done L12.out (by kernel_rfl) ?_
  go_wp2
  refine AnyC.startB (Lb [(w2.heap.size, zs), (w.heap.size, xs), (w.heap.size + 1, ys), (w.heap.size + 2, us)]) (by kernel_rfl) rfl ?_
  intro w13 hb13 _
  have L13 : Hid (Lb [(w2.heap.size, zs), (w.heap.size, xs), (w.heap.size + 1, ys), (w.heap.size + 2, us)] w13) := L12.out.below hb13
  have B13 : Hid (Below w.heap.size w w13) := B12.out.trans (hb13.mono B12.out.size)
  clear hb13
  apply AnyC.take (i := 0) rfl (by kernel_rfl) rfl
  · intro w' hC K hK
    refine wpList_load_box hC (by kernel_rfl) _ rfl (w.heap.size) xs (by simp) HX.out.size rfl rfl ?_
    go_wp2
    exact hK
  · rfl
  apply AnyC.take (i := 5) rfl (by kernel_rfl) rfl
  · intro w' hC K hK
    refine wpList_load_box hC (by kernel_rfl) _ rfl (w.heap.size) xs (by simp) HX.out.size rfl rfl ?_
    go_wp2
    exact hK
  · rfl
  apply AnyC.take (i := 1) rfl (by kernel_rfl) rfl
  · intro w' hC K hK
    refine wpList_load_box hC (by kernel_rfl) _ rfl (w.heap.size + 1) ys (by simp) HY.out.size rfl rfl ?_
    go_wp2
    exact hK
  · rfl
  apply AnyC.take (i := 4) rfl (by kernel_rfl) rfl
  · intro w' hC K hK
    refine wpList_load_box hC (by kernel_rfl) _ rfl (w.heap.size + 1) ys (by simp) HY.out.size rfl rfl ?_
    go_wp2
    exact hK
  · rfl
  apply AnyC.take (i := 2) rfl (by kernel_rfl) rfl
  · intro w' hC K hK
    refine wpList_load_box hC (by kernel_rfl) _ rfl (w.heap.size + 2) us (by simp) HU.out.size rfl rfl ?_
    go_wp2
    exact hK
  · rfl
  apply AnyC.take (i := 8) rfl (by kernel_rfl) rfl
  · intro w' hC K hK
    refine wpList_load_box hC (by kernel_rfl) _ rfl (w.heap.size + 2) us (by simp) HU.out.size rfl rfl ?_
    go_wp2
    exact hK
  · rfl
  apply AnyC.take (i := 6) rfl (by kernel_rfl) rfl
  · intro w' hC K hK
    refine wpList_load_box hC (by kernel_rfl) _ rfl (w2.heap.size) zs (by simp) HZ.out.size rfl rfl ?_
    go_wp2
    exact hK
  · rfl
  apply AnyC.solo (i := 3) rfl (by kernel_rfl) L13.out
  go_wp2_with (go_at_call 9; go_must (refine (MulAdd_n HX.out HY.out HU.out _ (Ho.out.below B13.out)).mono ?_; rintro e w14 ⟨r14, rfl, hn, hb⟩; have N14 := Lib.hid hn; have L14 := Lib.hid (L13.out.below hb); have B14 := Lib.hid (B13.out.trans (hb.mono B13.out.size)); clear hn hb))
  refine ⟨rfl, ?_⟩
  apply AnyC.solo (i := 7) rfl (by kernel_rfl) L14.out
  go_wp2_with (go_at_call 9; go_must (refine (MulAdd_n HY.out HX.out HZ.out _ (Ho.out.below B14.out)).mono ?_; rintro e w15 ⟨r15, rfl, hn, hb⟩; have N15 := Lib.hid hn; have L15 := Lib.hid (L14.out.below hb); have B15 := Lib.hid (B14.out.trans (hb.mono B14.out.size)); clear hn hb))
  refine ⟨rfl, ?_⟩
  apply AnyC.solo (i := 9) rfl (by kernel_rfl) L15.out
  go_wp2_with (go_at_call 10; go_must (refine (Add_n N15.out HU.out _ (Ho.out.below B15.out)).mono ?_; rintro e w16 ⟨r16, rfl, hn, hb⟩; have N16 := Lib.hid hn; have L16 := Lib.hid (L15.out.below hb); have B16 := Lib.hid (B15.out.trans (hb.mono B15.out.size)); clear hn hb))
  refine ⟨rfl, ?_⟩
  have heqN14N16 := eq_true N14.out N16.out (ring_mul A B C)
  apply AnyC.take (i := 10) rfl (by kernel_rfl) rfl
  · intro w' hC K hK
    go_wp2
    exact hK
  · rfl
  apply AnyC.take (i := 11) rfl (by kernel_rfl) rfl
  · intro w' hC K hK
    go_wp2
    exact hK
  · rfl
  apply AnyC.take (i := 12) rfl (by kernel_rfl) rfl
  · intro w' hC K hK
    refine wpList_load_box hC (by kernel_rfl) _ rfl (w.heap.size) xs (by simp) HX.out.size rfl rfl ?_
    go_wp2
    exact hK
  · rfl
  apply AnyC.take (i := 18) rfl (by kernel_rfl) rfl
  · intro w' hC K hK
    refine wpList_load_box hC (by kernel_rfl) _ rfl (w.heap.size) xs (by simp) HX.out.size rfl rfl ?_
    go_wp2
    exact hK
  · rfl
  apply AnyC.take (i := 22) rfl (by kernel_rfl) rfl
  · intro w' hC K hK
    refine wpList_load_box hC (by kernel_rfl) _ rfl (w.heap.size) xs (by simp) HX.out.size rfl rfl ?_
    go_wp2
    exact hK
  · rfl
  apply AnyC.take (i := 13) rfl (by kernel_rfl) rfl
  · intro w' hC K hK
    refine wpList_load_box hC (by kernel_rfl) _ rfl (w.heap.size + 1) ys (by simp) HY.out.size rfl rfl ?_
    go_wp2
    exact hK
  · rfl
  apply AnyC.take (i := 19) rfl (by kernel_rfl) rfl
  · intro w' hC K hK
    refine wpList_load_box hC (by kernel_rfl) _ rfl (w.heap.size + 1) ys (by simp) HY.out.size rfl rfl ?_
    go_wp2
    exact hK
  · rfl
  apply AnyC.take (i := 14) rfl (by kernel_rfl) rfl
  · intro w' hC K hK
    refine wpList_load_box hC (by kernel_rfl) _ rfl (w.heap.size + 2) us (by simp) HU.out.size rfl rfl ?_
    go_wp2
    exact hK
  · rfl
  apply AnyC.take (i := 23) rfl (by kernel_rfl) rfl
  · intro w' hC K hK
    refine wpList_load_box hC (by kernel_rfl) _ rfl (w.heap.size + 2) us (by simp) HU.out.size rfl rfl ?_
    go_wp2
    exact hK
  · rfl
  apply AnyC.take (i := 16) rfl (by kernel_rfl) rfl
  · intro w' hC K hK
    refine wpList_load_box hC (by kernel_rfl) _ rfl (w2.heap.size) zs (by simp) HZ.out.size rfl rfl ?_
    go_wp2
    exact hK
  · rfl
  apply AnyC.take (i := 20) rfl (by kernel_rfl) rfl
  · intro w' hC K hK
    refine wpList_load_box hC (by kernel_rfl) _ rfl (w2.heap.size) zs (by simp) HZ.out.size rfl rfl ?_
    go_wp2
    exact hK
  · rfl
  apply AnyC.take (i := 24) rfl (by kernel_rfl) rfl
  · intro w' hC K hK
    refine wpList_load_box hC (by kernel_rfl) _ rfl (w2.heap.size) zs (by simp) HZ.out.size rfl rfl ?_
    go_wp2
    exact hK
  · rfl
  apply AnyC.solo (i := 15) rfl (by kernel_rfl) L16.out
  go_wp2_with (go_at_call 10; go_must (refine (Add_n HY.out HU.out _ (Ho.out.below B16.out)).mono ?_; rintro e w17 ⟨r17, rfl, hn, hb⟩; have N17 := Lib.hid hn; have L17 := Lib.hid (L16.out.below hb); have B17 := Lib.hid (B16.out.trans (hb.mono B16.out.size)); clear hn hb))
  refine ⟨rfl, ?_⟩
  apply AnyC.solo (i := 17) rfl (by kernel_rfl) L17.out
  go_wp2_with (go_at_call 9; go_must (refine (MulAdd_n HX.out N17.out HZ.out _ (Ho.out.below B17.out)).mono ?_; rintro e w18 ⟨r18, rfl, hn, hb⟩; have N18 := Lib.hid hn; have L18 := Lib.hid (L17.out.below hb); have B18 := Lib.hid (B17.out.trans (hb.mono B17.out.size)); clear hn hb))
  refine ⟨rfl, ?_⟩
  apply AnyC.solo (i := 21) rfl (by kernel_rfl) L18.out
  go_wp2_with (go_at_call 9; go_must (refine (MulAdd_n HX.out HY.out HZ.out _ (Ho.out.below B18.out)).mono ?_; rintro e w19 ⟨r19, rfl, hn, hb⟩; have N19 := Lib.hid hn; have L19 := Lib.hid (L18.out.below hb); have B19 := Lib.hid (B18.out.trans (hb.mono B18.out.size)); clear hn hb))
  refine ⟨rfl, ?_⟩
  apply AnyC.solo (i := 25) rfl (by kernel_rfl) L19.out
  go_wp2_with (go_at_call 9; go_must (refine (MulAdd_n HX.out HU.out HZ.out _ (Ho.out.below B19.out)).mono ?_; rintro e w20 ⟨r20, rfl, hn, hb⟩; have N20 := Lib.hid hn; have L20 := Lib.hid (L19.out.below hb); have B20 := Lib.hid (B19.out.trans (hb.mono B19.out.size)); clear hn hb))
  refine ⟨rfl, ?_⟩
  apply AnyC.solo (i := 26) rfl (by kernel_rfl) L20.out
  go_wp2_with (go_at_call 10; go_must (refine (Add_n N19.out N20.out _ (Ho.out.below B20.out)).mono ?_; rintro e w21 ⟨r21, rfl, hn, hb⟩; have N21 := Lib.hid hn; have L21 := Lib.hid (L20.out.below hb); have B21 := Lib.hid (B20.out.trans (hb.mono B20.out.size)); clear hn hb))
  refine ⟨rfl, ?_⟩
  have heqN18N21 := eq_true N18.out N21.out (ring_dist A B C)
  apply AnyC.take (i := 27) rfl (by kernel_rfl) rfl
  · intro w' hC K hK
    go_wp2
    exact hK
  · rfl
  apply AnyC.take (i := 28) rfl (by kernel_rfl) rfl
  · intro w' hC K hK
    go_wp2
    exact hK
  · rfl
  apply AnyC.take (i := 29) rfl (by kernel_rfl) rfl
  · intro w' hC K hK
    go_wp2
    exact hK
  · rfl
  refine AnyC.done L21.out (by kernel_rfl) ?_
  go_wp2
  refine bodyPost_ret (v := .bool true) (by simp [results, Tryd.results4]) rfl ⟨rfl, B21.out⟩
end Go.Proofs.YtagjeideohplpaaDoor
