/- The walk of ScalarCanonical. No conditions. -/
import Derived.Test.YtagjeideohplpaaDoorS13
namespace Go.Proofs.YtagjeideohplpaaDoor
open Go.RowKit
set_option maxRecDepth 100000 in
set_option maxHeartbeats 2000000 in
theorem canon_any {xs ys : Array Value} {A B : Nat} (hx : Num xs A) (hy : Num ys B) (w : World) (ho : Ord w) : Calls Tryd.prog 5 #[.agg xs, .agg ys] w (fun e w' => e = .returned (.bool true) ∧ Below w.heap.size w w') := by
  obtain ⟨zs, hz, hz32⟩ := zeroN
  have HX := Lib.hid hx
  have HY := Lib.hid hy
  have HZ := Lib.hid hz
  have L2 := Lib.hid (Lb.two (w := w) (xs := xs) (ys := ys))
  have Ho := Lib.hid ho
  clear hx hy hz ho
  go_enter Tryd.func5, Tryd.ntmps5
  go_wp2_with (first
    | (go_at_call 7; go_must (refine (awake_any _ (Ho.out.below L2.out.2.1)).mono ?_; rintro e w2 ⟨rfl, hb2⟩; have F2 : Hid (Lb [(w.heap.size, xs), (w.heap.size + 1, ys)] w2 ∧ Below w.heap.size w w2) := ⟨L2.out.1.below hb2, L2.out.2.1.trans (hb2.mono L2.out.2.1.size)⟩; clear hb2))
    | (refine wpList_store_mid rfl _ _ _ rfl w2.heap.size 0 zs rfl rfl (there_new w2 zs _ _ (Nat.le_refl _)) (by rw [HZ.out.size]; kernel_rfl) HZ.out.cells ?_))
  simp only [Act.put]
  have L3 : Hid (Lb [(w2.heap.size, zs), (w.heap.size, xs), (w.heap.size + 1, ys)] ((w2.alloc (.cells zs 22)).setCells w2.heap.size 0 zs.toList)) := Lb.push F2.out.1 rfl
  have B3 : Hid (Below w.heap.size w ((w2.alloc (.cells zs 22)).setCells w2.heap.size 0 zs.toList)) := below_setCells _ _ _ (F2.out.2.alloc F2.out.2.size _) F2.out.2.size
  refine AnyC.startB (Lb [(w2.heap.size, zs), (w.heap.size, xs), (w.heap.size + 1, ys)]) (by kernel_rfl) rfl ?_
  intro w4 hb4 _
  have L4 : Hid (Lb [(w2.heap.size, zs), (w.heap.size, xs), (w.heap.size + 1, ys)] w4) := L3.out.below hb4
  have B4 : Hid (Below w.heap.size w w4) := B3.out.trans (hb4.mono B3.out.size)
  clear hb4 L3 B3 F2
  apply AnyC.take (i := 0) rfl (by kernel_rfl) rfl
  · intro w' hC K hK
    refine wpList_load_box hC (by kernel_rfl) _ rfl (w.heap.size) xs (by simp) HX.out.size rfl ?_
    go_wp2
    exact hK
  · rfl
  apply AnyC.take (i := 3) rfl (by kernel_rfl) rfl
  · intro w' hC K hK
    refine wpList_load_box hC (by kernel_rfl) _ rfl (w.heap.size) xs (by simp) HX.out.size rfl ?_
    go_wp2
    exact hK
  · rfl
  apply AnyC.take (i := 1) rfl (by kernel_rfl) rfl
  · intro w' hC K hK
    refine wpList_load_box hC (by kernel_rfl) _ rfl (w2.heap.size) zs (by simp) HZ.out.size rfl ?_
    go_wp2
    exact hK
  · rfl
  apply AnyC.solo (i := 2) rfl (by kernel_rfl) L4.out
  go_wp2_with (go_at_call 10; go_must (refine (Add_n HX.out HZ.out _ (Ho.out.below B4.out)).mono ?_; rintro e w5 ⟨r5, rfl, hn, hb⟩; have N5 := Lib.hid hn; have L5 := Lib.hid (L4.out.below hb); have B5 := Lib.hid (B4.out.trans (hb.mono B4.out.size)); clear hn hb))
  refine ⟨rfl, ?_⟩
  obtain ⟨bb, hbb⟩ : ∃ bb, decide (A < ordN) = bb := ⟨_, rfl⟩
  have hq : ∀ w, (Op.equalIn 10000 22 (.agg r5) (.agg xs)).run Tryd.prog w = .ok bb w := fun w => by
    rw [eq_n N5.out HX.out w, ← hbb, Nat.add_zero]
    congr 1
    by_cases h : A < ordN
    · rw [decide_eq_true h, decide_eq_true (Nat.mod_eq_of_lt h)]
    · have h2 := Nat.mod_lt A ordN_pos
      rw [decide_eq_false h, decide_eq_false (fun e => h (by rw [← e]; exact h2))]
  have Hbb := Lib.hid hbb
  clear hbb
  apply AnyC.take (i := 4) rfl (by kernel_rfl) rfl
  · intro w' hC K hK
    go_wp2
    exact hK
  · rfl
  apply AnyC.take (i := 5) rfl (by kernel_rfl) rfl
  · intro w' hC K hK
    go_wp2
    exact hK
  · rfl
  refine AnyC.done L5.out (by kernel_rfl) ?_
  go_wp2_with (first
    | (refine wpList_load_box (bs := [(w2.heap.size, zs), (w.heap.size, xs), (w.heap.size + 1, ys)]) (Hid.out (by assumption)) (by kernel_rfl) _ rfl w.heap.size xs (by simp) HX.out.size rfl ?_)
    | (refine wpList_load_box (bs := [(w2.heap.size, zs), (w.heap.size, xs), (w.heap.size + 1, ys)]) (Hid.out (by assumption)) (by kernel_rfl) _ rfl (w.heap.size + 1) ys (by simp) HY.out.size rfl ?_)
    | (go_at_call 10; go_must (refine (Add_n HX.out HY.out _ (Ho.out.below B5.out)).mono ?_; rintro e w6 ⟨r6, rfl, hn, hb⟩; have N6 := Lib.hid hn; have L6 := Lib.hid (L5.out.below hb); have B6 := Lib.hid (B5.out.trans (hb.mono B5.out.size)); clear hn hb))
    | (go_at_call 11; go_must (refine (Neg_n HX.out _ (Ho.out.below B7.out)).mono ?_; rintro e w8 ⟨r8, rfl, hn, hb⟩; have N8 := Lib.hid hn; have L8 := Lib.hid (L7.out.below hb); have B8 := Lib.hid (B7.out.trans (hb.mono B7.out.size)); clear hn hb))
    | (go_at_call 9; go_must (refine (MulAdd_n HX.out HY.out HX.out _ (Ho.out.below B9.out)).mono ?_; rintro e w10 ⟨r10, rfl, hn, hb⟩; have N10 := Lib.hid hn; have L10 := Lib.hid (L9.out.below hb); have B10 := Lib.hid (B9.out.trans (hb.mono B9.out.size)); clear hn hb))
    | (go_at_call 12; go_must (first
      | (have h_ := Canonical_n HX.out w11 (Ho.out.below B11.out); rw [Hbb.out] at h_; refine h_.mono ?_; rintro e w12 ⟨rfl, hb⟩; have B12 := Lib.hid (B11.out.trans (hb.mono B11.out.size)); clear hb h_)
      | (have h_ := Canonical_n N10.out w10 (Ho.out.below B10.out); rw [decide_eq_true (Nat.mod_lt _ ordN_pos)] at h_; refine h_.mono ?_; rintro e w11 ⟨rfl, hb⟩; have L11 := Lib.hid (L10.out.below hb); have B11 := Lib.hid (B10.out.trans (hb.mono B10.out.size)); clear hb h_)
      | (have h_ := Canonical_n N8.out w8 (Ho.out.below B8.out); rw [decide_eq_true (show negN A < ordN from Nat.mod_lt _ ordN_pos)] at h_; refine h_.mono ?_; rintro e w9 ⟨rfl, hb⟩; have L9 := Lib.hid (L8.out.below hb); have B9 := Lib.hid (B8.out.trans (hb.mono B8.out.size)); clear hb h_)
      | (have h_ := Canonical_n N6.out w6 (Ho.out.below B6.out); rw [decide_eq_true (Nat.mod_lt _ ordN_pos)] at h_; refine h_.mono ?_; rintro e w7 ⟨rfl, hb⟩; have L7 := Lib.hid (L6.out.below hb); have B7 := Lib.hid (B6.out.trans (hb.mono B6.out.size)); clear hb h_))))
  all_goals refine bodyPost_ret (v := .bool true) (by simp [results, Tryd.results5]) rfl ⟨rfl, B12.out⟩
end Go.Proofs.YtagjeideohplpaaDoor
