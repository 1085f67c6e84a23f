/- The reference: Canonical, Reduce, Add, Neg. Printed by wip/genS20.py. No conditions. -/
import Derived.Test.YtagjeideohplpaaDoorS19
namespace Go.Proofs.YtagjeideohplpaaDoor
open Go.RowKit
set_option maxRecDepth 100000 in
set_option maxHeartbeats 1000000 in
theorem Reduce48_any (l : List UInt8) (hl : l.length = 64) (w : World) : Calls Tryd.prog 14 #[.agg (bvs l).toArray] w (BytesPost (toB (leN l % ordN)) w) := by
  obtain ⟨zs, hzz, hz32⟩ := zero32
  obtain ⟨xs, hxs⟩ : ∃ xs : Array Value, xs = (bvs l).toArray := ⟨_, rfl⟩
  rw [← hxs]
  have Hb : Hid (Below w.heap.size w ((w.alloc (.cells xs 24)).alloc (.cells zs 22))) := ((Below.refl _ _).alloc (Nat.le_refl _) _).alloc (by simp) _
  have Hth : Hid (((w.alloc (.cells xs 24)).alloc (.cells zs 22)).there (w.heap.size + 1) 0 32) := by
    have h1 := there_new (w.alloc (.cells xs 24)) zs 22 32 (by omega)
    rw [show (w.alloc (.cells xs 24)).heap.size = w.heap.size + 1 from by simp] at h1
    exact h1
  have Hr : Hid (Reads ((w.alloc (.cells xs 24)).alloc (.cells zs 22)) ((w.alloc (.cells xs 24)).alloc (.cells zs 22)).heap.size 1 (some ⟨w.heap.size, 0, none⟩) l.length (bvs l)) := by
    rw [hxs]
    exact reads_box w l _ ((Below.refl _ _).alloc (by simp) _)
  have Hl := Lib.hid hl
  have Hxs := Lib.hid hxs
  clear hl hxs
  go_enter Tryd.func14, Tryd.ntmps14
  go_wp2_with (first
    | (go_at_call 29; go_must (have h_ := mod_any (c := 64) l ⟨by rw [Hl.out]; omega, by rw [Hl.out]; omega⟩ _ Hr.out; rw [Hl.out] at h_; refine h_.mono ?_; rintro e w2 ⟨d, rfl, hd, hdv, hb2⟩; have H2 := Lib.hid (And.intro hd hdv); have HB2 := Lib.hid hb2; clear hd hdv hb2))
    | (go_at_call 28; go_must (refine (bytesOf_any d H2.out.1 _).mono ?_; rintro e w3 ⟨rfl, hb3⟩; rw [byteW_val H2.out.1, H2.out.2]; have HB3 := Lib.hid hb3; clear hb3; obtain ⟨cs, hcs⟩ : ∃ cs, (bvs (toB (leN l % ordN))).toArray = cs := ⟨_, rfl⟩; rw [hcs]; have Hcs := Lib.hid hcs; have Hcz : Hid (cs.size = 32) := (by show cs.size = 32; rw [← hcs]; simp [bvs_length, toB_length]); have Hth3 := Lib.hid (there_below (there_below Hth.out (by simp) HB2.out) (by have h_ := HB2.out.size; simp at h_; omega) HB3.out); clear hcs))
    | (refine wpList_store_mid rfl _ _ _ rfl (w.heap.size + 1) 0 cs rfl rfl (by rw [Hcz.out]; exact Hth3.out) (by rw [Hcz.out]; kernel_rfl) (by rw [← Hcs.out]; exact all_oneCell_toArray (bvs_one _)) ?_))
  have hld := ret32 Hth3.out Hcz.out
  refine bodyPost_ret (v := .agg cs) (by simp [results, Tryd.results14, Act.put, asAddr, hld]) rfl ⟨by rw [← Hcs.out], ?_⟩
  exact below_setCells _ _ _ ((Hb.out.trans (HB2.out.mono Hb.out.size)).trans (HB3.out.mono (Nat.le_trans Hb.out.size HB2.out.size))) (by omega)
set_option maxRecDepth 100000 in
set_option maxHeartbeats 1000000 in
theorem Add48_any (l m : List UInt8) (hl : l.length = 32) (hm : m.length = 32) (w : World) : Calls Tryd.prog 15 #[.agg (bvs l).toArray, .agg (bvs m).toArray] w (BytesPost (toB ((leN l + leN m) % ordN)) w) := by
  obtain ⟨zs, hzz, hz32⟩ := zero32
  obtain ⟨xs, hxs⟩ : ∃ xs : Array Value, xs = (bvs l).toArray := ⟨_, rfl⟩
  obtain ⟨ys, hys⟩ : ∃ ys : Array Value, ys = (bvs m).toArray := ⟨_, rfl⟩
  rw [← hxs, ← hys]
  have F : Hid (Below w.heap.size w (((w.alloc (.cells xs 22)).alloc (.cells ys 22)).alloc (.cells zs 22)) ∧
      (((w.alloc (.cells xs 22)).alloc (.cells ys 22)).alloc (.cells zs 22)).heap[w.heap.size]? = some (.cells (bvs l).toArray 22) ∧
      (((w.alloc (.cells xs 22)).alloc (.cells ys 22)).alloc (.cells zs 22)).heap[w.heap.size + 1]? = some (.cells (bvs m).toArray 22) ∧
      (((w.alloc (.cells xs 22)).alloc (.cells ys 22)).alloc (.cells zs 22)).there (w.heap.size + 2) 0 32) := by
    refine ⟨(((Below.refl _ _).alloc (Nat.le_refl _) _).alloc (by simp) _).alloc (by simp; omega) _, ?_, ?_, ?_⟩
    · rw [Below.heap_alloc _ _ _ (by simp; omega), Below.heap_alloc _ _ _ (by simp), hxs]; exact heap_alloc_new w _
    · rw [Below.heap_alloc _ _ _ (by simp), hys]
      have h1 := heap_alloc_new (w.alloc (.cells xs 22)) (.cells (bvs m).toArray 22)
      rw [show (w.alloc (.cells xs 22)).heap.size = w.heap.size + 1 from by simp] at h1
      exact h1
    · have h1 := there_new ((w.alloc (.cells xs 22)).alloc (.cells ys 22)) zs 22 32 (by omega)
      rw [show ((w.alloc (.cells xs 22)).alloc (.cells ys 22)).heap.size = w.heap.size + 2 from by simp] at h1
      exact h1
  have Hl := Lib.hid hl
  have Hm := Lib.hid hm
  have Hxs := Lib.hid hxs
  have Hys := Lib.hid hys
  have Hzs := Lib.hid hzz
  clear hl hm hxs hys hzz
  go_enter Tryd.func15, Tryd.ntmps15
  go_wp2
  refine AnyC.startB (fun _ => True) (by kernel_rfl) rfl ?_
  intro w4 hb4 hs4
  have F4 : Hid (Below w.heap.size w w4 ∧ w4.heap[w.heap.size]? = some (.cells (bvs l).toArray 22) ∧ w4.heap[w.heap.size + 1]? = some (.cells (bvs m).toArray 22) ∧ w4.there (w.heap.size + 2) 0 32 ∧ w.heap.size + 3 = w4.heap.size) :=
    ⟨F.out.1.trans (hb4.mono F.out.1.size), heap_below F.out.2.1 hb4, heap_below F.out.2.2.1 hb4, there_below F.out.2.2.2 (by simp) hb4, by rw [hs4]; simp⟩
  clear hb4 hs4 F
  apply AnyC.take (i := 0) rfl (by kernel_rfl) rfl
  · intro w' hC K hK
    go_wp2
    exact hK
  · rfl
  apply AnyC.take (i := 2) rfl (by kernel_rfl) rfl
  · intro w' hC K hK
    go_wp2
    exact hK
  · rfl
  apply AnyC.solo (i := 1) rfl (by kernel_rfl) trivial
  go_wp2_with (go_at_call 29; go_must (have h_ := mod_any (c := 32) l ⟨by rw [Hl.out]; omega, by rw [Hl.out]; omega⟩ _ (reads_row F4.out.2.1); rw [Hl.out] at h_; refine h_.mono ?_; rintro e w5 ⟨x, rfl, hx, hxv, hb5⟩; have X5 := Lib.hid (And.intro hx (And.intro hxv hb5)); clear hx hxv hb5))
  refine ⟨rfl, ?_⟩
  apply AnyC.solo (i := 3) rfl (by kernel_rfl) trivial
  go_wp2_with (go_at_call 29; go_must (have h_ := mod_any (c := 32) m ⟨by rw [Hm.out]; omega, by rw [Hm.out]; omega⟩ _ (reads_row (heap_below F4.out.2.2.1 X5.out.2.2)); rw [Hm.out] at h_; refine h_.mono ?_; rintro e w6 ⟨y, rfl, hy, hyv, hb6⟩; have Y6 := Lib.hid (And.intro hy (And.intro hyv (X5.out.2.2.trans (hb6.mono X5.out.2.2.size)))); clear hy hyv hb6))
  refine ⟨rfl, ?_⟩
  apply AnyC.solo (i := 4) rfl (by kernel_rfl) trivial
  go_wp2_with (go_at_call 30; go_must (refine (plus_any x y X5.out.1 Y6.out.1 (by rw [X5.out.2.1]; exact Nat.mod_lt _ ordN_pos) (by rw [Y6.out.2.1]; exact Nat.mod_lt _ ordN_pos) _).mono ?_; rintro e w8 ⟨f, rfl, hf, hfv, hb8⟩; have E8 := Lib.hid (And.intro hf (And.intro (hfv.trans (by rw [X5.out.2.1, Y6.out.2.1, mod_twice])) (Y6.out.2.2.trans (hb8.mono Y6.out.2.2.size)))); clear hf hfv hb8))
  refine ⟨rfl, ?_⟩
  apply AnyC.solo (i := 5) rfl (by kernel_rfl) trivial
  go_wp2_with (go_at_call 28; go_must (refine (bytesOf_any f E8.out.1 _).mono ?_; rintro e w9 ⟨rfl, hb9⟩; rw [byteW_val E8.out.1, E8.out.2.1]; have B9 := Lib.hid (E8.out.2.2.trans (hb9.mono E8.out.2.2.size)); clear hb9; obtain ⟨cs, hcs⟩ : ∃ cs, (bvs (toB ((leN l + leN m) % ordN))).toArray = cs := ⟨_, rfl⟩; rw [hcs]; have Hcs := Lib.hid hcs; have Hcz : Hid (cs.size = 32) := (by show cs.size = 32; rw [← hcs]; simp [bvs_length, toB_length]); have Hth := Lib.hid (there_below F4.out.2.2.2.1 (by have h_ := F4.out.2.2.2.2; omega) B9.out); clear hcs))
  refine ⟨rfl, ?_⟩
  apply AnyC.solo (i := 6) rfl (by kernel_rfl) trivial
  go_wp2_with (refine wpList_store_mid rfl _ _ _ rfl (w.heap.size + 2) 0 cs rfl rfl (by rw [Hcz.out]; exact Hth.out) (by rw [Hcz.out]; kernel_rfl) (by rw [← Hcs.out]; exact all_oneCell_toArray (bvs_one _)) ?_)
  refine ⟨rfl, ?_⟩
  refine AnyC.done trivial (by kernel_rfl) ?_
  go_wp2
  have hld := ret32 Hth.out Hcz.out
  refine bodyPost_ret (v := .agg cs) (by simp [results, Tryd.results15, asAddr, hld]) rfl ⟨by rw [← Hcs.out], ?_⟩
  exact below_setCells _ _ _ (F4.out.1.trans (B9.out.mono F4.out.1.size)) (by omega)
set_option maxRecDepth 100000 in
set_option maxHeartbeats 1000000 in
theorem Canonical48_any (l : List UInt8) (hl : l.length = 32) (w : World) : Calls Tryd.prog 13 #[.agg (bvs l).toArray] w (fun e w' => e = .returned (.bool (decide (leN l < ordN))) ∧ Below w.heap.size w w') := by
  obtain ⟨xs, hxs⟩ : ∃ xs : Array Value, xs = (bvs l).toArray := ⟨_, rfl⟩
  rw [← hxs]
  have hX : (w.alloc (.cells xs 22)).heap[w.heap.size]? = some (.cells (bvs l).toArray 22 (0, 0)) := by rw [hxs]; exact heap_alloc_new w _
  have F : Hid (Below w.heap.size w (w.alloc (.cells xs 22)) ∧ (w.alloc (.cells xs 22)).heap[w.heap.size]? = some (.cells (bvs l).toArray 22 (0, 0))) := ⟨(Below.refl _ _).alloc (Nat.le_refl _) _, hX⟩
  have Hl := Lib.hid hl
  clear hl hxs hX
  obtain ⟨bb, hbb⟩ : ∃ bb : Bool, bb = decide (leN l < ordN) := ⟨_, rfl⟩
  have Hbb := Lib.hid hbb
  clear hbb
  go_enter Tryd.func13, Tryd.ntmps13
  go_wp2_with (first
    | (go_at_call 26; go_must (have h_ := from_any (c := 32) l Hl.out _ (reads_row F.out.2); refine h_.mono ?_; rintro e w2 ⟨x, rfl, hx, hxv, hb2⟩; have X2 := Lib.hid (And.intro hx (And.intro hxv (F.out.1.trans (hb2.mono F.out.1.size)))); clear hx hxv hb2))
    | (go_at_call 27; go_must (refine (order_any w2).mono ?_; rintro e w3 ⟨rfl, hb⟩; have B3 := Lib.hid (X2.out.2.2.trans (hb.mono X2.out.2.2.size)); clear hb))
    | (go_at_call 25; go_must (have h_ := below_any x ordW X2.out.1 ordW_ok w3; rw [ordW_val, X2.out.2.1, ← Hbb.out] at h_; refine h_.mono ?_; rintro e w4 ⟨rfl, hb⟩; have B4 := Lib.hid (B3.out.trans (hb.mono B3.out.size)); clear hb h_)))
  refine bodyPost_ret (v := .bool bb) (by simp [results, Tryd.results13]) rfl ⟨by rw [Hbb.out], B4.out⟩
end Go.Proofs.YtagjeideohplpaaDoor
