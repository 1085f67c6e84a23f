/- The walk of ScalarAll. Printed by wip/genS22.py. No conditions. -/
import Derived.Test.YtagjeideohplpaaDoorS21
namespace Go.Proofs.YtagjeideohplpaaDoor
open Go.RowKit
theorem Add48_n {xs ys : Array Value} {a b : Nat} (hx : Num xs a) (hy : Num ys b) (w : World) : Calls Tryd.prog 15 #[.agg xs, .agg ys] w (NumRet ((a + b) % ordN) w) := by
  obtain ⟨l, hl, rfl, rfl⟩ := hx
  obtain ⟨m, hm, rfl, rfl⟩ := hy
  exact (Add48_any l m hl hm w).mono fun _ _ h => NumRet.of (mod_lt_full _) h
theorem Neg48_n {xs : Array Value} {a : Nat} (hx : Num xs a) (w : World) : Calls Tryd.prog 16 #[.agg xs] w (NumRet (negN a) w) := by
  obtain ⟨l, hl, rfl, rfl⟩ := hx
  exact (Neg48_any l hl w).mono fun _ _ h => NumRet.of (mod_lt_full _) h
theorem MulAdd48_n {xs ys us : Array Value} {a b c : Nat} (hx : Num xs a) (hy : Num ys b) (hu : Num us c) (w : World) : Calls Tryd.prog 17 #[.agg xs, .agg ys, .agg us] w (NumRet ((a * b + c) % ordN) w) := by
  obtain ⟨l, hl, rfl, rfl⟩ := hx
  obtain ⟨m, hm, rfl, rfl⟩ := hy
  obtain ⟨o, hn, rfl, rfl⟩ := hu
  exact (MulAdd48_any l m o hl hm hn w).mono fun _ _ h => NumRet.of (mod_lt_full _) h
theorem Canonical48_n {xs : Array Value} {a : Nat} (hx : Num xs a) (w : World) : Calls Tryd.prog 13 #[.agg xs] w (fun e w' => e = .returned (.bool (decide (a < ordN))) ∧ Below w.heap.size w w') := by
  obtain ⟨l, hl, rfl, rfl⟩ := hx
  exact Canonical48_any l hl w
theorem Reduce48_n (l : List UInt8) (hl : l.length = 64) {n : Nat} (hn : leN l = n) (w : World) : Calls Tryd.prog 14 #[.agg (bvs l).toArray] w (NumRet (n % ordN) w) := by
  subst hn
  exact (Reduce48_any l hl w).mono fun _ _ h => NumRet.of (mod_lt_full _) h
theorem wpList_load_box64 {ops : Array Oper} {rest : List Oper} {op : Oper} {a : Act} {w : World} {Q : Exit → Act → World → Prop} {bs : List (Nat × Array Value)} (hC : Lb bs w) (hw : Region.wanted op (yielded ops a.tmps) = true) (x : Operand) (ho : op.op = .load 24 x)
    (b : Nat) (xs : Array Value) (hm : (b, xs) ∈ bs) (hs : xs.size = 64) (hx : a.eval x = .pointer (some ⟨b, 0, none⟩)) {d : Nat} (hd : op.dst = some d)
    (h : wpList Tryd.prog ops Q rest { a with tmps := a.tmps.setIfInBounds d (.agg xs) } w) : wpList Tryd.prog ops Q (op :: rest) a w := by
  unfold wpList
  rw [if_pos hw]
  refine .inl (wp_load_mid 24 x ho b 0 hx xs.toList _ (hC.range hm) Tryd.underlying24 rfl (by rw [Array.length_toList, hs]; kernel_rfl) ?_)
  rw [Array.toArray_toList, hd]
  exact h
/-- The boxes of the four arguments. -/
theorem Lb.four {w : World} {xs ys us vs : Array Value} : Lb [(w.heap.size, xs), (w.heap.size + 1, ys), (w.heap.size + 2, us), (w.heap.size + 3, vs)] ((((w.alloc (.cells xs 22)).alloc (.cells ys 22)).alloc (.cells us 22)).alloc (.cells vs 24)) ∧ Below w.heap.size w ((((w.alloc (.cells xs 22)).alloc (.cells ys 22)).alloc (.cells us 22)).alloc (.cells vs 24)) := by
  obtain ⟨h1, h2, h3⟩ := Lb.three (w := w) (xs := xs) (ys := ys) (us := us)
  generalize ((w.alloc (.cells xs 22)).alloc (.cells ys 22)).alloc (.cells us 22) = v at *
  refine ⟨fun e he => ?_, h2.alloc h2.size _⟩
  have hb : Below v.heap.size v (v.alloc (.cells vs 24)) := (Below.refl _ _).alloc (Nat.le_refl _) _
  by_cases hl : e = (w.heap.size + 3, vs)
  · subst hl
    rw [← h3]
    exact ⟨by simp, range_row (heap_alloc_new v _)⟩
  · refine (h1.below hb) e ?_
    simp only [List.mem_cons, List.not_mem_nil, or_false] at he ⊢
    rcases he with h | h | h | h
    · exact .inl h
    · exact .inr (.inl h)
    · exact .inr (.inr h)
    · exact absurd h hl
set_option maxRecDepth 100000 in
set_option maxHeartbeats 8000000 in
theorem all_n {xs ys us : Array Value} {A B C : Nat} (l : List UInt8) (hx : Num xs A) (hy : Num ys B) (hu : Num us C) (hl : l.length = 64) (w : World) (ho : Ord w) : Calls Tryd.prog 6 #[.agg xs, .agg ys, .agg us, .agg (bvs l).toArray] w (fun e w' => e = .returned (.bool true) ∧ Below w.heap.size w w') := by
  have HX := Lib.hid hx
  have HY := Lib.hid hy
  have HU := Lib.hid hu
  have Hl := Lib.hid hl
  have L2 := Lib.hid (Lb.four (w := w) (xs := xs) (ys := ys) (us := us) (vs := (bvs l).toArray))
  have Ho := Lib.hid ho
  obtain ⟨bb, hbb⟩ : ∃ bb : Bool, bb = decide (A < ordN) := ⟨_, rfl⟩
  have Hbb := Lib.hid hbb
  clear hx hy hu hl ho hbb
  go_enter Tryd.func6, Tryd.ntmps6
  go_wp2_with (go_at_call 7; go_must (refine (awake_any _ (Ho.out.below L2.out.2)).mono ?_; rintro e w2 ⟨rfl, hb2⟩; have F2 : Hid (Lb [(w.heap.size, xs), (w.heap.size + 1, ys), (w.heap.size + 2, us), (w.heap.size + 3, (bvs l).toArray)] w2 ∧ Below w.heap.size w w2) := ⟨L2.out.1.below hb2, L2.out.2.trans (hb2.mono L2.out.2.size)⟩; clear hb2))
  refine AnyC.startB (Lb [(w.heap.size, xs), (w.heap.size + 1, ys), (w.heap.size + 2, us), (w.heap.size + 3, (bvs l).toArray)]) (by kernel_rfl) rfl ?_
  intro w4 hb4 _
  have L4 : Hid (Lb [(w.heap.size, xs), (w.heap.size + 1, ys), (w.heap.size + 2, us), (w.heap.size + 3, (bvs l).toArray)] w4) := F2.out.1.below hb4
  have B4 : Hid (Below w.heap.size w w4) := F2.out.2.trans (hb4.mono F2.out.2.size)
  clear hb4 F2
  apply AnyC.take (i := 0) rfl (by kernel_rfl) rfl
  · intro w' hC K hK
    refine wpList_load_box hC (by kernel_rfl) _ rfl (w.heap.size) xs (by simp) HX.out.size rfl rfl ?_
    go_wp2
    exact hK
  · rfl
  apply AnyC.take (i := 2) rfl (by kernel_rfl) rfl
  · intro w' hC K hK
    refine wpList_load_box hC (by kernel_rfl) _ rfl (w.heap.size) xs (by simp) HX.out.size rfl rfl ?_
    go_wp2
    exact hK
  · rfl
  apply AnyC.solo (i := 1) rfl (by kernel_rfl) L4.out
  go_wp2_with (go_at_call 12; go_must (have h_ := Canonical_n HX.out w4 (Ho.out.below B4.out); rw [← Hbb.out] at h_; refine h_.mono ?_; rintro e w5 ⟨rfl, hb⟩; have L5 := Lib.hid (L4.out.below hb); have B5 := Lib.hid (B4.out.trans (hb.mono B4.out.size)); clear hb h_))
  refine ⟨rfl, ?_⟩
  apply AnyC.solo (i := 3) rfl (by kernel_rfl) L5.out
  go_wp2_with (go_at_call 13; go_must (have h_ := Canonical48_n HX.out w5; rw [← Hbb.out] at h_; refine h_.mono ?_; rintro e w6 ⟨rfl, hb⟩; have L6 := Lib.hid (L5.out.below hb); have B6 := Lib.hid (B5.out.trans (hb.mono B5.out.size)); clear hb h_))
  refine ⟨rfl, ?_⟩
  apply AnyC.take (i := 4) rfl (by kernel_rfl) rfl
  · intro w' hC K hK
    go_wp2
    exact hK
  · rfl
  apply AnyC.take (i := 5) rfl (by kernel_rfl) rfl
  · intro w' hC K hK
    go_wp2
    exact hK
  · rfl
  apply AnyC.take (i := 6) rfl (by kernel_rfl) rfl
  · intro w' hC K hK
    refine wpList_load_box64 hC (by kernel_rfl) _ rfl (w.heap.size + 3) (bvs l).toArray (by simp) (by simp [bvs_length, Hl.out]) rfl rfl ?_
    go_wp2
    exact hK
  · rfl
  apply AnyC.take (i := 8) rfl (by kernel_rfl) rfl
  · intro w' hC K hK
    refine wpList_load_box64 hC (by kernel_rfl) _ rfl (w.heap.size + 3) (bvs l).toArray (by simp) (by simp [bvs_length, Hl.out]) rfl rfl ?_
    go_wp2
    exact hK
  · rfl
  apply AnyC.solo (i := 7) rfl (by kernel_rfl) L6.out
  go_wp2_with (go_at_call 8; go_must (refine (Reduce_n l Hl.out rfl _ (Ho.out.below B6.out)).mono ?_; rintro e w7 ⟨r7, rfl, hn, hb⟩; have N7 := Lib.hid hn; have L7 := Lib.hid (L6.out.below hb); have B7 := Lib.hid (B6.out.trans (hb.mono B6.out.size)); clear hn hb))
  refine ⟨rfl, ?_⟩
  apply AnyC.solo (i := 9) rfl (by kernel_rfl) L7.out
  go_wp2_with (go_at_call 14; go_must (refine (Reduce48_n l Hl.out rfl _).mono ?_; rintro e w8 ⟨r8, rfl, hn, hb⟩; have N8 := Lib.hid hn; have L8 := Lib.hid (L7.out.below hb); have B8 := Lib.hid (B7.out.trans (hb.mono B7.out.size)); clear hn hb))
  refine ⟨rfl, ?_⟩
  have heqN7N8 := eq_true N7.out N8.out rfl
  apply AnyC.take (i := 10) rfl (by kernel_rfl) rfl
  · intro w' hC K hK
    go_wp2
    exact hK
  · rfl
  apply AnyC.take (i := 11) rfl (by kernel_rfl) rfl
  · intro w' hC K hK
    go_wp2
    exact hK
  · rfl
  apply AnyC.take (i := 12) rfl (by kernel_rfl) rfl
  · intro w' hC K hK
    go_wp2
    exact hK
  · rfl
  apply AnyC.take (i := 13) rfl (by kernel_rfl) rfl
  · intro w' hC K hK
    refine wpList_load_box hC (by kernel_rfl) _ rfl (w.heap.size) xs (by simp) HX.out.size rfl rfl ?_
    go_wp2
    exact hK
  · rfl
  apply AnyC.take (i := 16) rfl (by kernel_rfl) rfl
  · intro w' hC K hK
    refine wpList_load_box hC (by kernel_rfl) _ rfl (w.heap.size) xs (by simp) HX.out.size rfl rfl ?_
    go_wp2
    exact hK
  · rfl
  apply AnyC.take (i := 14) rfl (by kernel_rfl) rfl
  · intro w' hC K hK
    refine wpList_load_box hC (by kernel_rfl) _ rfl (w.heap.size + 1) ys (by simp) HY.out.size rfl rfl ?_
    go_wp2
    exact hK
  · rfl
  apply AnyC.take (i := 17) rfl (by kernel_rfl) rfl
  · intro w' hC K hK
    refine wpList_load_box hC (by kernel_rfl) _ rfl (w.heap.size + 1) ys (by simp) HY.out.size rfl rfl ?_
    go_wp2
    exact hK
  · rfl
  apply AnyC.solo (i := 15) rfl (by kernel_rfl) L8.out
  go_wp2_with (go_at_call 10; go_must (refine (Add_n HX.out HY.out _ (Ho.out.below B8.out)).mono ?_; rintro e w9 ⟨r9, rfl, hn, hb⟩; have N9 := Lib.hid hn; have L9 := Lib.hid (L8.out.below hb); have B9 := Lib.hid (B8.out.trans (hb.mono B8.out.size)); clear hn hb))
  refine ⟨rfl, ?_⟩
  apply AnyC.solo (i := 18) rfl (by kernel_rfl) L9.out
  go_wp2_with (go_at_call 15; go_must (refine (Add48_n HX.out HY.out _).mono ?_; rintro e w10 ⟨r10, rfl, hn, hb⟩; have N10 := Lib.hid hn; have L10 := Lib.hid (L9.out.below hb); have B10 := Lib.hid (B9.out.trans (hb.mono B9.out.size)); clear hn hb))
  refine ⟨rfl, ?_⟩
  have heqN9N10 := eq_true N9.out N10.out rfl
  apply AnyC.take (i := 19) rfl (by kernel_rfl) rfl
  · intro w' hC K hK
    go_wp2
    exact hK
  · rfl
  apply AnyC.take (i := 20) rfl (by kernel_rfl) rfl
  · intro w' hC K hK
    go_wp2
    exact hK
  · rfl
  apply AnyC.take (i := 21) rfl (by kernel_rfl) rfl
  · intro w' hC K hK
    go_wp2
    exact hK
  · rfl
  apply AnyC.take (i := 22) rfl (by kernel_rfl) rfl
  · intro w' hC K hK
    refine wpList_load_box hC (by kernel_rfl) _ rfl (w.heap.size) xs (by simp) HX.out.size rfl rfl ?_
    go_wp2
    exact hK
  · rfl
  apply AnyC.take (i := 24) rfl (by kernel_rfl) rfl
  · intro w' hC K hK
    refine wpList_load_box hC (by kernel_rfl) _ rfl (w.heap.size) xs (by simp) HX.out.size rfl rfl ?_
    go_wp2
    exact hK
  · rfl
  apply AnyC.solo (i := 23) rfl (by kernel_rfl) L10.out
  go_wp2_with (go_at_call 11; go_must (refine (Neg_n HX.out _ (Ho.out.below B10.out)).mono ?_; rintro e w11 ⟨r11, rfl, hn, hb⟩; have N11 := Lib.hid hn; have L11 := Lib.hid (L10.out.below hb); have B11 := Lib.hid (B10.out.trans (hb.mono B10.out.size)); clear hn hb))
  refine ⟨rfl, ?_⟩
  apply AnyC.solo (i := 25) rfl (by kernel_rfl) L11.out
  go_wp2_with (go_at_call 16; go_must (refine (Neg48_n HX.out _).mono ?_; rintro e w12 ⟨r12, rfl, hn, hb⟩; have N12 := Lib.hid hn; have L12 := Lib.hid (L11.out.below hb); have B12 := Lib.hid (B11.out.trans (hb.mono B11.out.size)); clear hn hb))
  refine ⟨rfl, ?_⟩
  have heqN11N12 := eq_true N11.out N12.out rfl
  apply AnyC.take (i := 26) rfl (by kernel_rfl) rfl
  · intro w' hC K hK
    go_wp2
    exact hK
  · rfl
  apply AnyC.take (i := 27) rfl (by kernel_rfl) rfl
  · intro w' hC K hK
    go_wp2
    exact hK
  · rfl
  apply AnyC.take (i := 28) rfl (by kernel_rfl) rfl
  · intro w' hC K hK
    go_wp2
    exact hK
  · rfl
  apply AnyC.take (i := 29) rfl (by kernel_rfl) rfl
  · intro w' hC K hK
    refine wpList_load_box hC (by kernel_rfl) _ rfl (w.heap.size) xs (by simp) HX.out.size rfl rfl ?_
    go_wp2
    exact hK
  · rfl
  apply AnyC.take (i := 33) rfl (by kernel_rfl) rfl
  · intro w' hC K hK
    refine wpList_load_box hC (by kernel_rfl) _ rfl (w.heap.size) xs (by simp) HX.out.size rfl rfl ?_
    go_wp2
    exact hK
  · rfl
  apply AnyC.take (i := 30) rfl (by kernel_rfl) rfl
  · intro w' hC K hK
    refine wpList_load_box hC (by kernel_rfl) _ rfl (w.heap.size + 1) ys (by simp) HY.out.size rfl rfl ?_
    go_wp2
    exact hK
  · rfl
  apply AnyC.take (i := 34) rfl (by kernel_rfl) rfl
  · intro w' hC K hK
    refine wpList_load_box hC (by kernel_rfl) _ rfl (w.heap.size + 1) ys (by simp) HY.out.size rfl rfl ?_
    go_wp2
    exact hK
  · rfl
  apply AnyC.take (i := 31) rfl (by kernel_rfl) rfl
  · intro w' hC K hK
    refine wpList_load_box hC (by kernel_rfl) _ rfl (w.heap.size + 2) us (by simp) HU.out.size rfl rfl ?_
    go_wp2
    exact hK
  · rfl
  apply AnyC.take (i := 35) rfl (by kernel_rfl) rfl
  · intro w' hC K hK
    refine wpList_load_box hC (by kernel_rfl) _ rfl (w.heap.size + 2) us (by simp) HU.out.size rfl rfl ?_
    go_wp2
    exact hK
  · rfl
  apply AnyC.solo (i := 32) rfl (by kernel_rfl) L12.out
  go_wp2_with (go_at_call 9; go_must (refine (MulAdd_n HX.out HY.out HU.out _ (Ho.out.below B12.out)).mono ?_; rintro e w13 ⟨r13, rfl, hn, hb⟩; have N13 := Lib.hid hn; have L13 := Lib.hid (L12.out.below hb); have B13 := Lib.hid (B12.out.trans (hb.mono B12.out.size)); clear hn hb))
  refine ⟨rfl, ?_⟩
  apply AnyC.solo (i := 36) rfl (by kernel_rfl) L13.out
  go_wp2_with (go_at_call 17; go_must (refine (MulAdd48_n HX.out HY.out HU.out _).mono ?_; rintro e w14 ⟨r14, rfl, hn, hb⟩; have N14 := Lib.hid hn; have L14 := Lib.hid (L13.out.below hb); have B14 := Lib.hid (B13.out.trans (hb.mono B13.out.size)); clear hn hb))
  refine ⟨rfl, ?_⟩
  have heqN13N14 := eq_true N13.out N14.out rfl
  apply AnyC.take (i := 37) rfl (by kernel_rfl) rfl
  · intro w' hC K hK
    go_wp2
    exact hK
  · rfl
  apply AnyC.take (i := 38) rfl (by kernel_rfl) rfl
  · intro w' hC K hK
    go_wp2
    exact hK
  · rfl
  apply AnyC.take (i := 39) rfl (by kernel_rfl) rfl
  · intro w' hC K hK
    go_wp2
    exact hK
  · rfl
  refine AnyC.done L14.out (by kernel_rfl) ?_
  go_wp2
  refine bodyPost_ret (v := .bool true) (by simp [results, Tryd.results6]) rfl ⟨rfl, B14.out⟩
theorem all_any (l0 l1 l2 l3 : List UInt8) (h0 : l0.length = 32) (h1 : l1.length = 32) (h2 : l2.length = 32) (h3 : l3.length = 64) (w : World) (ho : Ord w) : Calls Tryd.prog 6 #[.agg (bvs l0).toArray, .agg (bvs l1).toArray, .agg (bvs l2).toArray, .agg (bvs l3).toArray] w (fun e w' => e = .returned (.bool true) ∧ Below w.heap.size w w') :=
  all_n l3 (Num.of h0) (Num.of h1) (Num.of h2) h3 w ho
end Go.Proofs.YtagjeideohplpaaDoor
