/- The reference: order, below, less. No conditions. -/
import Derived.Test.YtagjeideohplpaaDoorS13
namespace Go.Proofs.YtagjeideohplpaaDoor
open Go.RowKit
def W4.setw (x : W4) (j v : Nat) : W4 := if j = 0 then { x with a := v } else if j = 1 then { x with b := v } else if j = 2 then { x with c := v } else { x with d := v }
theorem W4.setw_cs (x : W4) {j : Nat} (v : Nat) (hj : j < 4) : x.cs.setIfInBounds j (.int .u64 (v : Int)) = (x.setw j v).cs := by
  obtain rfl | rfl | rfl | rfl : j = 0 ∨ j = 1 ∨ j = 2 ∨ j = 3 := by omega
  all_goals rfl
theorem W4.setw_ok {x : W4} {j v : Nat} (hx : x.ok) (hv : v < 18446744073709551616) : (x.setw j v).ok := by
  unfold W4.ok at *
  unfold W4.setw
  split
  · exact ⟨hv, hx.2⟩
  · split
    · exact ⟨hx.1, hv, hx.2.2⟩
    · split
      · exact ⟨hx.1, hx.2.1, hv, hx.2.2.2⟩
      · exact ⟨hx.1, hx.2.1, hx.2.2.1, hv⟩
theorem W4.setw_low (x : W4) {j : Nat} (v : Nat) (hj : j < 4) : (x.setw j v).low (j + 1) = x.low j + 18446744073709551616 ^ j * v := by
  obtain rfl | rfl | rfl | rfl : j = 0 ∨ j = 1 ∨ j = 2 ∨ j = 3 := by omega
  all_goals simp [W4.low, wN, W4.setw]
  all_goals omega
theorem ret48 {wr : World} {b : Nat} {d : W4} (h : wr.rangeAt b 0 d.cs.toList) : (loadVar 48 ⟨b, 0, none⟩).run Tryd.prog wr = .ok (.agg d.cs) wr := by
  have h1 := run_loadVar_mid (P := Tryd.prog) wr b 0 48 d.cs.toList _ h Tryd.underlying48 rfl (by kernel_rfl)
  exact h1
theorem order_any (w : World) : Calls Tryd.prog 27 #[] w (fun e w' => e = .returned (.agg ordW.cs) ∧ Below w.heap.size w w') := by
  have hz48 : ∀ w, (zeroValue 48).run Tryd.prog w = .ok (.agg #[.int .u64 0, .int .u64 0, .int .u64 0, .int .u64 0]) w := fun w => by kernel_rfl
  have hld := ret48 (d := ordW) (range_row (heap_alloc_new w (.cells ordW.cs 48)))
  go_enter Tryd.func27, Tryd.ntmps27
  go_wp2
  refine bodyPost_ret (v := .agg ordW.cs) (by simp [results, Tryd.results27, asAddr]; exact hld) rfl ⟨rfl, (Below.refl _ _).alloc (Nat.le_refl _) _⟩
/-- The blocks of a reference's step: the two numbers, the answer's place, the number under way. -/
structure P4 (w wr : World) (x y d : W4) : Prop where
  below : Below w.heap.size w wr
  x0 : wr.heap[w.heap.size]? = some (.cells x.cs 48 (0, 0))
  y1 : wr.heap[w.heap.size + 1]? = some (.cells y.cs 48 (0, 0))
  r2 : wr.heap[w.heap.size + 2]? = some (.cells (W4.mk 0 0 0 0).cs 48 (0, 0))
  d3 : wr.heap[w.heap.size + 3]? = some (.cells d.cs 48 (0, 0))
theorem P4.drew {w wr w' : World} {x y d : W4} (h : P4 w wr x y d) (hb : Below wr.heap.size wr w') : P4 w w' x y d :=
  ⟨h.below.trans (hb.mono h.below.size), heap_below h.x0 hb, heap_below h.y1 hb, heap_below h.r2 hb, heap_below h.d3 hb⟩
theorem P4.set {w wr : World} {x y d : W4} (h : P4 w wr x y d) {k v : Nat} (hk : k < 4) : P4 w (wr.setCell ⟨w.heap.size + 3, k, none⟩ (.int .u64 (v : Int))) x y (d.setw k v) := by
  refine ⟨h.below.setCell (p := ⟨w.heap.size + 3, k, none⟩) (by show w.heap.size ≤ w.heap.size + 3; omega) _, (Below.heap_setCell _ _ _ _ (by show w.heap.size ≠ w.heap.size + 3; omega)).trans h.x0, (Below.heap_setCell _ _ _ _ (by show w.heap.size + 1 ≠ w.heap.size + 3; omega)).trans h.y1, (Below.heap_setCell _ _ _ _ (by show w.heap.size + 2 ≠ w.heap.size + 3; omega)).trans h.r2, ?_⟩
  have h1 := heap_setCell_same wr (w.heap.size + 3) k _ _ (.int .u64 (v : Int)) h.d3
  rw [W4.setw_cs d v hk] at h1
  exact h1
theorem P4.start (w : World) (x y : W4) : P4 w ((((w.alloc (.cells x.cs 48)).alloc (.cells y.cs 48)).alloc (.cells (W4.mk 0 0 0 0).cs 48)).alloc (.cells (W4.mk 0 0 0 0).cs 48)) x y ⟨0, 0, 0, 0⟩ := by
  refine ⟨((((Below.refl _ _).alloc (Nat.le_refl _) _).alloc (by simp) _).alloc (by simp; omega) _).alloc (by simp; omega) _, ?_, ?_, ?_, ?_⟩
  · rw [Below.heap_alloc _ _ _ (by simp <;> omega), Below.heap_alloc _ _ _ (by simp <;> omega), Below.heap_alloc _ _ _ (by simp)]; exact heap_alloc_new w _
  · rw [Below.heap_alloc _ _ _ (by simp <;> omega), Below.heap_alloc _ _ _ (by simp)]
    have h1 := heap_alloc_new (w.alloc (.cells x.cs 48)) (.cells y.cs 48)
    rw [show (w.alloc (.cells x.cs 48)).heap.size = w.heap.size + 1 from by simp] at h1
    exact h1
  · rw [Below.heap_alloc _ _ _ (by simp)]
    have h1 := heap_alloc_new ((w.alloc (.cells x.cs 48)).alloc (.cells y.cs 48)) (.cells (W4.mk 0 0 0 0).cs 48)
    rw [show ((w.alloc (.cells x.cs 48)).alloc (.cells y.cs 48)).heap.size = w.heap.size + 2 from by simp] at h1
    exact h1
  · have h1 := heap_alloc_new (((w.alloc (.cells x.cs 48)).alloc (.cells y.cs 48)).alloc (.cells (W4.mk 0 0 0 0).cs 48)) (.cells (W4.mk 0 0 0 0).cs 48)
    rw [show (((w.alloc (.cells x.cs 48)).alloc (.cells y.cs 48)).alloc (.cells (W4.mk 0 0 0 0).cs 48)).heap.size = w.heap.size + 3 from by simp] at h1
    exact h1
theorem cellw {w : World} {b k : Nat} {d : W4} {T : TypeId} (h : w.heap[b]? = some (.cells d.cs T (0, 0))) (hk : k < 4) : w.cell? ⟨b, k, none⟩ = some (.int .u64 (d.wd k : Int)) := by
  rw [cell_of_row w b k _ _ _ h, d.at_ hk]
/-- less: the borrow so far. -/
def LI (x y d : W4) (c k : Nat) : Prop := x.low k + 18446744073709551616 ^ k * c = d.low k + y.low k
theorem LI.step {x y d : W4} {c k s c' : Nat} (h : LI x y d c k) (hk : k < 4) (hs : s + y.wd k + c = x.wd k + 18446744073709551616 * c') : LI x y (d.setw k s) c' (k + 1) := by
  unfold LI at *
  rw [d.setw_low s hk, x.low_succ hk, y.low_succ hk, Nat.pow_succ]
  have h3 : 18446744073709551616 ^ k * (s + y.wd k + c) = 18446744073709551616 ^ k * (x.wd k + 18446744073709551616 * c') := by rw [hs]
  rw [Nat.mul_add, Nat.mul_add, Nat.mul_add, ← Nat.mul_assoc] at h3
  omega
def Less48 (x y : W4) (w : World) (e : Ending) (w' : World) : Prop := ∃ (d : W4) (c : Nat), e = .returned (.agg d.cs) ∧ d.ok ∧ c ≤ 1 ∧ x.val + c * 115792089237316195423570985008687907853269984665640564039457584007913129639936 = d.val + y.val ∧ Below w.heap.size w w'
theorem sub_w (x y c : Nat) (hx : x < 18446744073709551616) (hy : y < 18446744073709551616) (hc : c ≤ 1) : ∃ s c' : Nat, (∀ w, (callFunc 33 #[.int .u64 (x : Int), .int .u64 (y : Int), .int .u64 (c : Int)]).run Tryd.prog w = .ok (.value (.tuple #[.int .u64 (s : Int), .int .u64 (c' : Int)])) w) ∧ s + y + c = x + 18446744073709551616 * c' ∧ s < 18446744073709551616 ∧ c' ≤ 1 := by
  refine ⟨_, _, fun w => run_Sub64 x y c hc w, ?_, by omega, ?_⟩
  · split <;> omega
  · split <;> omega
set_option maxRecDepth 100000 in
set_option maxHeartbeats 2000000 in
theorem less48_any (x y : W4) (hx : x.ok) (hy : y.ok) (w : World) : Calls Tryd.prog 31 #[.agg x.cs, .agg y.cs] w (Less48 x y w) := by
  have hz48 : ∀ w, (zeroValue 48).run Tryd.prog w = .ok (.agg (W4.mk 0 0 0 0).cs) w := fun w => by kernel_rfl
  have H0 := Lib.hid (P4.start w x y)
  have Hx := Lib.hid hx
  have Hy := Lib.hid hy
  clear hx hy
  go_enter Tryd.func31, Tryd.ntmps31
  go_wp2
  go_loopw [6, 8] (fun cv i wr => ∃ (k : Nat) (d : W4) (c : Nat), k ≤ 4 ∧ i = .int .i64 k ∧ cv = .int .u64 (c : Int) ∧ c ≤ 1 ∧ Hid d.ok ∧ Hid (LI x y d c k) ∧ Hid (P4 w wr x y d)) (fun _ i _ => 4 - (intOf i).toNat)
  case atStart => exact ⟨0, ⟨0, 0, 0, 0⟩, 0, by omega, rfl, rfl, by omega, ⟨by decide, by decide, by decide, by decide⟩, rfl, H0⟩
  case round =>
    obtain ⟨k, d, c, hk, rfl, rfl, hc, hd, hI, h3⟩ := hrel
    clear H0
    by_cases hlt : k < 4
    · have hlt' : (k : Int) < 4 := by omega
      have hk0 : (0 : Int) ≤ (k : Int) := by omega
      go_wp2
      refine AnyC.startB (fun w' => w'.cell? ⟨w.heap.size, k, none⟩ = some (.int .u64 (x.wd k : Int)) ∧ w'.cell? ⟨w.heap.size + 1, k, none⟩ = some (.int .u64 (y.wd k : Int))) (by kernel_rfl) rfl ?_
      intro wd hbd _
      have h4 := Lib.hid (h3.out.drew hbd)
      clear hbd h3
      obtain ⟨s, c', hrun, hs, hsb, hcb⟩ := sub_w (x.wd k) (y.wd k) c (W4.wd_lt Hx.out k) (W4.wd_lt Hy.out k) hc
      have Hrun := Lib.hid hrun
      have HI := Lib.hid (LI.step hI.out hlt hs)
      have Hd := Lib.hid (W4.setw_ok (j := k) hd.out hsb)
      have co := cellw h4.out.d3 hlt
      have hfz := frozen_row h4.out.d3 k
      have h5 := Lib.hid (h4.out.set (k := k) (v := s) hlt)
      clear hrun hs hsb
      apply AnyC.take (i := 0) rfl (by kernel_rfl) rfl
      · intro w' hC K hK
        go_wp2
        exact hK
      · rfl
      apply AnyC.take (i := 1) rfl (by kernel_rfl) rfl
      · intro w' hC K hK
        go_wp2
        exact hK
      · rfl
      apply AnyC.take (i := 2) rfl (by kernel_rfl) rfl
      · intro w' hC K hK
        go_wp2
        exact hK
      · rfl
      apply AnyC.take (i := 3) rfl (by kernel_rfl) rfl
      · intro w' hC K hK
        obtain ⟨cx, _⟩ := hC
        go_wp2
        exact hK
      · rfl
      apply AnyC.take (i := 4) rfl (by kernel_rfl) rfl
      · intro w' hC K hK
        go_wp2
        exact hK
      · rfl
      apply AnyC.take (i := 5) rfl (by kernel_rfl) rfl
      · intro w' hC K hK
        go_wp2
        exact hK
      · rfl
      apply AnyC.take (i := 6) rfl (by kernel_rfl) rfl
      · intro w' hC K hK
        obtain ⟨_, cy⟩ := hC
        go_wp2
        exact hK
      · rfl
      apply AnyC.take (i := 7) rfl (by kernel_rfl) rfl
      · intro w' hC K hK
        go_wp2
        exact hK
      · rfl
      apply AnyC.take (i := 8) rfl (by kernel_rfl) rfl
      · intro w' hC K hK
        have hrun := Hrun.out w'
        go_wp2
        exact hK
      · rfl
      apply AnyC.take (i := 9) rfl (by kernel_rfl) rfl
      · intro w' hC K hK
        go_wp2
        exact hK
      · rfl
      apply AnyC.take (i := 10) rfl (by kernel_rfl) rfl
      · intro w' hC K hK
        go_wp2
        exact hK
      · rfl
      apply AnyC.take (i := 11) rfl (by kernel_rfl) rfl
      · intro w' hC K hK
        go_wp2
        exact hK
      · rfl
      apply AnyC.take (i := 12) rfl (by kernel_rfl) rfl
      · intro w' hC K hK
        go_wp2
        exact hK
      · rfl
      apply AnyC.solo (i := 13) rfl (by kernel_rfl) ⟨cellw h4.out.x0 hlt, cellw h4.out.y1 hlt⟩
      go_wp2
      refine ⟨rfl, ?_⟩
      apply AnyC.take (i := 14) rfl (by kernel_rfl) rfl
      · intro w' hC K hK
        go_wp2
        exact hK
      · rfl
      refine AnyC.done ⟨cellw h5.out.x0 hlt, cellw h5.out.y1 hlt⟩ (by kernel_rfl) ?_
      go_wp2
      go_roundw
      case rel => exact ⟨k + 1, _, c', hlt, by go_num, rfl, hcb, Hd, HI, h5⟩
      case measure => simp [intOf]; omega
    · obtain rfl : k = 4 := by omega
      obtain ⟨e0, e1, e2, e3⟩ := cell4 h3.out.d3
      obtain ⟨z0, z1, z2, z3⟩ := cell4 h3.out.r2
      have hfz : ∀ i, wr.frozen? ⟨w.heap.size + 2, i, none⟩ = false := fun i => frozen_row h3.out.r2 i
      have hld : (loadVar 48 ⟨w.heap.size + 2, 0, none⟩).run Tryd.prog (wr.setCells (w.heap.size + 2) 0 d.cs.toList) = .ok (.agg d.cs) (wr.setCells (w.heap.size + 2) 0 d.cs.toList) := ret48 (World.rangeAt_setCells_same _ _ _ _ (there_row h3.out.r2 (Nat.le_refl 4)))
      go_wp2
      refine bodyPost_ret (v := .agg d.cs) (by simp [results, Tryd.results31, asAddr]; exact hld) rfl ⟨d, c, rfl, hd.out, hc, ?_, ?_⟩
      · have h1 := hI.out
        unfold LI at h1
        rw [x.low_four, d.low_four, y.low_four] at h1
        omega
      · exact below4 h3.out.below (by omega)
end Go.Proofs.YtagjeideohplpaaDoor
