/- The reference: below. No conditions. -/
import Derived.Test.YtagjeideohplpaaDoorS17
namespace Go.Proofs.YtagjeideohplpaaDoor
open Go.RowKit
theorem below_lt {x y : W4} (hx : x.ok) (hy : y.ok) {m : Nat} (hm : m < 4) (he : ∀ j, m + 1 ≤ j → j < 4 → x.wd j = y.wd j) (hne : x.wd m ≠ y.wd m) : decide (x.val < y.val) = decide (x.wd m < y.wd m) := by
  obtain ⟨a, b, c, d⟩ := x
  obtain ⟨a', b', c', d'⟩ := y
  unfold W4.ok at hx hy
  unfold W4.val
  obtain rfl | rfl | rfl | rfl : m = 0 ∨ m = 1 ∨ m = 2 ∨ m = 3 := by omega
  · have h1 := he 1 (by decide) (by decide)
    have h2 := he 2 (by decide) (by decide)
    have h3 := he 3 (by decide) (by decide)
    simp only [W4.wd] at *
    simp at h1 h2 h3 hne ⊢
    omega
  · have h2 := he 2 (by decide) (by decide)
    have h3 := he 3 (by decide) (by decide)
    simp only [W4.wd] at *
    simp at h2 h3 hne ⊢
    omega
  · have h3 := he 3 (by decide) (by decide)
    simp only [W4.wd] at *
    simp at h3 hne ⊢
    omega
  · simp only [W4.wd] at *
    simp at hne ⊢
    omega
theorem below_eq {x y : W4} (he : ∀ j, 0 ≤ j → j < 4 → x.wd j = y.wd j) : decide (x.val < y.val) = false := by
  obtain ⟨a, b, c, d⟩ := x
  obtain ⟨a', b', c', d'⟩ := y
  have h0 := he 0 (by decide) (by decide)
  have h1 := he 1 (by decide) (by decide)
  have h2 := he 2 (by decide) (by decide)
  have h3 := he 3 (by decide) (by decide)
  simp [W4.wd] at h0 h1 h2 h3
  subst h0 h1 h2 h3
  simp
/-- The two boxes. -/
structure P2 (w wr : World) (x y : W4) : Prop where
  below : Below w.heap.size w wr
  x0 : wr.heap[w.heap.size]? = some (.cells x.cs 48 (0, 0))
  y1 : wr.heap[w.heap.size + 1]? = some (.cells y.cs 48 (0, 0))
theorem P2.drew {w wr w' : World} {x y : W4} (h : P2 w wr x y) (hb : Below wr.heap.size wr w') : P2 w w' x y :=
  ⟨h.below.trans (hb.mono h.below.size), heap_below h.x0 hb, heap_below h.y1 hb⟩
theorem P2.start (w : World) (x y : W4) : P2 w ((w.alloc (.cells x.cs 48)).alloc (.cells y.cs 48)) x y := by
  refine ⟨((Below.refl _ _).alloc (Nat.le_refl _) _).alloc (by simp) _, ?_, ?_⟩
  · rw [Below.heap_alloc _ _ _ (by simp)]; exact heap_alloc_new w _
  · have h1 := heap_alloc_new (w.alloc (.cells x.cs 48)) (.cells y.cs 48)
    rw [show (w.alloc (.cells x.cs 48)).heap.size = w.heap.size + 1 from by simp] at h1
    exact h1
set_option maxRecDepth 100000 in
set_option maxHeartbeats 2000000 in
theorem below_any (x y : W4) (hx : x.ok) (hy : y.ok) (w : World) : Calls Tryd.prog 25 #[.agg x.cs, .agg y.cs] w (fun e w' => e = .returned (.bool (decide (x.val < y.val))) ∧ Below w.heap.size w w') := by
  have H0 := Lib.hid (P2.start w x y)
  have Hx := Lib.hid hx
  have Hy := Lib.hid hy
  clear hx hy
  go_enter Tryd.func25, Tryd.ntmps25
  go_wp2
  go_loopw [5] (fun i wr => ∃ k : Nat, k ≤ 4 ∧ i = .int .i64 ((k : Int) - 1) ∧ Hid (∀ j, k ≤ j → j < 4 → x.wd j = y.wd j) ∧ Hid (P2 w wr x y)) (fun i _ => (intOf i + 1).toNat)
  case atStart => exact ⟨4, by omega, by go_num, fun j h1 h2 => by omega, H0⟩
  case round =>
    obtain ⟨k, hk, rfl, hE, h3⟩ := hrel
    clear H0
    cases k with
    | zero =>
      have e : ((0 : Nat) : Int) - 1 = -1 := rfl
      rw [e]
      go_wp2
      refine bodyPost_ret (v := .bool false) (by simp [results, Tryd.results25]) rfl ⟨by rw [below_eq hE.out], h3.out.below⟩
    | succ m =>
      have e : ((m + 1 : Nat) : Int) - 1 = (m : Int) := by omega
      rw [e]
      have hm4 : m < 4 := by omega
      have hlt' : (m : Int) < 4 := by omega
      have hk0 : (0 : Int) ≤ (m : Int) := by omega
      clear e
      go_wp2
      refine AnyC.startB (fun w' => w'.cell? ⟨w.heap.size, m, none⟩ = some (.int .u64 (x.wd m : Int)) ∧ w'.cell? ⟨w.heap.size + 1, m, none⟩ = some (.int .u64 (y.wd m : Int))) (by kernel_rfl) rfl ?_
      intro wd hbd _
      have h4 := Lib.hid (h3.out.drew hbd)
      clear hbd h3
      have Hc := Lib.hid (And.intro (cellw h4.out.x0 hm4) (cellw h4.out.y1 hm4))
      obtain ⟨xm, hxm⟩ : ∃ n, n = x.wd m := ⟨_, rfl⟩
      obtain ⟨ym, hym⟩ : ∃ n, n = y.wd m := ⟨_, rfl⟩
      have Hxm := Lib.hid hxm
      have Hym := Lib.hid hym
      rw [← hxm, ← hym] at Hc ⊢
      clear hxm hym
      by_cases heq : xm = ym
      · have hq : ((xm : Int) == (ym : Int)) = true := by rw [heq]; simp
        have hq2 : ((xm : Int) != (ym : Int)) = false := by rw [heq]; simp
        have HE : Hid (∀ j, m ≤ j → j < 4 → x.wd j = y.wd j) := by
          intro j h1 h2
          rcases Nat.lt_or_ge m j with h | h
          · exact hE.out j h h2
          · obtain rfl : j = m := by omega
            rw [← Hxm.out, ← Hym.out, heq]
        have Heq := Lib.hid heq
        clear heq
        apply AnyC.take (i := 0) rfl (by kernel_rfl) rfl
        · intro w' hC K hK
          go_wp2
          exact hK
        · rfl
        apply AnyC.take (i := 1) rfl (by kernel_rfl) rfl
        · intro w' hC K hK
          go_wp2
          exact hK
        · rfl
        apply AnyC.take (i := 2) rfl (by kernel_rfl) rfl
        · intro w' hC K hK
          obtain ⟨cx, _⟩ := hC
          go_wp2
          exact hK
        · rfl
        apply AnyC.take (i := 3) rfl (by kernel_rfl) rfl
        · intro w' hC K hK
          go_wp2
          exact hK
        · rfl
        apply AnyC.take (i := 4) rfl (by kernel_rfl) rfl
        · intro w' hC K hK
          go_wp2
          exact hK
        · rfl
        apply AnyC.take (i := 5) rfl (by kernel_rfl) rfl
        · intro w' hC K hK
          obtain ⟨_, cy⟩ := hC
          go_wp2
          exact hK
        · rfl
        apply AnyC.take (i := 6) rfl (by kernel_rfl) rfl
        · intro w' hC K hK
          go_wp2
          exact hK
        · rfl
        refine AnyC.done Hc.out (by kernel_rfl) ?_
        go_wp2
        go_roundw
        case rel => exact ⟨m, by omega, by go_num, HE, h4⟩
        case measure => simp [intOf]
      · have hq : ((xm : Int) == (ym : Int)) = false := beq_eq_false_iff_ne.2 (by omega)
        have hq2 : ((xm : Int) != (ym : Int)) = true := bne_iff_ne.2 (by omega)
        have HB : Hid (decide (x.val < y.val) = decide (xm < ym)) := by
          show _ = _
          rw [below_lt Hx.out Hy.out hm4 (fun j h1 h2 => hE.out j h1 h2) (by rw [← Hxm.out, ← Hym.out]; exact heq), Hxm.out, Hym.out]
        clear heq
        apply AnyC.take (i := 0) rfl (by kernel_rfl) rfl
        · intro w' hC K hK
          go_wp2
          exact hK
        · rfl
        apply AnyC.take (i := 1) rfl (by kernel_rfl) rfl
        · intro w' hC K hK
          go_wp2
          exact hK
        · rfl
        apply AnyC.take (i := 2) rfl (by kernel_rfl) rfl
        · intro w' hC K hK
          obtain ⟨cx, _⟩ := hC
          go_wp2
          exact hK
        · rfl
        apply AnyC.take (i := 3) rfl (by kernel_rfl) rfl
        · intro w' hC K hK
          go_wp2
          exact hK
        · rfl
        apply AnyC.take (i := 4) rfl (by kernel_rfl) rfl
        · intro w' hC K hK
          go_wp2
          exact hK
        · rfl
        apply AnyC.take (i := 5) rfl (by kernel_rfl) rfl
        · intro w' hC K hK
          obtain ⟨_, cy⟩ := hC
          go_wp2
          exact hK
        · rfl
        apply AnyC.take (i := 6) rfl (by kernel_rfl) rfl
        · intro w' hC K hK
          go_wp2
          exact hK
        · rfl
        refine AnyC.done Hc.out (by kernel_rfl) ?_
        go_wp2
        refine AnyC.startB (fun w' => w'.cell? ⟨w.heap.size, m, none⟩ = some (.int .u64 (xm : Int)) ∧ w'.cell? ⟨w.heap.size + 1, m, none⟩ = some (.int .u64 (ym : Int))) (by kernel_rfl) rfl ?_
        intro we hbe _
        have h5 := Lib.hid (h4.out.drew hbe)
        have Hc5 : Hid (we.cell? ⟨w.heap.size, m, none⟩ = some (.int .u64 (xm : Int)) ∧ we.cell? ⟨w.heap.size + 1, m, none⟩ = some (.int .u64 (ym : Int))) := by
          refine ⟨?_, ?_⟩
          · rw [Hxm.out]; exact cellw h5.out.x0 hm4
          · rw [Hym.out]; exact cellw h5.out.y1 hm4
        clear hbe
        apply AnyC.take (i := 0) rfl (by kernel_rfl) rfl
        · intro w' hC K hK
          go_wp2
          exact hK
        · rfl
        apply AnyC.take (i := 1) rfl (by kernel_rfl) rfl
        · intro w' hC K hK
          go_wp2
          exact hK
        · rfl
        apply AnyC.take (i := 2) rfl (by kernel_rfl) rfl
        · intro w' hC K hK
          obtain ⟨cx, _⟩ := hC
          go_wp2
          exact hK
        · rfl
        apply AnyC.take (i := 3) rfl (by kernel_rfl) rfl
        · intro w' hC K hK
          go_wp2
          exact hK
        · rfl
        apply AnyC.take (i := 4) rfl (by kernel_rfl) rfl
        · intro w' hC K hK
          go_wp2
          exact hK
        · rfl
        apply AnyC.take (i := 5) rfl (by kernel_rfl) rfl
        · intro w' hC K hK
          obtain ⟨_, cy⟩ := hC
          go_wp2
          exact hK
        · rfl
        apply AnyC.take (i := 6) rfl (by kernel_rfl) rfl
        · intro w' hC K hK
          go_wp2
          exact hK
        · rfl
        apply AnyC.take (i := 7) rfl (by kernel_rfl) rfl
        · intro w' hC K hK
          go_wp2
          exact hK
        · rfl
        refine AnyC.done Hc5.out (by kernel_rfl) ?_
        go_wp2
        refine bodyPost_ret (v := .bool (decide (xm < ym))) (by simp [results, Tryd.results25]) rfl ⟨by rw [HB.out], h5.out.below⟩
end Go.Proofs.YtagjeideohplpaaDoor
