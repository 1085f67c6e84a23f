/- The reference: plus. No conditions. -/
import Derived.Test.YtagjeideohplpaaDoorS17b
namespace Go.Proofs.YtagjeideohplpaaDoor
open Go.RowKit
def AI (x y d : W4) (c k : Nat) : Prop := x.low k + y.low k = d.low k + 18446744073709551616 ^ k * c
theorem AI.step {x y d : W4} {c k s c' : Nat} (h : AI x y d c k) (hk : k < 4) (hs : s + 18446744073709551616 * c' = x.wd k + y.wd k + c) : AI x y (d.setw k s) c' (k + 1) := by
  unfold AI at *
  rw [d.setw_low s hk, x.low_succ hk, y.low_succ hk, Nat.pow_succ]
  have h3 : 18446744073709551616 ^ k * (s + 18446744073709551616 * c') = 18446744073709551616 ^ k * (x.wd k + y.wd k + c) := by rw [hs]
  rw [Nat.mul_add, Nat.mul_add, Nat.mul_add, ← Nat.mul_assoc] at h3
  omega
theorem add_wc (x y c : Nat) (hx : x < 18446744073709551616) (hy : y < 18446744073709551616) (hc : c ≤ 1) : ∃ s c' : Nat, (∀ w, (callFunc 21 #[.int .u64 (x : Int), .int .u64 (y : Int), .int .u64 (c : Int)]).run Tryd.prog w = .ok (.value (.tuple #[.int .u64 (s : Int), .int .u64 (c' : Int)])) w) ∧ s + 18446744073709551616 * c' = x + y + c ∧ s < 18446744073709551616 ∧ c' ≤ 1 :=
  ⟨_, _, fun w => run_Add64 x y c hc w, by omega, by omega, by omega⟩
theorem P4.put {w wr : World} {x y d e : W4} (h : P4 w wr x y d) : P4 w (wr.setCells (w.heap.size + 3) 0 e.cs.toList) x y e := by
  have h0 := h.set (k := 0) (v := e.a) (by decide)
  have h1 := h0.set (k := 1) (v := e.b) (by decide)
  have h2 := h1.set (k := 2) (v := e.c) (by decide)
  exact h2.set (k := 3) (v := e.d) (by decide)
theorem plus_sum {x y d : W4} {c : Nat} (hx : x.val < ordN) (hy : y.val < ordN) (hc : c ≤ 1) (h : AI x y d c 4) : d.val = x.val + y.val ∧ d.val < 2 * ordN := by
  unfold AI at h
  rw [x.low_four, y.low_four, d.low_four] at h
  have h3 : ordN = 7237005577332262213973186563042994240857116359379907606001950938285454250989 := rfl
  have hc0 : c = 0 := by
    rw [h3] at hx hy
    clear h3
    omega
  subst hc0
  clear h3
  omega
theorem plus_less {d e : W4} {c : Nat} (he : e.ok) (hc : c ≤ 1) (hge : ordN ≤ d.val) (h2 : d.val < 2 * ordN) (h : d.val + c * 115792089237316195423570985008687907853269984665640564039457584007913129639936 = e.val + ordW.val) : e.val = d.val % ordN := by
  rw [ordW_val] at h
  have h1 := e.val_lt he
  have h3 : ordN = 7237005577332262213973186563042994240857116359379907606001950938285454250989 := rfl
  have hc0 : c = 0 := by
    rw [h3] at hge h2 h
    clear h3
    omega
  subst hc0
  rw [Nat.mod_eq_sub_mod hge, Nat.mod_eq_of_lt (by clear h3; omega)]
  clear h3
  omega
set_option maxRecDepth 100000 in
set_option maxHeartbeats 4000000 in
theorem plus_any (x y : W4) (hx : x.ok) (hy : y.ok) (hxl : x.val < ordN) (hyl : y.val < ordN) (w : World) : Calls Tryd.prog 30 #[.agg x.cs, .agg y.cs] w (NumPost ((x.val + y.val) % ordN) w) := by
  have hz48 : ∀ w, (zeroValue 48).run Tryd.prog w = .ok (.agg (W4.mk 0 0 0 0).cs) w := fun w => by kernel_rfl
  have H0 := Lib.hid (P4.start w x y)
  have Hx := Lib.hid hx
  have Hy := Lib.hid hy
  have Hlt := Lib.hid (And.intro hxl hyl)
  clear hx hy hxl hyl
  go_enter Tryd.func30, Tryd.ntmps30
  go_wp2
  go_loopw [6, 8] (fun cv i wr => ∃ (k : Nat) (d : W4) (c : Nat), k ≤ 4 ∧ i = .int .i64 k ∧ cv = .int .u64 (c : Int) ∧ c ≤ 1 ∧ Hid d.ok ∧ Hid (AI x y d c k) ∧ Hid (P4 w wr x y d)) (fun _ i _ => 4 - (intOf i).toNat)
  case atStart => exact ⟨0, ⟨0, 0, 0, 0⟩, 0, by omega, rfl, rfl, by omega, ⟨by decide, by decide, by decide, by decide⟩, rfl, H0⟩
  case round =>
    obtain ⟨k, d, c, hk, rfl, rfl, hc, hd, hI, h3⟩ := hrel
    clear H0
    by_cases hlt : k < 4
    · have hlt' : (k : Int) < 4 := by omega
      have hk0 : (0 : Int) ≤ (k : Int) := by omega
      go_wp2
      refine AnyC.startB (fun w' => w'.cell? ⟨w.heap.size, k, none⟩ = some (.int .u64 (x.wd k : Int)) ∧ w'.cell? ⟨w.heap.size + 1, k, none⟩ = some (.int .u64 (y.wd k : Int))) (by kernel_rfl) rfl ?_
      intro wd hbd _
      have h4 := Lib.hid (h3.out.drew hbd)
      clear hbd h3
      obtain ⟨s, c', hrun, hs, hsb, hcb⟩ := add_wc (x.wd k) (y.wd k) c (W4.wd_lt Hx.out k) (W4.wd_lt Hy.out k) hc
      have Hrun := Lib.hid hrun
      have HI := Lib.hid (AI.step hI.out hlt hs)
      have Hd := Lib.hid (W4.setw_ok (j := k) hd.out hsb)
      have co := cellw h4.out.d3 hlt
      have hfz := frozen_row h4.out.d3 k
      have h5 := Lib.hid (h4.out.set (k := k) (v := s) hlt)
      clear hrun hs hsb
      apply AnyC.take (i := 0) rfl (by kernel_rfl) rfl
      · intro w' hC K hK
        go_wp2
        exact hK
      · rfl
      apply AnyC.take (i := 1) rfl (by kernel_rfl) rfl
      · intro w' hC K hK
        go_wp2
        exact hK
      · rfl
      apply AnyC.take (i := 2) rfl (by kernel_rfl) rfl
      · intro w' hC K hK
        go_wp2
        exact hK
      · rfl
      apply AnyC.take (i := 3) rfl (by kernel_rfl) rfl
      · intro w' hC K hK
        obtain ⟨cx, _⟩ := hC
        go_wp2
        exact hK
      · rfl
      apply AnyC.take (i := 4) rfl (by kernel_rfl) rfl
      · intro w' hC K hK
        go_wp2
        exact hK
      · rfl
      apply AnyC.take (i := 5) rfl (by kernel_rfl) rfl
      · intro w' hC K hK
        go_wp2
        exact hK
      · rfl
      apply AnyC.take (i := 6) rfl (by kernel_rfl) rfl
      · intro w' hC K hK
        obtain ⟨_, cy⟩ := hC
        go_wp2
        exact hK
      · rfl
      apply AnyC.take (i := 7) rfl (by kernel_rfl) rfl
      · intro w' hC K hK
        go_wp2
        exact hK
      · rfl
      apply AnyC.take (i := 8) rfl (by kernel_rfl) rfl
      · intro w' hC K hK
        have hrun := Hrun.out w'
        go_wp2
        exact hK
      · rfl
      apply AnyC.take (i := 9) rfl (by kernel_rfl) rfl
      · intro w' hC K hK
        go_wp2
        exact hK
      · rfl
      apply AnyC.take (i := 10) rfl (by kernel_rfl) rfl
      · intro w' hC K hK
        go_wp2
        exact hK
      · rfl
      apply AnyC.take (i := 11) rfl (by kernel_rfl) rfl
      · intro w' hC K hK
        go_wp2
        exact hK
      · rfl
      apply AnyC.take (i := 12) rfl (by kernel_rfl) rfl
      · intro w' hC K hK
        go_wp2
        exact hK
      · rfl
      apply AnyC.solo (i := 13) rfl (by kernel_rfl) ⟨cellw h4.out.x0 hlt, cellw h4.out.y1 hlt⟩
      go_wp2
      refine ⟨rfl, ?_⟩
      apply AnyC.take (i := 14) rfl (by kernel_rfl) rfl
      · intro w' hC K hK
        go_wp2
        exact hK
      · rfl
      refine AnyC.done ⟨cellw h5.out.x0 hlt, cellw h5.out.y1 hlt⟩ (by kernel_rfl) ?_
      go_wp2
      go_roundw
      case rel => exact ⟨k + 1, _, c', hlt, by go_num, rfl, hcb, Hd, HI, h5⟩
      case measure => simp [intOf]; omega
    · obtain rfl : k = 4 := by omega
      have Hs := Lib.hid (plus_sum Hlt.out.1 Hlt.out.2 hc hI.out)
      clear hI
      go_wp2
      refine AnyC.startB (fun w' => w'.heap[w.heap.size + 3]? = some (.cells d.cs 48 (0, 0))) (by kernel_rfl) rfl ?_
      intro w4 hb4 _
      have h4 := Lib.hid (h3.out.drew hb4)
      clear hb4 h3
      apply AnyC.take (i := 0) rfl (by kernel_rfl) rfl
      · intro w' hC K hK
        obtain ⟨e0, e1, e2, e3⟩ := cell4 hC
        go_wp2
        exact hK
      · rfl
      apply AnyC.solo (i := 1) rfl (by kernel_rfl) h4.out.d3
      go_wp2_with (go_at_call 27; go_must (refine (order_any w4).mono ?_; rintro e w5 ⟨rfl, hb⟩; have h5 := Lib.hid (h4.out.drew hb); clear hb))
      refine ⟨rfl, ?_⟩
      apply AnyC.solo (i := 2) rfl (by kernel_rfl) h5.out.d3
      by_cases hlo : d.val < ordN
      · go_wp2_with (go_at_call 25; go_must (have h_ := below_any d ordW hd.out ordW_ok w5; rw [ordW_val, decide_eq_true hlo] at h_; refine h_.mono ?_; rintro e w6 ⟨rfl, hb⟩; have h6 := Lib.hid (h5.out.drew hb); clear hb h_))
        refine ⟨rfl, ?_⟩
        apply AnyC.take (i := 3) rfl (by kernel_rfl) rfl
        · intro w' hC K hK
          go_wp2
          exact hK
        · rfl
        refine AnyC.done h6.out.d3 (by kernel_rfl) ?_
        obtain ⟨e0, e1, e2, e3⟩ := cell4 h6.out.d3
        obtain ⟨z0, z1, z2, z3⟩ := cell4 h6.out.r2
        have hfz : ∀ i, w6.frozen? ⟨w.heap.size + 2, i, none⟩ = false := fun i => frozen_row h6.out.r2 i
        have hld : (loadVar 48 ⟨w.heap.size + 2, 0, none⟩).run Tryd.prog (w6.setCells (w.heap.size + 2) 0 d.cs.toList) = .ok (.agg d.cs) (w6.setCells (w.heap.size + 2) 0 d.cs.toList) := ret48 (World.rangeAt_setCells_same _ _ _ _ (there_row h6.out.r2 (Nat.le_refl 4)))
        have Hlo := Lib.hid hlo
        clear hlo
        go_wp2
        refine bodyPost_ret (v := .agg d.cs) (by simp [results, Tryd.results30, asAddr]; exact hld) rfl ⟨d, rfl, hd.out, ?_, ?_⟩
        · rw [← Hs.out.1, Nat.mod_eq_of_lt Hlo.out]
        · exact below4 h6.out.below (by omega)
      · have hge : ordN ≤ d.val := Nat.le_of_not_lt hlo
        have Hge := Lib.hid hge
        go_wp2_with (go_at_call 25; go_must (have h_ := below_any d ordW hd.out ordW_ok w5; rw [ordW_val, decide_eq_false hlo] at h_; refine h_.mono ?_; rintro e w6 ⟨rfl, hb⟩; have h6 := Lib.hid (h5.out.drew hb); clear hb h_))
        refine ⟨rfl, ?_⟩
        clear hlo hge
        apply AnyC.take (i := 3) rfl (by kernel_rfl) rfl
        · intro w' hC K hK
          go_wp2
          exact hK
        · rfl
        refine AnyC.done h6.out.d3 (by kernel_rfl) ?_
        go_wp2
        refine AnyZ.start [3] (by kernel_rfl) rfl ?_
        apply AnyZ.take (i := 0) rfl (by kernel_rfl) (by kernel_rfl) rfl
        · intro w' hC K hK
          obtain ⟨e0, e1, e2, e3⟩ := cell4 (h6.out.drew hC).d3
          go_wp2
          exact hK
        · rfl
        apply AnyZ.solo (i := 1) rfl (by kernel_rfl)
        intro w7 hC7
        have h7 := Lib.hid (h6.out.drew hC7)
        have HC7 := Lib.hid hC7
        clear hC7
        go_wp2_with (go_at_call 27; go_must (refine (order_any w7).mono ?_; rintro e w8 ⟨rfl, hb⟩; have h8 := Lib.hid (h7.out.drew hb); have hB8 := Lib.hid (HC7.out.trans (hb.mono HC7.out.size)); clear hb))
        refine ⟨rfl, hB8.out, ?_⟩
        apply AnyZ.solo (i := 2) rfl (by kernel_rfl)
        intro wa hCa
        have ha := Lib.hid (h8.out.drew hCa)
        have HCa := Lib.hid hCa
        clear hCa
        go_wp2_with (go_at_call 31; go_must (refine (less48_any d ordW hd.out ordW_ok wa).mono ?_; rintro e w9 ⟨f, c2, rfl, hf, hc2, hv, hb⟩; have h9 := Lib.hid (ha.out.drew hb); have hB9 := Lib.hid (HCa.out.trans (hb.mono HCa.out.size)); have Hf := Lib.hid (And.intro hf (plus_less hf hc2 Hge.out Hs.out.2 hv)); clear hb hf hc2 hv))
        refine ⟨rfl, hB9.out, ?_⟩
        apply AnyZ.soloW (i := 3) rfl (by kernel_rfl)
        intro wb hCb
        have hb := Lib.hid (h9.out.drew hCb)
        clear hCb
        refine wpList_store_mid rfl _ _ _ rfl (w.heap.size + 3) 0 f.cs rfl rfl (there_row hb.out.d3 (Nat.le_refl 4)) (by kernel_rfl) (by kernel_rfl) ?_
        go_wp2
        refine ⟨rfl, ?_⟩
        have hp : Hid (P4 w (wb.setCells (w.heap.size + 3) 0 f.cs.toList) x y f) := hb.out.put
        refine AnyW.done (by kernel_rfl) ?_
        obtain ⟨e0, e1, e2, e3⟩ := cell4 hp.out.d3
        obtain ⟨z0, z1, z2, z3⟩ := cell4 hp.out.r2
        have hfz : ∀ i, (wb.setCells (w.heap.size + 3) 0 f.cs.toList).frozen? ⟨w.heap.size + 2, i, none⟩ = false := fun i => frozen_row hp.out.r2 i
        have hld : (loadVar 48 ⟨w.heap.size + 2, 0, none⟩).run Tryd.prog ((wb.setCells (w.heap.size + 3) 0 f.cs.toList).setCells (w.heap.size + 2) 0 f.cs.toList) = .ok (.agg f.cs) ((wb.setCells (w.heap.size + 3) 0 f.cs.toList).setCells (w.heap.size + 2) 0 f.cs.toList) := ret48 (World.rangeAt_setCells_same _ _ _ _ (there_row hp.out.r2 (Nat.le_refl 4)))
        go_wp2
        refine bodyPost_ret (v := .agg f.cs) (by simp [results, Tryd.results30, asAddr]; exact hld) rfl ⟨f, rfl, Hf.out.1, ?_, ?_⟩
        · rw [Hf.out.2, Hs.out.1]
        · exact below4 hp.out.below (by omega)
end Go.Proofs.YtagjeideohplpaaDoor
