/- The texts NB3 NB4 NT0 of this work, merged by wip/merge.py. No conditions. -/
import Derived.Test.YtnhdepmalejclaaGreatDoorQG33
namespace Go.Proofs.YtnhdepmalejclaaGreatDoor
open Go.RowKit Go.Lib
set_option maxRecDepth 100000 in
set_option maxHeartbeats 1000000 in
theorem plusR_any (a b : Nat) (ha : a < 115792089237316195423570985008687907853269984665640564039457584007913129639936) (hb : b < 115792089237316195423570985008687907853269984665640564039457584007913129639936) (w : World) : Calls Tryz.prog 148 #[.agg (nc a), .agg (nc b)] w (NRet (plusR a b) w) := by
  have F0 := Lib.hid (BK.start w)
  have T0 : Hid True := trivial
  have HC := Lib.hid (ca_four ha hb)
  have HCl := Lib.hid (caN_le a b (k := 4) (by decide))
  obtain ⟨s, hs⟩ : ∃ s, s = a + b := ⟨_, rfl⟩
  have HS := Lib.hid hs
  rw [← hs] at HC
  have HR : Hid (foldR (s % 115792089237316195423570985008687907853269984665640564039457584007913129639936) (s / 115792089237316195423570985008687907853269984665640564039457584007913129639936) = plusR a b) := by show _ = _; rw [hs]; rfl
  obtain ⟨R, hR⟩ : ∃ R, R = plusR a b := ⟨_, rfl⟩
  rw [← hR] at HR ⊢
  have C1 : Hid (∀ w, Calls Tryz.prog 181 #[.agg (nc s), .int .u64 (caN a b 4 : Int)] w (NRet R w)) := fun w => by
    rw [← HR.out, ← nc_mod, HC.out]
    exact fold_any _ _ (Nat.mod_lt _ (by decide)) (by have := HCl.out; rw [HC.out] at this; omega) w
  clear ha hb hs hR HR HC HCl
  go_enter Tryz.func148, Tryz.ntmps148
  go_wp2_with (first
    | (have hx_ := T0; refine s_box F0.out rfl rfl rfl rfl ?_; clear hx_ T0; intro w1 b1 h1 _; have F1 := Lib.hid h1; clear h1 F0; have T1 : Hid True := trivial)
    | (have hx_ := T1; refine s_box F1.out rfl rfl rfl rfl ?_; clear hx_ T1; intro w2 b2 h1 _; have F2 := Lib.hid h1; clear h1 F1; have T2 : Hid True := trivial)
    | (have hx_ := T2; refine s_alloc F2.out rfl rfl zeroN rfl ?_; clear hx_ T2; intro w3 b3 h1 _; have F3 := Lib.hid h1; clear h1 F2; have T3 : Hid True := trivial)
    | (have hx_ := T3; refine s_alloc F3.out rfl rfl zeroN rfl ?_; clear hx_ T3; intro w4 b4 h1 _; have F4 := Lib.hid h1; clear h1 F3))
  go_loopw [6, 8] (fun cv iv wr => ∃ k : Nat, k ≤ 4 ∧ iv = .int .i64 (k : Int) ∧ cv = .int .u64 (caN a b k : Int) ∧ Hid (BK w wr [(b4, nc (s % pM k), 181), (b3, nc 0, 181), (b2, nc b, 181), (b1, nc a, 181)])) (fun _ i _ => 4 - (Go.RowKit.intOf i).toNat)
  case atStart => exact ⟨0, Nat.zero_le _, rfl, by simp [caN, pM, Nat.mod_one], by show BK _ _ _; rw [show s % pM 0 = 0 from Nat.mod_one _]; exact F4.out⟩
  case round =>
    obtain ⟨k, hk, rfl, rfl, hF⟩ := hrel
    clear F4
    by_cases hlt : k < 4
    · have hlt' : (k : Int) < 4 := by omega
      have hk0 : (0 : Int) ≤ (k : Int) := by omega
      have hrun := run_add a b hlt
      rw [← HS.out] at hrun
      have Hrun := Lib.hid hrun
      have HL := Lib.hid hlt
      clear hlt hk hrun
      go_wp2
      refine AnyC.startB (fun w' => w'.cell? ⟨b1, k, none⟩ = some (.int .u64 (nw a k : Int)) ∧ w'.cell? ⟨b2, k, none⟩ = some (.int .u64 (nw b k : Int))) (by kernel_rfl) rfl ?_
      intro wd hbd _
      have h4 := Lib.hid (hF.out.later hbd)
      clear hbd hF
      apply AnyC.take (i := 0) rfl (by kernel_rfl) rfl
      · intro w' hC K hK
        go_wp2
        exact hK
      · rfl
      apply AnyC.take (i := 1) rfl (by kernel_rfl) rfl
      · intro w' hC K hK
        go_wp2
        exact hK
      · rfl
      apply AnyC.take (i := 2) rfl (by kernel_rfl) rfl
      · intro w' hC K hK
        go_wp2
        exact hK
      · rfl
      apply AnyC.take (i := 3) rfl (by kernel_rfl) rfl
      · intro w' hC K hK
        obtain ⟨cx, _⟩ := hC
        go_wp2
        exact hK
      · rfl
      apply AnyC.take (i := 4) rfl (by kernel_rfl) rfl
      · intro w' hC K hK
        go_wp2
        exact hK
      · rfl
      apply AnyC.take (i := 5) rfl (by kernel_rfl) rfl
      · intro w' hC K hK
        go_wp2
        exact hK
      · rfl
      apply AnyC.take (i := 6) rfl (by kernel_rfl) rfl
      · intro w' hC K hK
        obtain ⟨_, cy⟩ := hC
        go_wp2
        exact hK
      · rfl
      apply AnyC.take (i := 7) rfl (by kernel_rfl) rfl
      · intro w' hC K hK
        go_wp2
        exact hK
      · rfl
      apply AnyC.take (i := 8) rfl (by kernel_rfl) rfl
      · intro w' hC K hK
        have hrun := Hrun.out w'
        go_wp2
        exact hK
      · rfl
      apply AnyC.take (i := 9) rfl (by kernel_rfl) rfl
      · intro w' hC K hK
        go_wp2
        exact hK
      · rfl
      apply AnyC.take (i := 10) rfl (by kernel_rfl) rfl
      · intro w' hC K hK
        go_wp2
        exact hK
      · rfl
      apply AnyC.take (i := 11) rfl (by kernel_rfl) rfl
      · intro w' hC K hK
        go_wp2
        exact hK
      · rfl
      apply AnyC.take (i := 12) rfl (by kernel_rfl) rfl
      · intro w' hC K hK
        go_wp2
        exact hK
      · rfl
      apply AnyC.solo (i := 13) rfl (by kernel_rfl) ⟨(h4.out.cell 3 rfl k).trans (nc_at a HL.out), (h4.out.cell 2 rfl k).trans (nc_at b HL.out)⟩
      go_wp2_with (refine s_set64 h4.out rfl rfl 0 rfl k (by show k < 4; exact HL.out) rfl _ rfl ?_; intro w5 h5; simp only [List.set_cons_zero] at h5; rw [nc_set s HL.out] at h5; have F5 := Lib.hid h5; clear h5)
      refine ⟨rfl, ?_⟩
      apply AnyC.take (i := 14) rfl (by kernel_rfl) rfl
      · intro w' hC K hK
        go_wp2
        exact hK
      · rfl
      refine AnyC.done ⟨(F5.out.cell 3 rfl k).trans (nc_at a HL.out), (F5.out.cell 2 rfl k).trans (nc_at b HL.out)⟩ (by kernel_rfl) ?_
      go_wp2
      go_roundw
      case rel => exact ⟨k + 1, HL.out, by go_num, rfl, F5.out⟩
      case measure => simp [Go.RowKit.intOf]; have := HL.out; omega
    · obtain rfl : k = 4 := by omega
      have hd : decide (((4 : Nat) : Int) < 4) = false := by decide
      rw [show nc (s % pM 4) = nc s from nc_mod s] at hF
      go_wp2_with (first
        | (refine s_load_n rfl rfl s rfl (hF.out.ln 0 rfl) ?_)
        | (go_at_call 181; refine (C1.out _).mono ?_; rintro e w4 ⟨rfl, hb⟩; have F4 := Lib.hid (hF.out.later hb); clear hb hF)
        | (have hx_ := F4; refine s_store hx_.out rfl rfl 1 rfl rfl (nc R) rfl rfl (by kernel_rfl) (nc_cells _) ?_; clear F4 hx_; intro w5 h1; have F5 := Lib.hid h1; clear h1))
      exact bodyPost_ret (v := .agg (nc R)) (by simp [results, Tryz.results148, asAddr]; exact retN (F5.out.mem (i := 1) rfl)) rfl ⟨rfl, F5.out.below⟩
end Go.Proofs.YtnhdepmalejclaaGreatDoor

namespace Go.Proofs.YtnhdepmalejclaaGreatDoor
open Go.RowKit Go.Lib
theorem nc_pR : nc pR = #[.int .u64 18446744073709551597, .int .u64 18446744073709551615, .int .u64 18446744073709551615, .int .u64 9223372036854775807] := by kernel_rfl
set_option maxRecDepth 100000 in
set_option maxHeartbeats 400000 in
theorem pR_any (w : World) : Calls Tryz.prog 180 #[] w (NRet pR w) := by
  have F0 := Lib.hid (BK.start w)
  have hz := zeroN
  go_enter Tryz.func180, Tryz.ntmps180
  go_wp2_with (first
    | (have hx_ := F0; refine s_alloc hx_.out rfl rfl zeroN rfl ?_; clear F0 hx_; intro w1 b1 h1 _; have F1 := Lib.hid h1; clear h1)
    | (have hx_ := F1; refine s_store hx_.out rfl rfl 0 rfl rfl (nc pR) (by rw [nc_pR]; rfl) rfl (by kernel_rfl) (nc_cells _) ?_; clear F1 hx_; intro w4 h1; have F2 := Lib.hid h1; clear h1))
  exact bodyPost_ret (v := .agg (nc pR)) (by simp [results, Tryz.results180, asAddr]; exact retN (F2.out.mem (i := 0) rfl)) rfl ⟨rfl, F2.out.below⟩
theorem nc_dR : nc dR = #[.int .u64 8496970652267935907, .int .u64 31536524315187371, .int .u64 10144147576115030168, .int .u64 5909686906226998899] := by kernel_rfl
set_option maxRecDepth 100000 in
set_option maxHeartbeats 400000 in
theorem dR_any (w : World) : Calls Tryz.prog 149 #[] w (NRet dR w) := by
  have F0 := Lib.hid (BK.start w)
  have hz := zeroN
  go_enter Tryz.func149, Tryz.ntmps149
  go_wp2_with (first
    | (have hx_ := F0; refine s_alloc hx_.out rfl rfl zeroN rfl ?_; clear F0 hx_; intro w1 b1 h1 _; have F1 := Lib.hid h1; clear h1)
    | (have hx_ := F1; refine s_store hx_.out rfl rfl 0 rfl rfl (nc dR) (by rw [nc_dR]; rfl) rfl (by kernel_rfl) (nc_cells _) ?_; clear F1 hx_; intro w4 h1; have F2 := Lib.hid h1; clear h1))
  exact bodyPost_ret (v := .agg (nc dR)) (by simp [results, Tryz.results149, asAddr]; exact retN (F2.out.mem (i := 0) rfl)) rfl ⟨rfl, F2.out.below⟩
theorem nc_iR : nc iR = #[.int .u64 14190309331451158704, .int .u64 3405592160176694392, .int .u64 3120150775007532967, .int .u64 3135389899092516619] := by kernel_rfl
set_option maxRecDepth 100000 in
set_option maxHeartbeats 400000 in
theorem iR_any (w : World) : Calls Tryz.prog 184 #[] w (NRet iR w) := by
  have F0 := Lib.hid (BK.start w)
  have hz := zeroN
  go_enter Tryz.func184, Tryz.ntmps184
  go_wp2_with (first
    | (have hx_ := F0; refine s_alloc hx_.out rfl rfl zeroN rfl ?_; clear F0 hx_; intro w1 b1 h1 _; have F1 := Lib.hid h1; clear h1)
    | (have hx_ := F1; refine s_store hx_.out rfl rfl 0 rfl rfl (nc iR) (by rw [nc_iR]; rfl) rfl (by kernel_rfl) (nc_cells _) ?_; clear F1 hx_; intro w4 h1; have F2 := Lib.hid h1; clear h1))
  exact bodyPost_ret (v := .agg (nc iR)) (by simp [results, Tryz.results184, asAddr]; exact retN (F2.out.mem (i := 0) rfl)) rfl ⟨rfl, F2.out.below⟩
theorem nc_small {n : Nat} (hn : n < 18446744073709551616) : nc n = #[.int .u64 (n : Int), .int .u64 0, .int .u64 0, .int .u64 0] := by
  have h0 : nw n 0 = n := Nat.mod_eq_of_lt hn
  have h1 : nw n 1 = 0 := by simp only [nw]; rw [Nat.div_eq_of_lt hn]
  have h2 : nw n 2 = 0 := by simp only [nw]; rw [Nat.div_eq_of_lt (Nat.lt_trans hn (by decide))]
  have h3 : nw n 3 = 0 := by simp only [nw]; rw [Nat.div_eq_of_lt (Nat.lt_trans hn (by decide))]
  unfold nc
  rw [h0, h1, h2, h3]
  rfl
set_option maxRecDepth 100000 in
set_option maxHeartbeats 400000 in
theorem Small_any (n : Nat) (hn : n < 18446744073709551616) (w : World) : Calls Tryz.prog 146 #[.int .u64 (n : Int)] w (NRet n w) := by
  have F0 := Lib.hid (BK.start w)
  have HN := Lib.hid (nc_small hn)
  have hz := zeroN
  go_enter Tryz.func146, Tryz.ntmps146
  go_wp2_with (first
    | (have hx_ := F0; refine s_alloc hx_.out rfl rfl zeroN rfl ?_; clear F0 hx_; intro w1 b1 h1 _; have F1 := Lib.hid h1; clear h1)
    | (have hx_ := F1; refine s_store hx_.out rfl rfl 0 rfl rfl (nc n) (by rw [HN.out]; rfl) rfl (by kernel_rfl) (nc_cells _) ?_; clear F1 hx_; intro w4 h1; have F2 := Lib.hid h1; clear h1))
  exact bodyPost_ret (v := .agg (nc n)) (by simp [results, Tryz.results146, asAddr]; exact retN (F2.out.mem (i := 0) rfl)) rfl ⟨rfl, F2.out.below⟩
theorem nw_split {v : Nat} (h : v < 115792089237316195423570985008687907853269984665640564039457584007913129639936) : v = nw v 0 + 18446744073709551616 * nw v 1 + 340282366920938463463374607431768211456 * nw v 2 + 6277101735386680763835789423207666416102355444464034512896 * nw v 3 := by
  simp only [nw]; omega
theorem below_at {a b : Nat} (ha : a < 115792089237316195423570985008687907853269984665640564039457584007913129639936) (hb : b < 115792089237316195423570985008687907853269984665640564039457584007913129639936) {m : Nat} (hm : m < 4) (he : ∀ j, m + 1 ≤ j → j < 4 → nw a j = nw b j) (hne : nw a m ≠ nw b m) : decide (a < b) = decide (nw a m < nw b m) := by
  have h1 := nw_split ha
  have h2 := nw_split hb
  have l0 := nw_lt a 0
  have l1 := nw_lt a 1
  have l2 := nw_lt a 2
  have l3 := nw_lt b 0
  have l4 := nw_lt b 1
  have l5 := nw_lt b 2
  have key : a < b ↔ nw a m < nw b m := by
    obtain rfl | rfl | rfl | rfl : m = 0 ∨ m = 1 ∨ m = 2 ∨ m = 3 := by omega
    · have q1 := he 1 (by decide) (by decide)
      have q2 := he 2 (by decide) (by decide)
      have q3 := he 3 (by decide) (by decide)
      omega
    · have q2 := he 2 (by decide) (by decide)
      have q3 := he 3 (by decide) (by decide)
      omega
    · have q3 := he 3 (by decide) (by decide)
      omega
    · omega
  simp only [key]
theorem below_same {a b : Nat} (ha : a < 115792089237316195423570985008687907853269984665640564039457584007913129639936) (hb : b < 115792089237316195423570985008687907853269984665640564039457584007913129639936) (he : ∀ j, 0 ≤ j → j < 4 → nw a j = nw b j) : decide (a < b) = false := by
  have h1 := nw_split ha
  have h2 := nw_split hb
  rw [he 0 (by decide) (by decide), he 1 (by decide) (by decide), he 2 (by decide) (by decide), he 3 (by decide) (by decide), ← h2] at h1
  rw [h1]; simp
set_option maxRecDepth 100000 in
set_option maxHeartbeats 1000000 in
theorem belowR_any (a b : Nat) (ha : a < 115792089237316195423570985008687907853269984665640564039457584007913129639936) (hb : b < 115792089237316195423570985008687907853269984665640564039457584007913129639936) (w : World) : Calls Tryz.prog 179 #[.agg (nc a), .agg (nc b)] w (fun e w' => e = .returned (.bool (decide (a < b))) ∧ Below w.heap.size w w') := by
  have F0 := Lib.hid (BK.start w)
  have T0 : Hid True := trivial
  have HA := Lib.hid ha
  have HB := Lib.hid hb
  clear ha hb
  go_enter Tryz.func179, Tryz.ntmps179
  go_wp2_with (first
    | (have hx_ := T0; refine s_box F0.out rfl rfl rfl rfl ?_; clear hx_ T0; intro w1 b1 h1 _; have F1 := Lib.hid h1; clear h1 F0; have T1 : Hid True := trivial)
    | (have hx_ := T1; refine s_box F1.out rfl rfl rfl rfl ?_; clear hx_ T1; intro w2 b2 h1 _; have F2 := Lib.hid h1; clear h1 F1))
  go_loopw [5] (fun iv wr => ∃ k : Nat, k ≤ 4 ∧ iv = .int .i64 ((k : Int) - 1) ∧ Hid (∀ j, k ≤ j → j < 4 → nw a j = nw b j) ∧ Hid (BK w wr [(b2, nc b, 181), (b1, nc a, 181)])) (fun i _ => (Go.RowKit.intOf i + 1).toNat)
  case atStart => exact ⟨4, by decide, by go_num, fun j h1 h2 => by omega, F2.out⟩
  case round =>
    obtain ⟨k, hk, rfl, hE, hF⟩ := hrel
    clear F2
    cases k with
    | zero =>
      have e : ((0 : Nat) : Int) - 1 = -1 := rfl
      rw [e]
      go_wp2
      exact bodyPost_ret (v := .bool false) (by simp [results, Tryz.results179]) rfl ⟨by rw [below_same HA.out HB.out hE.out], hF.out.below⟩
    | succ m =>
      have e : ((m + 1 : Nat) : Int) - 1 = (m : Int) := by omega
      rw [e]
      have hm4 : m < 4 := by omega
      have hlt' : (m : Int) < 4 := by omega
      have hk0 : (0 : Int) ≤ (m : Int) := by omega
      have cx := (hF.out.cell 1 rfl m).trans (nc_at a hm4)
      have cy := (hF.out.cell 0 rfl m).trans (nc_at b hm4)
      obtain ⟨xm, hxm⟩ : ∃ n, n = nw a m := ⟨_, rfl⟩
      obtain ⟨ym, hym⟩ : ∃ n, n = nw b m := ⟨_, rfl⟩
      have Hxm := Lib.hid hxm
      have Hym := Lib.hid hym
      rw [← hxm] at cx
      rw [← hym] at cy
      have HM := Lib.hid hm4
      clear e hxm hym hk hm4
      by_cases heq : xm = ym
      · have hq : ((xm : Int) == (ym : Int)) = true := by rw [heq]; simp
        have hq2 : ((xm : Int) != (ym : Int)) = false := by rw [heq]; simp
        have HE : Hid (∀ j, m ≤ j → j < 4 → nw a j = nw b j) := by
          intro j h1 h2
          rcases Nat.lt_or_ge m j with h | h
          · exact hE.out j h h2
          · obtain rfl : j = m := by omega
            rw [← Hxm.out, ← Hym.out, heq]
        clear heq hE
        go_wp2
        go_quiet (fail)
        have F5 : Hid (BK w (wr.drewN nq) [(b2, nc b, 181), (b1, nc a, 181)]) := hF.out.later ⟨rfl, rfl, rfl, Nat.le_refl _, fun _ _ => rfl⟩
        go_wp2
        go_roundw
        case rel => exact ⟨m, by have := HM.out; omega, by go_num, HE, F5⟩
        case measure => simp [Go.RowKit.intOf]
      · have hq : ((xm : Int) == (ym : Int)) = false := beq_eq_false_iff_ne.2 (by omega)
        have hq2 : ((xm : Int) != (ym : Int)) = true := bne_iff_ne.2 (by omega)
        have HBl : Hid (decide (a < b) = decide (xm < ym)) := by
          show _ = _
          rw [below_at HA.out HB.out HM.out (fun j h1 h2 => hE.out j h1 h2) (by rw [← Hxm.out, ← Hym.out]; exact heq), Hxm.out, Hym.out]
        clear heq hE
        go_wp2
        go_quiet (fail)
        go_wp2
        go_quiet (fail)
        go_wp2
        exact bodyPost_ret (v := .bool (decide (xm < ym))) (by simp [results, Tryz.results179]) rfl ⟨by rw [HBl.out], hF.out.below.trans ⟨rfl, rfl, rfl, Nat.le_refl _, fun _ _ => rfl⟩⟩
theorem pR_lt : pR < 115792089237316195423570985008687907853269984665640564039457584007913129639936 := by decide
set_option maxRecDepth 100000 in
set_option maxHeartbeats 1000000 in
theorem leastR_any (a : Nat) (ha : a < 115792089237316195423570985008687907853269984665640564039457584007913129639936) (w : World) : Calls Tryz.prog 150 #[.agg (nc a)] w (NRet (a % pR) w) := by
  have F0 := Lib.hid (BK.start w)
  have T0 : Hid True := trivial
  have HA := Lib.hid ha
  obtain ⟨R, hR⟩ : ∃ R, R = a % pR := ⟨_, rfl⟩
  have HR := Lib.hid hR
  rw [← hR]
  have Cp : Hid (∀ w, Calls Tryz.prog 180 #[] w (fun e w' => e = .returned (.agg (nc pR)) ∧ Below w.heap.size w w')) := fun w => pR_any w
  clear ha hR
  go_enter Tryz.func150, Tryz.ntmps150
  go_wp2_with (first
    | (have hx_ := T0; refine s_box F0.out rfl rfl rfl rfl ?_; clear hx_ T0; intro w1 b1 h1 _; have F1 := Lib.hid h1; clear h1 F0; have T1 : Hid True := trivial)
    | (have hx_ := T1; refine s_alloc F1.out rfl rfl zeroN rfl ?_; clear hx_ T1; intro w2 b2 h1 _; have F2 := Lib.hid h1; clear h1 F1))
  try simp only [Act.put]
  try simp only [List.setIfInBounds_toArray, List.set_cons_succ, List.set_cons_zero]
  go_loopw [] (fun wr => ∃ v : Nat, Hid (v < 115792089237316195423570985008687907853269984665640564039457584007913129639936 ∧ v % pR = R ∧ BK w wr [(b2, nc 0, 181), (b1, nc v, 181)])) (fun wr => numAt wr b1)
  case atStart => exact ⟨a, HA.out, HR.out.symm, F2.out⟩
  case round =>
    obtain ⟨v, hA⟩ := hrel
    clear F2
    have hF := Lib.hid hA.out.2.2
    have hv := Lib.hid hA.out.1
    have hE := Lib.hid hA.out.2.1
    clear hA
    have HNA := Lib.hid (numAt_of (hF.out.mem (i := 1) rfl) hv.out)
    obtain ⟨d, hd⟩ : ∃ d, d = decide (v < pR) := ⟨_, rfl⟩
    have Cb : Hid (∀ w, Calls Tryz.prog 179 #[.agg (nc v), .agg (nc pR)] w (fun e w' => e = .returned (.bool d) ∧ Below w.heap.size w w')) := fun w => by rw [hd]; exact belowR_any v pR hv.out pR_lt w
    have HD := Lib.hid hd
    clear hd
    cases d with
    | true =>
      have hlt : Hid (v < pR) := by have := HD.out; show v < pR; simpa using this.symm
      have HE : Hid (v = R) := by show v = R; rw [← hE.out, Nat.mod_eq_of_lt hlt.out]
      go_wp2
      refine wp_region_walk 4 [] (by kernel_rfl) (by kernel_rfl) (allocs_ok (by kernel_rfl) (fun x hx => (List.not_mem_nil hx).elim)) ?Af1 ?h1 ?hK1
      case h1 =>
        intro F hFs hNe
        try simp only [Act.put]
        try simp only [List.setIfInBounds_toArray, List.set_cons_succ, List.set_cons_zero]
        simp only [List.take_succ_cons, List.take_zero]
        go_big_quiet_want
        refine q_load_n rfl v rfl (hF.out.ln 1 rfl) ?_
        go_big_quiet_on
        simp only [Act.put, List.setIfInBounds_toArray, List.set_cons_succ, List.set_cons_zero]
        go_big_quiet_step (exact fs_call hFs (Cp.out _))
        go_big_quiet_step (exact fs_call hFs (Cb.out _))
        go_big_quiet_step (fail)
        refine wpQuiet_nil ?_
        exact rfl
      case hK1 =>
        intro w3 hb
        have F3 := Lib.hid (hF.out.later hb)
        clear hb
        simp only [freshQ]
        try simp only [Act.put]
        simp only [List.length_nil, Nat.reduceAdd, List.drop_succ_cons, List.drop_zero]
        go_wp2_with (first
          | (refine s_load_n rfl rfl v rfl (F3.out.ln 1 rfl) ?_)
          | (refine s_store F3.out rfl rfl 0 rfl rfl (nc v) rfl rfl (by kernel_rfl) (nc_cells _) ?_; intro w5 h1; have F5 := Lib.hid h1; clear h1 F3))
        exact bodyPost_ret (v := .agg (nc v)) (by simp [results, Tryz.results150, asAddr]; exact retN (F5.out.mem (i := 0) rfl)) rfl ⟨by rw [HE.out], F5.out.below⟩
    | false =>
      have hge : Hid (pR ≤ v) := by have := HD.out; show pR ≤ v; simpa using this.symm
      obtain ⟨u, hu⟩ : ∃ u, u = v - pR := ⟨_, rfl⟩
      have Cl : Hid (∀ w, Calls Tryz.prog 185 #[.agg (nc v), .agg (nc pR)] w (fun e w' => e = .returned (.agg (nc u)) ∧ Below w.heap.size w w')) := fun w => by rw [hu]; exact lessR_any v pR hv.out hge.out w
      have HU : Hid (u < 115792089237316195423570985008687907853269984665640564039457584007913129639936 ∧ u % pR = R ∧ u < v) := by
        have h1 := hv.out
        have h2 := hge.out
        have h3 : 0 < pR := by decide
        refine ⟨by omega, ?_, by omega⟩
        rw [hu, ← hE.out, Nat.mod_eq_sub_mod h2]
      clear hu
      go_wp2
      refine wp_region_walk 4 [] (by kernel_rfl) (by kernel_rfl) (allocs_ok (by kernel_rfl) (fun x hx => (List.not_mem_nil hx).elim)) ?Af2 ?h2 ?hK2
      case h2 =>
        intro F hFs hNe
        try simp only [Act.put]
        try simp only [List.setIfInBounds_toArray, List.set_cons_succ, List.set_cons_zero]
        simp only [List.take_succ_cons, List.take_zero]
        go_big_quiet_want
        refine q_load_n rfl v rfl (hF.out.ln 1 rfl) ?_
        go_big_quiet_on
        simp only [Act.put, List.setIfInBounds_toArray, List.set_cons_succ, List.set_cons_zero]
        go_big_quiet_step (exact fs_call hFs (Cp.out _))
        go_big_quiet_step (exact fs_call hFs (Cb.out _))
        go_big_quiet_step (fail)
        refine wpQuiet_nil ?_
        exact rfl
      case hK2 =>
        intro w3 hb
        have F3 := Lib.hid (hF.out.later hb)
        clear hb
        simp only [freshQ]
        try simp only [Act.put]
        simp only [List.length_nil, Nat.reduceAdd, List.drop_succ_cons, List.drop_zero]
        go_wp2
        refine wp_region_walk 3 [] (by kernel_rfl) (by kernel_rfl) (allocs_ok (by kernel_rfl) (fun x hx => (List.not_mem_nil hx).elim)) ?Af3 ?h3 ?hK3
        case h3 =>
          intro F hFs hNe
          try simp only [Act.put]
          try simp only [List.setIfInBounds_toArray, List.set_cons_succ, List.set_cons_zero]
          simp only [List.take_succ_cons, List.take_zero]
          go_big_quiet_want
          refine q_load_n rfl v rfl (F3.out.ln 1 rfl) ?_
          go_big_quiet_on
          simp only [Act.put, List.setIfInBounds_toArray, List.set_cons_succ, List.set_cons_zero]
          go_big_quiet_step (exact fs_call hFs (Cp.out _))
          go_big_quiet_step (exact fs_call hFs (Cl.out _))
          refine wpQuiet_nil ?_
          exact rfl
        case hK3 =>
          intro w4 hb
          have F4 := Lib.hid (F3.out.later hb)
          clear hb
          simp only [freshQ]
          try simp only [Act.put]
          simp only [List.length_nil, Nat.reduceAdd, List.drop_succ_cons, List.drop_zero]
          go_wp2_with (refine s_store F4.out rfl rfl 1 rfl rfl (nc u) rfl rfl (by kernel_rfl) (nc_cells _) ?_; intro w5 h1; have F5 := Lib.hid h1; clear h1 F4)
          go_roundw
          case rel => exact ⟨_, _, _, _, _, _, _, ⟨u, HU.out.1, HU.out.2.1, F5.out⟩, rfl⟩
          case measure =>
            rw [numAt_of (F5.out.mem (i := 1) rfl) HU.out.1, HNA.out]
            exact HU.out.2.2
theorem minus_lt (b : Nat) : pR - b % pR < 115792089237316195423570985008687907853269984665640564039457584007913129639936 := Nat.lt_of_le_of_lt (Nat.sub_le _ _) pR_lt
set_option maxRecDepth 100000 in
set_option maxHeartbeats 1000000 in
theorem minusR_any (a b : Nat) (ha : a < 115792089237316195423570985008687907853269984665640564039457584007913129639936) (hb : b < 115792089237316195423570985008687907853269984665640564039457584007913129639936) (w : World) : Calls Tryz.prog 145 #[.agg (nc a), .agg (nc b)] w (NRet (minusR a b) w) := by
  have F0 := Lib.hid (BK.start w)
  have T0 : Hid True := trivial
  have Cp : Hid (∀ w, Calls Tryz.prog 180 #[] w (fun e w' => e = .returned (.agg (nc pR)) ∧ Below w.heap.size w w')) := fun w => pR_any w
  obtain ⟨l, hl⟩ : ∃ l, l = b % pR := ⟨_, rfl⟩
  have Cl : Hid (∀ w, Calls Tryz.prog 150 #[.agg (nc b)] w (fun e w' => e = .returned (.agg (nc l)) ∧ Below w.heap.size w w')) := fun w => by rw [hl]; exact leastR_any b hb w
  obtain ⟨d, hd⟩ : ∃ d, d = pR - l := ⟨_, rfl⟩
  have Cd : Hid (∀ w, Calls Tryz.prog 185 #[.agg (nc pR), .agg (nc l)] w (fun e w' => e = .returned (.agg (nc d)) ∧ Below w.heap.size w w')) := fun w => by rw [hd]; exact lessR_any pR l pR_lt (by rw [hl]; exact Nat.le_of_lt (Nat.mod_lt _ (by decide))) w
  obtain ⟨r, hr⟩ : ∃ r, r = plusR a d := ⟨_, rfl⟩
  have Cr : Hid (∀ w, Calls Tryz.prog 148 #[.agg (nc a), .agg (nc d)] w (fun e w' => e = .returned (.agg (nc r)) ∧ Below w.heap.size w w')) := fun w => by rw [hr]; exact plusR_any a d ha (by rw [hd, hl]; exact minus_lt b) w
  have HR : Hid (minusR a b = r) := by show _ = _; rw [hr, hd, hl]; rfl
  rw [HR.out]
  clear ha hb hl hd hr HR
  go_enter Tryz.func145, Tryz.ntmps145
  go_wp2_with (first
    | (have hx_ := T0; refine s_box F0.out rfl rfl rfl rfl ?_; clear hx_ T0; intro w1 b1 h1 _; have F1 := Lib.hid h1; clear h1 F0; have T1 : Hid True := trivial)
    | (have hx_ := T1; refine s_box F1.out rfl rfl rfl rfl ?_; clear hx_ T1; intro w2 b2 h1 _; have F2 := Lib.hid h1; clear h1 F1; have T2 : Hid True := trivial)
    | (have hx_ := T2; refine s_alloc F2.out rfl rfl zeroN rfl ?_; clear hx_ T2; intro w3 b3 h1 _; have F3 := Lib.hid h1; clear h1 F2))
  refine wp_region_walk 6 [] (by kernel_rfl) (by kernel_rfl) (allocs_ok (by kernel_rfl) (fun x hx => (List.not_mem_nil hx).elim)) ?Af1 ?h1 ?hK1
  case h1 =>
    intro F hFs hNe
    try simp only [Act.put]
    try simp only [List.setIfInBounds_toArray, List.set_cons_succ, List.set_cons_zero]
    simp only [List.take_succ_cons, List.take_zero]
    go_big_quiet_want
    refine q_load_n rfl a rfl (F3.out.ln 2 rfl) ?_
    go_big_quiet_on
    simp only [Act.put, List.setIfInBounds_toArray, List.set_cons_succ, List.set_cons_zero]
    go_big_quiet_step (exact fs_call hFs (Cp.out _))
    go_big_quiet_want
    refine q_load_n rfl b rfl (F3.out.ln 1 rfl) ?_
    go_big_quiet_on
    simp only [Act.put, List.setIfInBounds_toArray, List.set_cons_succ, List.set_cons_zero]
    go_big_quiet_step (exact fs_call hFs (Cl.out _))
    go_big_quiet_step (exact fs_call hFs (Cd.out _))
    go_big_quiet_step (exact fs_call hFs (Cr.out _))
    refine wpQuiet_nil ?_
    exact rfl
  case hK1 =>
    intro w4 hb
    have F4 := Lib.hid (F3.out.later hb)
    clear hb
    simp only [freshQ]
    try simp only [Act.put]
    simp only [List.length_nil, Nat.reduceAdd, List.drop_succ_cons, List.drop_zero]
    go_wp2_with (refine s_store F4.out rfl rfl 0 rfl rfl (nc r) rfl rfl (by kernel_rfl) (nc_cells _) ?_; intro w5 h1; have F5 := Lib.hid h1; clear h1 F4)
    exact bodyPost_ret (v := .agg (nc r)) (by simp [results, Tryz.results145, asAddr]; exact retN (F5.out.mem (i := 0) rfl)) rfl ⟨rfl, F5.out.below⟩
end Go.Proofs.YtnhdepmalejclaaGreatDoor

namespace Go.Proofs.YtnhdepmalejclaaGreatDoor
open Go.RowKit Go.Lib
def wN : List Nat → Nat
  | [] => 0
  | v :: r => v + 18446744073709551616 * wN r
def wC (ws : List Nat) : Array Value := (ws.map fun (v : Nat) => Value.int .u64 (v : Int)).toArray
theorem wC_size (ws : List Nat) : (wC ws).size = ws.length := by simp [wC]
theorem wC_at {ws : List Nat} {k : Nat} (hk : k < ws.length) : (wC ws)[k]? = some (.int .u64 (ws.getD k 0 : Int)) := by
  simp [wC, hk]
theorem wC_set {ws : List Nat} {k v : Nat} (hk : k < ws.length) {u : Value} (hu : u = .int .u64 (v : Int)) : (wC ws).setIfInBounds k u = wC (ws.set k v) := by
  subst hu
  apply Array.ext_getElem?
  intro i
  by_cases hi : i = k
  · subst hi; simp [wC, hk]
  · rw [Array.getElem?_setIfInBounds_ne (Ne.symm hi)]
    simp [wC, List.getElem?_set_ne (Ne.symm hi)]
theorem wN_set : ∀ (ws : List Nat) (k v : Nat), k < ws.length → wN (ws.set k v) + 18446744073709551616 ^ k * ws.getD k 0 = wN ws + 18446744073709551616 ^ k * v
  | [], k, v, h => by simp at h
  | a :: r, 0, v, _ => by
    simp [wN]
    omega
  | a :: r, k + 1, v, h => by
    have h1 := wN_set r k v (by simpa using h)
    simp only [List.set_cons_succ, wN, List.getD_cons_succ]
    rw [Nat.pow_succ, Nat.mul_comm (18446744073709551616 ^ k) 18446744073709551616, Nat.mul_assoc, Nat.mul_assoc]
    omega
theorem getDL_set_ne {ws : List Nat} {k j v : Nat} (h : k ≠ j) : (ws.set k v).getD j 0 = ws.getD j 0 := by
  simp [List.getD_eq_getElem?_getD, List.getElem?_set_ne h]
theorem getDL_set_eq {ws : List Nat} {k v : Nat} (h : k < ws.length) : (ws.set k v).getD k 0 = v := by
  simp [List.getD_eq_getElem?_getD, h]
/-- The words of the product: so far. -/
structure Mw (ws : List Nat) (i : Nat) (V : Nat) : Prop where
  len : ws.length = 8
  lt : ∀ k, ws.getD k 0 < 18446744073709551616
  zero : ∀ k, i + 4 ≤ k → ws.getD k 0 = 0
  val : wN ws = V
theorem Mw.start : Mw [0, 0, 0, 0, 0, 0, 0, 0] 0 0 := by
  refine ⟨rfl, fun k => ?_, fun k _ => ?_, rfl⟩
  · rcases Nat.lt_or_ge k 8 with h | h
    · obtain rfl | rfl | rfl | rfl | rfl | rfl | rfl | rfl : k = 0 ∨ k = 1 ∨ k = 2 ∨ k = 3 ∨ k = 4 ∨ k = 5 ∨ k = 6 ∨ k = 7 := by omega
      all_goals decide
    · simp [h]
  · rcases Nat.lt_or_ge k 8 with h | h
    · obtain rfl | rfl | rfl | rfl | rfl | rfl | rfl | rfl : k = 0 ∨ k = 1 ∨ k = 2 ∨ k = 3 ∨ k = 4 ∨ k = 5 ∨ k = 6 ∨ k = 7 := by omega
      all_goals rfl
    · simp [h]
/-- Within a row: a carry of weight B^(i+j). -/
structure Mi (ws : List Nat) (i j c V : Nat) : Prop where
  len : ws.length = 8
  lt : ∀ k, ws.getD k 0 < 18446744073709551616
  zero : ∀ k, i + 4 ≤ k → ws.getD k 0 = 0
  carry : c < 18446744073709551616
  val : wN ws + 18446744073709551616 ^ (i + j) * c = V
theorem Mw.enter {ws : List Nat} {i V : Nat} (h : Mw ws i V) : Mi ws i 0 0 V := ⟨h.len, h.lt, h.zero, by decide, by rw [Nat.mul_zero, Nat.add_zero, h.val]⟩
theorem mul_hl (X Y : Nat) (hX : X < 18446744073709551616) (hY : Y < 18446744073709551616) : X * Y / 18446744073709551616 ≤ 18446744073709551614 ∧ X * Y = X * Y % 18446744073709551616 + 18446744073709551616 * (X * Y / 18446744073709551616) ∧ X * Y ≤ 340282366920938463426481119284349108225 := by
  have h1 : X * Y ≤ 18446744073709551615 * 18446744073709551615 := Nat.mul_le_mul (by omega) (by omega)
  omega
theorem Mi.step {ws : List Nat} {i j c V P l s : Nat} (h : Mi ws i j c V) (hi : i < 4) (hj : j < 4) (hs : l + 18446744073709551616 * s = P + ws.getD (i + j) 0 + c) (hl : l < 18446744073709551616) (hsb : s < 18446744073709551616) :
    Mi (ws.set (i + j) l) i (j + 1) s (V + 18446744073709551616 ^ (i + j) * P) := by
  refine ⟨by rw [List.length_set, h.len], fun k => ?_, fun k hk => ?_, hsb, ?_⟩
  · by_cases hk : i + j = k
    · subst hk; rw [getDL_set_eq (by rw [h.len]; omega)]; exact hl
    · rw [getDL_set_ne hk]; exact h.lt k
  · rw [getDL_set_ne (by omega)]; exact h.zero k hk
  · have h1 := wN_set ws (i + j) l (by rw [h.len]; omega)
    have h2 := h.val
    have h3 : 18446744073709551616 ^ (i + j) * (l + 18446744073709551616 * s) = 18446744073709551616 ^ (i + j) * (P + ws.getD (i + j) 0 + c) := by rw [hs]
    rw [Nat.mul_add, Nat.mul_add, Nat.mul_add, ← Nat.mul_assoc, ← Nat.pow_succ] at h3
    rw [show i + (j + 1) = (i + j).succ from rfl]
    omega
theorem Mi.leave {ws : List Nat} {i c V : Nat} (h : Mi ws i 4 c V) (hi : i < 4) : Mw (ws.set (i + 4) c) (i + 1) V := by
  refine ⟨by rw [List.length_set, h.len], fun k => ?_, fun k hk => ?_, ?_⟩
  · by_cases hk : i + 4 = k
    · subst hk; rw [getDL_set_eq (by rw [h.len]; omega)]; exact h.carry
    · rw [getDL_set_ne hk]; exact h.lt k
  · rw [getDL_set_ne (by omega)]; exact h.zero k (by omega)
  · have h1 := wN_set ws (i + 4) c (by rw [h.len]; omega)
    rw [h.zero (i + 4) (Nat.le_refl _)] at h1
    have h2 := h.val
    omega
theorem mul_w (x y : Nat) (hx : x < 18446744073709551616) (hy : y < 18446744073709551616) {X Y : Int} (hX : X = (x : Int)) (hY : Y = (y : Int)) : ∃ h l : Nat, (∀ w, Calls Tryz.prog 131 #[.int .u64 X, .int .u64 Y] w fun e w' => e = .returned (.tuple #[.int .u64 (h : Int), .int .u64 (l : Int)]) ∧ w' = w) ∧ l + 18446744073709551616 * h = x * y ∧ l < 18446744073709551616 ∧ h < 18446744073709551616 := by
  subst hX hY
  refine ⟨_, _, fun w => Mul64_any x y hx hy w, Nat.mod_add_div _ _, Nat.mod_lt _ (by decide), ?_⟩
  have h1 : x * y ≤ 18446744073709551615 * 18446744073709551615 := Nat.mul_le_mul (by omega) (by omega)
  omega
theorem add_w (x y : Nat) (hx : x < 18446744073709551616) (hy : y < 18446744073709551616) : ∃ s c : Nat, (∀ w, (callFunc 132 #[.int .u64 (x : Int), .int .u64 (y : Int), .int .u64 0]).run Tryz.prog w = .ok (.value (.tuple #[.int .u64 (s : Int), .int .u64 (c : Int)])) w) ∧ s + 18446744073709551616 * c = x + y ∧ s < 18446744073709551616 ∧ c ≤ 1 :=
  ⟨_, _, fun w => run_Add64 x y 0 (by omega) w, by omega, by omega, by omega⟩
theorem step_w {P h l s1 c1 s2 c2 u c : Nat} (hP : P ≤ 340282366920938463426481119284349108225) (e : l + 18446744073709551616 * h = P) (e1 : s1 + 18446744073709551616 * c1 = l + u) (e2 : s2 + 18446744073709551616 * c2 = s1 + c) (hu : u < 18446744073709551616) (hc : c < 18446744073709551616) :
    s2 + 18446744073709551616 * (h + c1 + c2) = P + u + c ∧ h + c1 + c2 < 18446744073709551616 := by
  omega

theorem nw_pow (a : Nat) {k : Nat} (hk : k < 4) : nw a k = a / 18446744073709551616 ^ k % 18446744073709551616 := by
  obtain rfl | rfl | rfl | rfl : k = 0 ∨ k = 1 ∨ k = 2 ∨ k = 3 := by omega
  · rw [Nat.pow_zero, Nat.div_one]; rfl
  · rw [Nat.pow_one]; rfl
  · rfl
  · rfl
theorem low_succ (a : Nat) {k : Nat} (hk : k < 4) : a % 18446744073709551616 ^ (k + 1) = a % 18446744073709551616 ^ k + 18446744073709551616 ^ k * nw a k := by
  rw [nw_pow a hk, Nat.mod_pow_succ]
/-- The target of a row's j-th step. -/
theorem lowR_step (a b : Nat) {i j : Nat} (hj : j < 4) : a % 18446744073709551616 ^ i * b + 18446744073709551616 ^ i * nw a i * (b % 18446744073709551616 ^ j) + 18446744073709551616 ^ (i + j) * (nw a i * nw b j) = a % 18446744073709551616 ^ i * b + 18446744073709551616 ^ i * nw a i * (b % 18446744073709551616 ^ (j + 1)) := by
  rw [low_succ b hj, Nat.mul_add, Nat.add_assoc, Nat.pow_add]
  congr 2
  rw [Nat.mul_assoc, Nat.mul_assoc]
  congr 1
  rw [Nat.mul_left_comm]
theorem lowR_row (a b : Nat) (hb : b < 115792089237316195423570985008687907853269984665640564039457584007913129639936) {i : Nat} (hi : i < 4) : a % 18446744073709551616 ^ i * b + 18446744073709551616 ^ i * nw a i * (b % 18446744073709551616 ^ 4) = a % 18446744073709551616 ^ (i + 1) * b := by
  rw [show (18446744073709551616 : Nat) ^ 4 = 115792089237316195423570985008687907853269984665640564039457584007913129639936 from by decide, Nat.mod_eq_of_lt hb, low_succ a hi, Nat.add_mul]
end Go.Proofs.YtnhdepmalejclaaGreatDoor
