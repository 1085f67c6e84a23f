/- The texts NT1 NT2 EqN NT3 of this work, merged by wip/merge.py. No conditions. -/
import Derived.Test.YtnhdepmalejclaaGreatDoorQG34
import Derived.Laws.StructEq
namespace Go.Proofs.YtnhdepmalejclaaGreatDoor
open Go.RowKit Go.Lib
theorem zero8 : ∀ w, (zeroValue 225).run Tryz.prog w = .ok (.agg (wC [0, 0, 0, 0, 0, 0, 0, 0])) w := fun w => by kernel_rfl
/-- What is carried into the k-th word of 38 times a number. -/
def hiN (H k : Nat) : Nat := 38 * (H % pM k) / pM k
theorem hi_gen (H m M : Nat) (hm : 0 < m) : H / m % M * 38 + 38 * (H % m) / m = 38 * H / m % M + M * (38 * (H % (m * M)) / (m * M)) := by
  have e0 : 38 * H = m * (38 * (H / m)) + 38 * (H % m) := by
    have h := Nat.div_add_mod H m
    calc 38 * H = 38 * (m * (H / m) + H % m) := by rw [h]
      _ = m * (38 * (H / m)) + 38 * (H % m) := by rw [Nat.mul_add, Nat.mul_left_comm]
  have e1 : 38 * H / m = 38 * (H / m) + 38 * (H % m) / m := by rw [e0, Nat.mul_add_div hm]
  have e2 : 38 * (H % (m * M)) = m * (38 * (H / m % M)) + 38 * (H % m) := by
    rw [Nat.mod_mul, Nat.mul_add, Nat.add_comm, Nat.mul_left_comm]
  have e3 : 38 * (H % (m * M)) / (m * M) = (38 * (H / m % M) + 38 * (H % m) / m) / M := by rw [← Nat.div_div_eq_div_mul, e2, Nat.mul_add_div hm]
  rw [e1, e3]
  generalize H / m = q
  generalize 38 * (H % m) / m = c
  have e4 : (38 * q + c) % M = (38 * (q % M) + c) % M := by
    rw [Nat.add_mod, Nat.mul_mod, Nat.add_mod (38 * (q % M)), Nat.mul_mod 38 (q % M), Nat.mod_mod]
  rw [e4, Nat.mod_add_div, Nat.mul_comm]
theorem hi_step (H : Nat) {k : Nat} (hk : k < 4) : nw H k * 38 + hiN H k = nw (38 * H) k + 18446744073709551616 * hiN H (k + 1) := by
  obtain rfl | rfl | rfl | rfl : k = 0 ∨ k = 1 ∨ k = 2 ∨ k = 3 := by omega
  · have h := hi_gen H 1 18446744073709551616 (by decide)
    simp only [hiN, pM, nw, Nat.div_one, Nat.one_mul] at h ⊢
    exact h
  · exact hi_gen H 18446744073709551616 18446744073709551616 (by decide)
  · exact hi_gen H 340282366920938463463374607431768211456 18446744073709551616 (by decide)
  · exact hi_gen H 6277101735386680763835789423207666416102355444464034512896 18446744073709551616 (by decide)
theorem hi_lt (H : Nat) {k : Nat} (hk : k ≤ 4) : hiN H k < 38 := by
  obtain rfl | rfl | rfl | rfl | rfl : k = 0 ∨ k = 1 ∨ k = 2 ∨ k = 3 ∨ k = 4 := by omega
  all_goals (simp only [hiN, pM]; omega)
theorem ws_words {ws : List Nat} {P : Nat} (h : Mw ws 4 P) : ws = [nw (P % 115792089237316195423570985008687907853269984665640564039457584007913129639936) 0, nw (P % 115792089237316195423570985008687907853269984665640564039457584007913129639936) 1, nw (P % 115792089237316195423570985008687907853269984665640564039457584007913129639936) 2, nw (P % 115792089237316195423570985008687907853269984665640564039457584007913129639936) 3,
    nw (P / 115792089237316195423570985008687907853269984665640564039457584007913129639936) 0, nw (P / 115792089237316195423570985008687907853269984665640564039457584007913129639936) 1, nw (P / 115792089237316195423570985008687907853269984665640564039457584007913129639936) 2, nw (P / 115792089237316195423570985008687907853269984665640564039457584007913129639936) 3] := by
  obtain ⟨hl, hlt, _, hv⟩ := h
  match ws, hl with
  | [x0, x1, x2, x3, x4, x5, x6, x7], _ =>
    have l0 : x0 < 18446744073709551616 := hlt 0
    have l1 : x1 < 18446744073709551616 := hlt 1
    have l2 : x2 < 18446744073709551616 := hlt 2
    have l3 : x3 < 18446744073709551616 := hlt 3
    have l4 : x4 < 18446744073709551616 := hlt 4
    have l5 : x5 < 18446744073709551616 := hlt 5
    have l6 : x6 < 18446744073709551616 := hlt 6
    have l7 : x7 < 18446744073709551616 := hlt 7
    simp only [wN] at hv
    have hU : P % 115792089237316195423570985008687907853269984665640564039457584007913129639936 = x0 + 18446744073709551616 * x1 + 340282366920938463463374607431768211456 * x2 + 6277101735386680763835789423207666416102355444464034512896 * x3 := by omega
    have hH : P / 115792089237316195423570985008687907853269984665640564039457584007913129639936 = x4 + 18446744073709551616 * x5 + 340282366920938463463374607431768211456 * x6 + 6277101735386680763835789423207666416102355444464034512896 * x7 := by omega
    rw [hU, hH]
    clear hU hH hv hlt
    have e0 : nw (x0 + 18446744073709551616 * x1 + 340282366920938463463374607431768211456 * x2 + 6277101735386680763835789423207666416102355444464034512896 * x3) 0 = x0 := by simp only [nw]; omega
    have e1 : nw (x0 + 18446744073709551616 * x1 + 340282366920938463463374607431768211456 * x2 + 6277101735386680763835789423207666416102355444464034512896 * x3) 1 = x1 := by simp only [nw]; omega
    have e2 : nw (x0 + 18446744073709551616 * x1 + 340282366920938463463374607431768211456 * x2 + 6277101735386680763835789423207666416102355444464034512896 * x3) 2 = x2 := by simp only [nw]; omega
    have e3 : nw (x0 + 18446744073709551616 * x1 + 340282366920938463463374607431768211456 * x2 + 6277101735386680763835789423207666416102355444464034512896 * x3) 3 = x3 := by simp only [nw]; omega
    have e4 : nw (x4 + 18446744073709551616 * x5 + 340282366920938463463374607431768211456 * x6 + 6277101735386680763835789423207666416102355444464034512896 * x7) 0 = x4 := by simp only [nw]; omega
    have e5 : nw (x4 + 18446744073709551616 * x5 + 340282366920938463463374607431768211456 * x6 + 6277101735386680763835789423207666416102355444464034512896 * x7) 1 = x5 := by simp only [nw]; omega
    have e6 : nw (x4 + 18446744073709551616 * x5 + 340282366920938463463374607431768211456 * x6 + 6277101735386680763835789423207666416102355444464034512896 * x7) 2 = x6 := by simp only [nw]; omega
    have e7 : nw (x4 + 18446744073709551616 * x5 + 340282366920938463463374607431768211456 * x6 + 6277101735386680763835789423207666416102355444464034512896 * x7) 3 = x7 := by simp only [nw]; omega
    rw [e0, e1, e2, e3, e4, e5, e6, e7]
theorem times_end {P U H : Nat} (hU : U = P % 115792089237316195423570985008687907853269984665640564039457584007913129639936) (hl : H < 115792089237316195423570985008687907853269984665640564039457584007913129639936) :
    hiN H 4 + caN U (38 * H) 4 = (U + 38 * H) / 115792089237316195423570985008687907853269984665640564039457584007913129639936 := by
  have hu : U < 115792089237316195423570985008687907853269984665640564039457584007913129639936 := by rw [hU]; exact Nat.mod_lt _ (by decide)
  clear hU
  simp only [hiN, caN, pM]
  rw [Nat.mod_eq_of_lt hl, Nat.mod_eq_of_lt hu]
  omega
set_option maxRecDepth 100000 in
set_option maxHeartbeats 4000000 in
theorem timesR_any (a b : Nat) (ha : a < 115792089237316195423570985008687907853269984665640564039457584007913129639936) (hb : b < 115792089237316195423570985008687907853269984665640564039457584007913129639936) (w : World) : Calls Tryz.prog 143 #[.agg (nc a), .agg (nc b)] w (NRet (timesR a b) w) := by
  have F0 := Lib.hid (BK.start w)
  have T0 : Hid True := trivial
  have HA := Lib.hid ha
  have HB := Lib.hid hb
  obtain ⟨R, hR⟩ : ∃ R, R = timesR a b := ⟨_, rfl⟩
  have HR := Lib.hid hR
  rw [← hR]
  clear ha hb hR
  go_enter Tryz.func143, Tryz.ntmps143
  go_wp2_with (first
    | (have hx_ := T0; refine s_box F0.out rfl rfl rfl rfl ?_; clear hx_ T0; intro w1 b1 h1 _; have F1 := Lib.hid h1; clear h1 F0; have T1 : Hid True := trivial)
    | (have hx_ := T1; refine s_box F1.out rfl rfl rfl rfl ?_; clear hx_ T1; intro w2 b2 h1 _; have F2 := Lib.hid h1; clear h1 F1; have T2 : Hid True := trivial)
    | (have hx_ := T2; refine s_alloc F2.out rfl rfl zeroN rfl ?_; clear hx_ T2; intro w3 b3 h1 _; have F3 := Lib.hid h1; clear h1 F2; have T3 : Hid True := trivial)
    | (have hx_ := T3; refine s_alloc F3.out rfl rfl zero8 rfl ?_; clear hx_ T3; intro w4 b4 h1 _; have F4 := Lib.hid h1; clear h1 F3))
  go_loopw [19] (fun iv wr => ∃ (k : Nat) (ws : List Nat), k ≤ 4 ∧ iv = .int .i64 (k : Int) ∧ Hid (Mw ws k (a % 18446744073709551616 ^ k * b)) ∧ Hid (BK w wr [(b4, wC ws, 225), (b3, nc 0, 181), (b2, nc b, 181), (b1, nc a, 181)])) (fun i _ => 4 - (Go.RowKit.intOf i).toNat)
  case atStart => exact ⟨0, _, Nat.zero_le _, rfl, by show Mw _ _ _; rw [Nat.pow_zero, Nat.mod_one, Nat.zero_mul]; exact Mw.start, F4.out⟩
  case round =>
    obtain ⟨k, ws, hk, rfl, hW, hF⟩ := hrel
    clear F4
    by_cases hlt : k < 4
    · have hlt' : (k : Int) < 4 := by omega
      have hk0 : (0 : Int) ≤ (k : Int) := by omega
      go_wp2
      go_loopw [7, 22] (fun cv jv wr' => ∃ (c j : Nat) (ws' : List Nat), j ≤ 4 ∧ cv = .int .u64 (c : Int) ∧ jv = .int .i64 (j : Int) ∧ Hid (Mi ws' k j c (a % 18446744073709551616 ^ k * b + 18446744073709551616 ^ k * nw a k * (b % 18446744073709551616 ^ j))) ∧ Hid (BK w wr' [(b4, wC ws', 225), (b3, nc 0, 181), (b2, nc b, 181), (b1, nc a, 181)])) (fun _ jv _ => 4 - (Go.RowKit.intOf jv).toNat)
      case atStart => exact ⟨0, 0, ws, Nat.zero_le _, rfl, rfl, by show Mi _ _ _ _ _; rw [Nat.pow_zero, Nat.mod_one, Nat.mul_zero, Nat.add_zero]; exact hW.out.enter, hF.out⟩
      case round =>
        obtain ⟨c, j, wj, hj, rfl, rfl, hI, hG⟩ := hrel
        clear hW hF
        by_cases hjlt : j < 4
        · have hj4 : (j : Int) < 4 := by omega
          have hj0 : (0 : Int) ≤ (j : Int) := by omega
          obtain ⟨h, lo, hmul, hv, hbl⟩ := mul_w (nw a k) (nw b j) (nw_lt a k) (nw_lt b j) rfl rfl
          obtain ⟨u, hu⟩ : ∃ u, u = wj.getD (k + j) 0 := ⟨_, rfl⟩
          obtain ⟨s1, c1, r1, e1, b1', d1⟩ := add_w lo u hbl.1 (by rw [hu]; exact hI.out.lt _)
          obtain ⟨s2, c2, r2, e2, b2', d2⟩ := add_w s1 c b1' hI.out.carry
          have hst := step_w (mul_hl _ _ (nw_lt a k) (nw_lt b j)).2.2 hv e1 e2 (by rw [hu]; exact hI.out.lt _) hI.out.carry
          have hsb : (h : Int) + c1 + c2 < 18446744073709551616 := by have h_ := hst.2; omega
          have hsb1 : (h : Int) + c1 < 18446744073709551616 := by omega
          have Hmul := Lib.hid hmul
          rw [hu] at hst
          have Hst := Lib.hid (Mi.step hI.out hlt hjlt hst.1 b2' hst.2)
          have hlen : k + j < wj.length := by rw [hI.out.len]; omega
          have cx := (hG.out.cell 3 rfl k).trans (nc_at a hlt)
          have cy := (hG.out.cell 2 rfl j).trans (nc_at b hjlt)
          have Hu := Lib.hid hu
          have Hlen := Lib.hid hlen
          have HJ := Lib.hid hjlt
          have HK := Lib.hid hlt
          have hkj : (k : Int) + (j : Int) < 8 := by omega
          have hkj0 : (0 : Int) ≤ (k : Int) + (j : Int) := by omega
          clear hmul hv hbl e1 e2 b1' b2' hst hlen hu hI hjlt hlt hk hj
          go_wp2
          go_quiet ((go_at_call 131; exact Calls.quiet_of_same (Hmul.out _)))
          have G2 : Hid (BK w (wr.drewN nq) [(b4, wC wj, 225), (b3, nc 0, 181), (b2, nc b, 181), (b1, nc a, 181)]) := hG.out.later ⟨rfl, rfl, rfl, Nat.le_refl _, fun _ _ => rfl⟩
          generalize wr.drewN nq = wd at G2 ⊢
          have cw := (G2.out.cell 0 rfl (k + j)).trans (wC_at Hlen.out)
          clear hG cx cy
          rw [← Hu.out] at cw
          go_wp2_with (refine s_set64 G2.out rfl rfl 0 rfl (k + j) (by rw [wC_size]; exact Hlen.out) rfl _ rfl ?_; intro w5 h5; simp only [List.set_cons_zero] at h5; rw [wC_set Hlen.out rfl] at h5; have F5 := Lib.hid h5; clear h5 G2 cw)
          go_roundw
          case rel => exact ⟨h + c1 + c2, j + 1, wj.set (k + j) s2, HJ.out, by go_num, by go_num, (by show Mi _ _ _ _ _; rw [← lowR_step a b HJ.out]; exact Hst.out), F5.out⟩
          case measure => simp [Go.RowKit.intOf]; have := HJ.out; omega
        · obtain rfl : j = 4 := by omega
          have hdj : decide (((4 : Nat) : Int) < 4) = false := by decide
          have hlen : k + 4 < wj.length := by rw [hI.out.len]; omega
          have Hlen := Lib.hid hlen
          have HL := Lib.hid (Mi.leave hI.out hlt)
          have HK := Lib.hid hlt
          have hk8 : (k : Int) + 4 < 8 := by omega
          have hk80 : (0 : Int) ≤ (k : Int) + 4 := by omega
          clear hlen hI hlt hk hj
          go_wp2_with (refine s_set64 hG.out rfl rfl 0 rfl (k + 4) (by rw [wC_size]; exact Hlen.out) rfl _ rfl ?_; intro w5 h5; simp only [List.set_cons_zero] at h5; rw [wC_set Hlen.out rfl] at h5; have F5 := Lib.hid h5; clear h5 hG)
          go_roundw
          case rel => exact ⟨k + 1, wj.set (k + 4) c, HK.out, by go_num, (by show Mw _ _ _; rw [← lowR_row a b HB.out HK.out]; exact HL.out), F5.out⟩
          case measure => simp [Go.RowKit.intOf]; have := HK.out; omega
    · obtain rfl : k = 4 := by omega
      have hdk : decide (((4 : Nat) : Int) < 4) = false := by decide
      have hV : a % 18446744073709551616 ^ 4 * b = a * b := by
        rw [show (18446744073709551616 : Nat) ^ 4 = 115792089237316195423570985008687907853269984665640564039457584007913129639936 from by decide, Nat.mod_eq_of_lt HA.out]
      have hws := ws_words (by have h := hW.out; rw [hV] at h; exact h)
      obtain ⟨U, hU⟩ : ∃ U, U = a * b % 115792089237316195423570985008687907853269984665640564039457584007913129639936 := ⟨_, rfl⟩
      obtain ⟨H, hH⟩ : ∃ H, H = a * b / 115792089237316195423570985008687907853269984665640564039457584007913129639936 := ⟨_, rfl⟩
      have hHl : H < 115792089237316195423570985008687907853269984665640564039457584007913129639936 := by
        rw [hH]
        have h1 : a * b ≤ a * 115792089237316195423570985008687907853269984665640564039457584007913129639936 := Nat.mul_le_mul_left a (Nat.le_of_lt HB.out)
        exact Nat.lt_of_le_of_lt (Nat.div_le_of_le_mul (Nat.le_trans h1 (Nat.le_of_eq (Nat.mul_comm _ _)))) HA.out
      have HE := Lib.hid (times_end hU hHl)
      have HTR : Hid (foldR ((U + 38 * H) % 115792089237316195423570985008687907853269984665640564039457584007913129639936) ((U + 38 * H) / 115792089237316195423570985008687907853269984665640564039457584007913129639936) = R) := by
        show _ = _
        rw [HR.out, hU, hH]
        rfl
      rw [← hU, ← hH] at hws
      subst hws
      have HHl := Lib.hid hHl
      clear hV hW hU hH hHl hlt hk
      obtain ⟨T, hT⟩ : ∃ T, T = 38 * H := ⟨_, rfl⟩
      have HT := Lib.hid hT
      rw [← hT] at HE HTR
      have C1 : Hid (∀ w, Calls Tryz.prog 181 #[.agg (nc (U + T)), .int .u64 ((hiN H 4 : Int) + (caN U T 4 : Int))] w (fun e w' => e = .returned (.agg (nc R)) ∧ Below w.heap.size w w')) := fun w => by
        rw [show (hiN H 4 : Int) + (caN U T 4 : Int) = ((hiN H 4 + caN U T 4 : Nat) : Int) from by push_cast; rfl, HE.out, ← nc_mod, ← HTR.out]
        refine fold_any _ _ (Nat.mod_lt _ (by decide)) ?_ w
        have h1 := hi_lt H (k := 4) (by decide)
        have h2 := caN_le U T (k := 4) (by decide)
        rw [← HE.out]
        omega
      clear hT
      have d0 := (hF.out.cell 0 rfl 0)
      have d1 := (hF.out.cell 0 rfl 1)
      have d2 := (hF.out.cell 0 rfl 2)
      have d3 := (hF.out.cell 0 rfl 3)
      rw [wC_at (by show 0 < 8; decide)] at d0
      rw [wC_at (by show 1 < 8; decide)] at d1
      rw [wC_at (by show 2 < 8; decide)] at d2
      rw [wC_at (by show 3 < 8; decide)] at d3
      simp only [List.getD_cons_zero, List.getD_cons_succ] at d0 d1 d2 d3
      have hz := zeroN
      have T0 : Hid True := trivial
      go_wp2_with (first
        | (have hx_ := T0; refine s_alloc hF.out rfl rfl zeroN rfl ?_; clear hx_ T0; intro w5 b5 h1 _; have F5 := Lib.hid h1; clear h1 hF d0 d1 d2 d3; have T1 : Hid True := trivial)
        | (have hx_ := T1; refine s_store F5.out rfl rfl 0 rfl rfl (nc U) rfl rfl (by kernel_rfl) (nc_cells _) ?_; clear hx_ T1; intro w6 h1; have F6 := Lib.hid h1; clear h1 F5))
      clear hz
      have F7 : Hid (BK w w6 [(b5, mixC U (U + T) 0, 181), (b4, wC [nw U 0, nw U 1, nw U 2, nw U 3, nw H 0, nw H 1, nw H 2, nw H 3], 225), (b3, nc 0, 181), (b2, nc b, 181), (b1, nc a, 181)]) := F6
      clear F6
      go_loopw [13, 14, 78] (fun hv cv iv wr => ∃ k : Nat, k ≤ 4 ∧ iv = .int .i64 (k : Int) ∧ hv = .int .u64 (hiN H k : Int) ∧ cv = .int .u64 (caN U T k : Int) ∧ Hid (BK w wr [(b5, mixC U (U + T) k, 181), (b4, wC [nw U 0, nw U 1, nw U 2, nw U 3, nw H 0, nw H 1, nw H 2, nw H 3], 225), (b3, nc 0, 181), (b2, nc b, 181), (b1, nc a, 181)])) (fun _ _ i _ => 4 - (Go.RowKit.intOf i).toNat)
      case atStart => exact ⟨0, Nat.zero_le _, rfl, by simp [hiN, pM, Nat.mod_one], by simp [caN, pM, Nat.mod_one], F7.out⟩
      case round =>
        obtain ⟨k, hk, rfl, rfl, rfl, hG⟩ := hrel
        clear F7
        by_cases hlt : k < 4
        · have hlt' : (k : Int) < 4 := by omega
          have hk0 : (0 : Int) ≤ (k : Int) := by omega
          have hk4 : (0 : Int) ≤ (k : Int) + 4 := by omega
          have hk8 : (k : Int) + 4 < 8 := by omega
          obtain ⟨h, lo, hmul, hv, hbl⟩ := mul_w (nw H k) 38 (nw_lt H k) (by decide) rfl rfl
          obtain ⟨s1, c1, r1, e1, b1', d1'⟩ := add_w lo (hiN H k) hbl.1 (Nat.lt_trans (hi_lt H (by omega)) (by decide))
          have hst := hi_step H hlt
          rw [← HT.out] at hst
          have ht := nw_lt T k
          have es : s1 = nw T k := by omega
          have eh : h + c1 = hiN H (k + 1) := by omega
          have hlt38 := hi_lt H (k := k + 1) (by omega)
          have hq : (h : Int) + (c1 : Int) = (hiN H (k + 1) : Int) := by omega
          have hqb : (hiN H (k + 1) : Int) < 18446744073709551616 := by omega
          have hqb0 : (0 : Int) ≤ (hiN H (k + 1) : Int) := by omega
          rw [es] at r1
          have r2 := run_add U T hlt
          have Hmul : Hid (∀ w, Calls Tryz.prog 131 #[.int .u64 (nw H k : Int), .int .u64 38] w fun e w' => e = .returned (.tuple #[.int .u64 (h : Int), .int .u64 (lo : Int)]) ∧ w' = w) := hmul
          have cw : wr.cell? ⟨b4, k + 4, none⟩ = some (.int .u64 (nw H k : Int)) := by
            rw [(hG.out.cell 1 rfl (k + 4)), wC_at (by show k + 4 < 8; omega)]
            obtain rfl | rfl | rfl | rfl : k = 0 ∨ k = 1 ∨ k = 2 ∨ k = 3 := by omega
            all_goals rfl
          have co := (hG.out.cell 0 rfl k).trans (mix_at U (U + T) hlt)
          have HL := Lib.hid hlt
          clear hmul hv hbl e1 b1' d1' hst ht es eh hlt38 hlt hk
          go_wp2_with (first
            | (go_at_call 131; refine (Hmul.out _).mono ?_; rintro e wm ⟨rfl, h3⟩; have h3 := h3.symm; subst h3)
            | (refine s_set64 hG.out rfl rfl 0 rfl k (by show k < 4; exact HL.out) rfl _ rfl ?_; intro w7 h7; simp only [List.set_cons_zero] at h7; rw [mix_set U (U + T) HL.out] at h7; have F8 := Lib.hid h7; clear h7 hG cw co))
          go_roundw
          case rel => exact ⟨k + 1, HL.out, by go_num, rfl, rfl, F8.out⟩
          case measure => simp [Go.RowKit.intOf]; have := HL.out; omega
        · obtain rfl : k = 4 := by omega
          have hd4 : decide (((4 : Nat) : Int) < 4) = false := by decide
          have h1 := hi_lt H (k := 4) (by decide)
          have h2 := caN_le U T (k := 4) (by decide)
          have hqb : (hiN H 4 : Int) + (caN U T 4 : Int) < 18446744073709551616 := by omega
          have hqb0 : (0 : Int) ≤ (hiN H 4 : Int) + (caN U T 4 : Int) := by omega
          have hG2 : Hid (BK w wr [(b5, nc (U + T), 181), (b4, wC [nw U 0, nw U 1, nw U 2, nw U 3, nw H 0, nw H 1, nw H 2, nw H 3], 225), (b3, nc 0, 181), (b2, nc b, 181), (b1, nc a, 181)]) := hG
          clear hG h1 h2
          go_wp2_with (first
            | (refine s_load_n rfl rfl (U + T) rfl (hG2.out.ln 0 rfl) ?_)
            | (go_at_call 181; refine (C1.out _).mono ?_; rintro e w8 ⟨rfl, hb⟩; have F8 := Lib.hid (hG2.out.later hb); clear hb hG2)
            | (have hx_ := F8; refine s_store hx_.out rfl rfl 2 rfl rfl (nc R) rfl rfl (by kernel_rfl) (nc_cells _) ?_; clear F8 hx_; intro w9 h1; have F9 := Lib.hid h1; clear h1))
          exact bodyPost_ret (v := .agg (nc R)) (by simp [results, Tryz.results143, asAddr]; exact retN (F9.out.mem (i := 2) rfl)) rfl ⟨rfl, F9.out.below⟩
end Go.Proofs.YtnhdepmalejclaaGreatDoor

namespace Go.Proofs.YtnhdepmalejclaaGreatDoor
open Go.RowKit Go.Lib
theorem word_bit (x R : Nat) {r : Nat} (hr : r < 64) : (x + 18446744073709551616 * R) / 2 ^ r % 2 = x / 2 ^ r % 2 := by
  have e : (18446744073709551616 : Nat) = 2 ^ r * (2 * 2 ^ (63 - r)) := by
    rw [show (2 : Nat) * 2 ^ (63 - r) = 2 ^ (63 - r + 1) from by rw [Nat.pow_succ, Nat.mul_comm], ← Nat.pow_add, show r + (63 - r + 1) = 64 from by omega]
  rw [e, Nat.mul_assoc, Nat.add_mul_div_left _ _ (Nat.two_pow_pos r), Nat.mul_assoc, Nat.add_mul_mod_self_left]
theorem and1_w {x r : Nat} (hx : x < 18446744073709551616) : bits BinOp.and IntKind.u64 ((x : Int) / 2 ^ r) 1 = ((x / 2 ^ r % 2 : Nat) : Int) := by
  have h1 : x / 2 ^ r < 18446744073709551616 := Nat.lt_of_le_of_lt (Nat.div_le_self _ _) hx
  rw [show ((x : Int) / 2 ^ r) = ((x / 2 ^ r : Nat) : Int) from by push_cast; rfl, show (1 : Int) = ((1 : Nat) : Int) from rfl, bits_and_u64_nat _ _ h1 (by decide), Nat.and_one_is_mod]

theorem nw_bit {x : Nat} {m : Nat} (hm : m < 256) : x / 2 ^ m % 2 = nw x (m / 64) / 2 ^ (m % 64) % 2 := by
  have hv : ∃ R, x / 2 ^ (64 * (m / 64)) = nw x (m / 64) + 18446744073709551616 * R := by
    refine ⟨x / 2 ^ (64 * (m / 64)) / 18446744073709551616, ?_⟩
    rw [nw_pow x (by omega), show (2 : Nat) ^ (64 * (m / 64)) = 18446744073709551616 ^ (m / 64) from by rw [Nat.pow_mul], Nat.mod_add_div]
  obtain ⟨R, hR⟩ := hv
  rw [show 2 ^ m = 2 ^ (64 * (m / 64)) * 2 ^ (m % 64) from by rw [← Nat.pow_add]; congr 1; omega, ← Nat.div_div_eq_div_mul, hR]
  exact word_bit _ _ (by omega)
theorem foldR_lt {v h : Nat} (hv : v < 115792089237316195423570985008687907853269984665640564039457584007913129639936) (hh : h < 18446744073709551616) : foldR v h < 115792089237316195423570985008687907853269984665640564039457584007913129639936 := by
  unfold foldR
  split
  · exact hv
  · split <;> omega
theorem timesR_lt {a b : Nat} (ha : a < 115792089237316195423570985008687907853269984665640564039457584007913129639936) (hb : b < 115792089237316195423570985008687907853269984665640564039457584007913129639936) : timesR a b < 115792089237316195423570985008687907853269984665640564039457584007913129639936 := by
  have h1 : a * b / 115792089237316195423570985008687907853269984665640564039457584007913129639936 ≤ a := by
    refine Nat.div_le_of_le_mul (Nat.le_trans (Nat.mul_le_mul_left a (Nat.le_of_lt hb)) (Nat.le_of_eq (Nat.mul_comm _ _)))
  unfold timesR overR
  refine foldR_lt (Nat.mod_lt _ (by decide)) ?_
  generalize a * b / 115792089237316195423570985008687907853269984665640564039457584007913129639936 = q at *
  have h2 : a * b % 115792089237316195423570985008687907853269984665640564039457584007913129639936 < 115792089237316195423570985008687907853269984665640564039457584007913129639936 := Nat.mod_lt _ (by decide)
  generalize a * b % 115792089237316195423570985008687907853269984665640564039457584007913129639936 = r at *
  omega
theorem plusR_lt {a b : Nat} (ha : a < 115792089237316195423570985008687907853269984665640564039457584007913129639936) (hb : b < 115792089237316195423570985008687907853269984665640564039457584007913129639936) : plusR a b < 115792089237316195423570985008687907853269984665640564039457584007913129639936 := by
  unfold plusR overR
  exact foldR_lt (Nat.mod_lt _ (by decide)) (by omega)
theorem minusR_lt {a b : Nat} (ha : a < 115792089237316195423570985008687907853269984665640564039457584007913129639936) : minusR a b < 115792089237316195423570985008687907853269984665640564039457584007913129639936 := plusR_lt ha (minus_lt b)
theorem powR_lt {a e : Nat} (ha : a < 115792089237316195423570985008687907853269984665640564039457584007913129639936) : ∀ (i out : Nat), out < 115792089237316195423570985008687907853269984665640564039457584007913129639936 → powR a e i out < 115792089237316195423570985008687907853269984665640564039457584007913129639936
  | 0, _, h => h
  | i + 1, out, h => by
    rw [powR]
    refine powR_lt ha i _ ?_
    split
    · exact timesR_lt (timesR_lt h h) ha
    · exact timesR_lt h h
set_option maxRecDepth 100000 in
set_option maxHeartbeats 2000000 in
theorem powerR_any (a e : Nat) (ha : a < 115792089237316195423570985008687907853269984665640564039457584007913129639936) (he : e < 115792089237316195423570985008687907853269984665640564039457584007913129639936) (w : World) : Calls Tryz.prog 182 #[.agg (nc a), .agg (nc e)] w (NRet (powerR a e) w) := by
  have F0 := Lib.hid (BK.start w)
  have T0 : Hid True := trivial
  have HA := Lib.hid ha
  have HE := Lib.hid he
  obtain ⟨R, hR⟩ : ∃ R, R = powerR a e := ⟨_, rfl⟩
  have HR : Hid (powR a e 256 1 = R) := by show _ = _; rw [hR]; rfl
  rw [← hR]
  clear ha he hR
  go_enter Tryz.func182, Tryz.ntmps182
  go_wp2_with (first
    | (have hx_ := T0; refine s_box F0.out rfl rfl rfl rfl ?_; clear hx_ T0; intro w1 b1 h1 _; have F1 := Lib.hid h1; clear h1 F0; have T1 : Hid True := trivial)
    | (have hx_ := T1; refine s_box F1.out rfl rfl rfl rfl ?_; clear hx_ T1; intro w2 b2 h1 _; have F2 := Lib.hid h1; clear h1 F1; have T2 : Hid True := trivial)
    | (have hx_ := T2; refine s_alloc F2.out rfl rfl zeroN rfl ?_; clear hx_ T2; intro w3 b3 h1 _; have F3 := Lib.hid h1; clear h1 F2; have T3 : Hid True := trivial)
    | (go_at_call 146; have hx_ := T3; refine (Small_any 1 (by decide) _).mono ?_; clear hx_ T3; rintro e1 w4 ⟨rfl, hb⟩; have F4 := Lib.hid (F3.out.later hb); clear hb F3; have T4 : Hid True := trivial)
    | (have hx_ := T4; refine s_alloc F4.out rfl rfl zeroN rfl ?_; clear hx_ T4; intro w5 b5 h1 _; have F5 := Lib.hid h1; clear h1 F4; have T5 : Hid True := trivial)
    | (have hx_ := T5; refine s_store F5.out rfl rfl 0 rfl rfl (nc 1) rfl rfl (by kernel_rfl) (nc_cells _) ?_; clear hx_ T5; intro w6 h1; have F6 := Lib.hid h1; clear h1 F5))
  go_loopw [6] (fun iv wr => ∃ j out : Nat, j ≤ 256 ∧ iv = .int .i64 ((j : Int) - 1) ∧ Hid (out < 115792089237316195423570985008687907853269984665640564039457584007913129639936 ∧ powR a e j out = R ∧ BK w wr [(b5, nc out, 181), (b3, nc 0, 181), (b2, nc e, 181), (b1, nc a, 181)])) (fun i _ => (Go.RowKit.intOf i + 1).toNat)
  case atStart => exact ⟨256, 1, Nat.le_refl _, by go_num, by decide, HR.out, F6.out⟩
  case round =>
    obtain ⟨j, out, hj, rfl, hA⟩ := hrel
    clear F6
    have hF := Lib.hid hA.out.2.2
    have ho := Lib.hid hA.out.1
    have hE := Lib.hid hA.out.2.1
    clear hA
    cases j with
    | zero =>
      have e0 : ((0 : Nat) : Int) - 1 = -1 := rfl
      rw [e0]
      have HO : Hid (out = R) := hE
      go_wp2_with (first
        | (refine s_load_n rfl rfl out rfl (hF.out.ln 0 rfl) ?_)
        | (refine s_store hF.out rfl rfl 1 rfl rfl (nc out) rfl rfl (by kernel_rfl) (nc_cells _) ?_; intro w7 h1; have F7 := Lib.hid h1; clear h1 hF))
      exact bodyPost_ret (v := .agg (nc out)) (by simp [results, Tryz.results182, asAddr]; exact retN (F7.out.mem (i := 1) rfl)) rfl ⟨by rw [HO.out], F7.out.below⟩
    | succ k =>
      have e0 : ((k + 1 : Nat) : Int) - 1 = (k : Int) := by omega
      rw [e0]
      have hm0 : (0 : Int) ≤ (k : Int) := by omega
      have hm8 : (k : Int) < 256 := by omega
      have hmq : k / 64 < 4 := by omega
      have hbit := nw_bit (x := e) (m := k) (by omega)
      have hand := and1_w (r := k % 64) (nw_lt e (k / 64))
      obtain ⟨t, htd⟩ : ∃ t, t = nw e (k / 64) / 2 ^ (k % 64) % 2 := ⟨_, rfl⟩
      rw [← htd] at hand hbit
      have hq2 : t = 0 ∨ t = 1 := by omega
      have hE2 : Hid (powR a e k (if t = 1 then timesR (timesR out out) a else timesR out out) = R) := by
        have h := hE.out
        show _ = R
        rw [powR, hbit] at h
        exact h
      obtain ⟨u, hu⟩ : ∃ u, u = timesR out out := ⟨_, rfl⟩
      have Cu : Hid (∀ w, Calls Tryz.prog 143 #[.agg (nc out), .agg (nc out)] w (fun e w' => e = .returned (.agg (nc u)) ∧ Below w.heap.size w w')) := fun w => by rw [hu]; exact timesR_any out out ho.out ho.out w
      have Ou : Hid (u < 115792089237316195423570985008687907853269984665640564039457584007913129639936) := by show u < _; rw [hu]; exact timesR_lt ho.out ho.out
      obtain ⟨v, hv⟩ : ∃ v, v = timesR u a := ⟨_, rfl⟩
      have Cv : Hid (∀ w, Calls Tryz.prog 143 #[.agg (nc u), .agg (nc a)] w (fun e w' => e = .returned (.agg (nc v)) ∧ Below w.heap.size w w')) := fun w => by rw [hv]; exact timesR_any u a Ou.out HA.out w
      have Ov : Hid (v < 115792089237316195423570985008687907853269984665640564039457584007913129639936) := by show v < _; rw [hv]; exact timesR_lt Ou.out HA.out
      rw [← hu, ← hv] at hE2
      have HJ := Lib.hid hj
      have ck : Hid (∀ w', BK w w' [(b5, nc u, 181), (b3, nc 0, 181), (b2, nc e, 181), (b1, nc a, 181)] → w'.cell? ⟨b2, k / 64, none⟩ = some (.int .u64 (nw e (k / 64) : Int))) := fun w' h => (h.cell 2 rfl (k / 64)).trans (nc_at e hmq)
      clear e0 hbit hmq htd hu hv hE hj
      have T0 : Hid True := trivial
      rcases hq2 with rfl | rfl
      · rw [show (((0 : Nat) : Int)) = 0 from rfl] at hand
        rw [if_neg (by decide)] at hE2
        go_wp2_with (first
          | (have hx_ := T0; refine s_load_n rfl rfl out rfl (hF.out.ln 0 rfl) ?_; clear hx_ T0; have T1 : Hid True := trivial)
          | (have hx_ := T1; refine s_load_n rfl rfl out rfl (hF.out.ln 0 rfl) ?_; clear hx_ T1; have T2 : Hid True := trivial)
          | (go_at_call 143; have hx_ := T2; refine (Cu.out _).mono ?_; clear hx_ T2; rintro e1 w7 ⟨rfl, hb⟩; have F7 := Lib.hid (hF.out.later hb); clear hb hF; have T3 : Hid True := trivial)
          | (have hx_ := T3; refine s_store F7.out rfl rfl 0 rfl rfl (nc u) rfl rfl (by kernel_rfl) (nc_cells _) ?_; clear hx_ T3; intro w8 h1; have ck8 := ck.out _ h1; have F8 := Lib.hid h1; clear h1 F7))
        go_roundw
        case rel => exact ⟨k, u, by have := HJ.out; omega, by go_num, Ou.out, hE2.out, F8.out⟩
        case measure => simp [Go.RowKit.intOf]
      · rw [show (((1 : Nat) : Int)) = 1 from rfl] at hand
        rw [if_pos rfl] at hE2
        go_wp2_with (first
          | (have hx_ := T0; refine s_load_n rfl rfl out rfl (hF.out.ln 0 rfl) ?_; clear hx_ T0; have T1 : Hid True := trivial)
          | (have hx_ := T1; refine s_load_n rfl rfl out rfl (hF.out.ln 0 rfl) ?_; clear hx_ T1; have T2 : Hid True := trivial)
          | (go_at_call 143; have hx_ := T2; refine (Cu.out _).mono ?_; clear hx_ T2; rintro e1 w7 ⟨rfl, hb⟩; have F7 := Lib.hid (hF.out.later hb); clear hb hF; have T3 : Hid True := trivial)
          | (have hx_ := T3; refine s_store F7.out rfl rfl 0 rfl rfl (nc u) rfl rfl (by kernel_rfl) (nc_cells _) ?_; clear hx_ T3; intro w8 h1; have ck8 := ck.out _ h1; have F8 := Lib.hid h1; clear h1 F7; have T4 : Hid True := trivial)
          | (have hx_ := T4; refine s_load_n rfl rfl u rfl (F8.out.ln 0 rfl) ?_; clear hx_ T4; have T5 : Hid True := trivial)
          | (have hx_ := T5; refine s_load_n rfl rfl a rfl (F8.out.ln 3 rfl) ?_; clear hx_ T5; have T6 : Hid True := trivial)
          | (go_at_call 143; have hx_ := T6; refine (Cv.out _).mono ?_; clear hx_ T6; rintro e1 w9 ⟨rfl, hb⟩; have F9 := Lib.hid (F8.out.later hb); clear hb F8 ck8; have T7 : Hid True := trivial)
          | (have hx_ := T7; refine s_store F9.out rfl rfl 0 rfl rfl (nc v) rfl rfl (by kernel_rfl) (nc_cells _) ?_; clear hx_ T7; intro w10 h1; have F10 := Lib.hid h1; clear h1 F9))
        go_roundw
        case rel => exact ⟨k, v, by have := HJ.out; omega, by go_num, Ov.out, hE2.out, F10.out⟩
        case measure => simp [Go.RowKit.intOf]
end Go.Proofs.YtnhdepmalejclaaGreatDoor

namespace Go.Proofs.YtnhdepmalejclaaGreatDoor
open Go.RowKit Go.Lib
theorem part64 (xs : Array Value) (i : Nat) (v : Value) (w : World) (h : xs[i]? = some v) : (part 24 xs i).run Tryz.prog w = .ok v w := by
  have h1 : (isAgg 24).run Tryz.prog w = .ok false w := by kernel_rfl
  simp [part, Sem.run_bind, h1, h]
theorem eq64n (d : Nat) (a b : Nat) (w : World) : (Op.equalIn (d + 1) 24 (.int .u64 (a : Int)) (.int .u64 (b : Int))).run Tryz.prog w = .ok (a == b) w := by
  rw [run_equalIn_int w d _ _ _ _ _ Tryz.underlying24]
  congr 1
  rw [Bool.eq_iff_iff, beq_iff_eq, beq_iff_eq, Int.ofNat_inj]
theorem eqRangeN {xs ys : List Nat} (d : Nat) (w : World) (hl : xs.length = ys.length) : ∀ (n k : Nat), k + n = xs.length →
    (forIn (List.range' k n 1) ((none : Option Bool), ()) (fun i (_ : Option Bool × Unit) => do
      if !(← Op.equalIn (d + 1) 24 (← part 24 (wC xs) (i * 1)) (← part 24 (wC ys) (i * 1))) then pure (ForInStep.done (some false, ())) else pure (ForInStep.yield (none, ())))).run Tryz.prog w =
      .ok (if xs.drop k = ys.drop k then none else some false, ()) w := by
  intro n
  induction n with
  | zero =>
    intro k hk
    rw [List.drop_eq_nil_of_le (by omega), List.drop_eq_nil_of_le (by omega)]
    simp
  | succ n ih =>
    intro k hk
    have hx : k < xs.length := by omega
    have hy : k < ys.length := by omega
    rw [List.range'_succ, List.forIn_cons]
    simp only [Sem.run_bind, Nat.mul_one]
    rw [part64 _ k (.int .u64 (xs[k] : Int)) w (by simp [wC, hx])]
    simp only [Result.andThen_ok]
    rw [part64 _ k (.int .u64 (ys[k] : Int)) w (by simp [wC, hy])]
    simp only [Result.andThen_ok, eq64n]
    rw [List.drop_eq_getElem_cons hx, List.drop_eq_getElem_cons hy]
    by_cases he : xs[k] = ys[k]
    · rw [he]
      simp only [beq_self_eq_true, Bool.not_true, Bool.false_eq_true, if_false, Sem.run_pure, Result.andThen_ok]
      have h1 := ih (k + 1) (by omega)
      simp only [Nat.mul_one] at h1
      rw [h1]
      simp [-List.getElem_cons_drop]
    · simp [he, -List.getElem_cons_drop]
theorem nc_inj {x y : Nat} (hx : x < 115792089237316195423570985008687907853269984665640564039457584007913129639936) (hy : y < 115792089237316195423570985008687907853269984665640564039457584007913129639936) : [nw x 0, nw x 1, nw x 2, nw x 3] = [nw y 0, nw y 1, nw y 2, nw y 3] ↔ x = y := by
  constructor
  · intro h
    simp only [List.cons.injEq, and_true] at h
    obtain ⟨h0, h1, h2, h3⟩ := h
    rw [nw_split hx, nw_split hy, h0, h1, h2, h3]
  · rintro rfl; rfl
theorem eqN (d : Nat) {x y : Nat} (hx : x < 115792089237316195423570985008687907853269984665640564039457584007913129639936) (hy : y < 115792089237316195423570985008687907853269984665640564039457584007913129639936) (w : World) : (Op.equalIn (d + 2) 181 (.agg (nc x)) (.agg (nc y))).run Tryz.prog w = .ok (decide (x = y)) w := by
  have hs : (sizeOf 24).run Tryz.prog w = .ok 1 w := by kernel_rfl
  have h1 := eqRangeN (xs := [nw x 0, nw x 1, nw x 2, nw x 3]) (ys := [nw y 0, nw y 1, nw y 2, nw y 3]) d w rfl 4 0 rfl
  rw [Op.equalIn]
  simp only [Sem.run_bind, run_underlying Tryz.underlying181, Result.andThen_ok, hs]
  simp only [Std.Legacy.Range.forIn_eq_forIn_range', Std.Legacy.Range.size, Nat.sub_zero, Nat.add_sub_cancel, Nat.div_one]
  refine (congrArg (fun r => Result.andThen r _) h1).trans ?_
  simp only [Result.andThen_ok, List.drop_zero, nc_inj hx hy]
  by_cases he : x = y
  · rw [if_pos he]; simp [he]
  · rw [if_neg he]; simp [he]
end Go.Proofs.YtnhdepmalejclaaGreatDoor

namespace Go.Proofs.YtnhdepmalejclaaGreatDoor
open Go.RowKit Go.Lib
theorem inv_set : (nc pR).setIfInBounds 0 (.int .u64 (IntKind.u64.wrap ((nw pR 0 : Int) - 2))) = nc (pR - 2) := by kernel_rfl
set_option maxRecDepth 100000 in
set_option maxHeartbeats 1000000 in
theorem invR_any (a : Nat) (ha : a < 115792089237316195423570985008687907853269984665640564039457584007913129639936) (w : World) : Calls Tryz.prog 147 #[.agg (nc a)] w (NRet (invR a) w) := by
  have F0 := Lib.hid (BK.start w)
  have T0 : Hid True := trivial
  obtain ⟨R, hR⟩ : ∃ R, R = invR a := ⟨_, rfl⟩
  obtain ⟨E, hE⟩ : ∃ E, E = pR - 2 := ⟨_, rfl⟩
  have Cp : Hid (∀ w, Calls Tryz.prog 180 #[] w (fun e w' => e = .returned (.agg (nc pR)) ∧ Below w.heap.size w w')) := fun w => pR_any w
  have CR : Hid (∀ w, Calls Tryz.prog 182 #[.agg (nc a), .agg (nc E)] w (fun e w' => e = .returned (.agg (nc R)) ∧ Below w.heap.size w w')) := fun w => by rw [hR, hE]; exact powerR_any a (pR - 2) ha (by decide) w
  have HS := Lib.hid inv_set
  rw [← hR]
  rw [← hE] at HS
  clear ha hR hE
  go_enter Tryz.func147, Tryz.ntmps147
  go_wp2_with (first
    | (have hx_ := T0; refine s_box F0.out rfl rfl rfl rfl ?_; clear hx_ T0; intro w1 b1 h1 _; have F1 := Lib.hid h1; clear h1 F0; have T1 : Hid True := trivial)
    | (have hx_ := T1; refine s_alloc F1.out rfl rfl zeroN rfl ?_; clear hx_ T1; intro w2 b2 h1 _; have F2 := Lib.hid h1; clear h1 F1; have T2 : Hid True := trivial)
    | (go_at_call 180; have hx_ := T2; refine (Cp.out _).mono ?_; clear hx_ T2; rintro e1 w3 ⟨rfl, hb⟩; have F3 := Lib.hid (F2.out.later hb); clear hb F2; have T3 : Hid True := trivial)
    | (have hx_ := T3; refine s_alloc F3.out rfl rfl zeroN rfl ?_; clear hx_ T3; intro w4 b4 h1 _; have F4 := Lib.hid h1; clear h1 F3; have T4 : Hid True := trivial)
    | (have hx_ := T4; refine s_store F4.out rfl rfl 0 rfl rfl (nc pR) rfl rfl (by kernel_rfl) (nc_cells _) ?_; clear hx_ T4; intro w5 h1; have c0 := (h1.cell 0 rfl 0).trans (nc_at pR (by decide)); have F5 := Lib.hid h1; clear h1 F4; have T5 : Hid True := trivial)
    | (have hx_ := T5; refine s_set64 F5.out rfl rfl 0 rfl 0 (by show 0 < 4; decide) rfl _ rfl ?_; clear hx_ T5 c0; intro w6 h3; simp only [List.set_cons_zero] at h3; rw [HS.out] at h3; have F6 := Lib.hid h3; clear h3 F5; have T6 : Hid True := trivial)
    | (have hx_ := T6; refine s_load_n rfl rfl a rfl (F6.out.ln 2 rfl) ?_; clear hx_ T6; have T7 : Hid True := trivial)
    | (have hx_ := T7; refine s_load_n rfl rfl E rfl (F6.out.ln 0 rfl) ?_; clear hx_ T7; have T8 : Hid True := trivial)
    | (go_at_call 182; have hx_ := T8; refine (CR.out _).mono ?_; clear hx_ T8; rintro e1 w7 ⟨rfl, hb⟩; have F7 := Lib.hid (F6.out.later hb); clear hb F6; have T9 : Hid True := trivial)
    | (have hx_ := T9; refine s_store F7.out rfl rfl 1 rfl rfl (nc R) rfl rfl (by kernel_rfl) (nc_cells _) ?_; clear hx_ T9; intro w8 h1; have F8 := Lib.hid h1; clear h1 F7))
  exact bodyPost_ret (v := .agg (nc R)) (by simp [results, Tryz.results147, asAddr]; exact retN (F8.out.mem (i := 1) rfl)) rfl ⟨rfl, F8.out.below⟩
theorem mod_lt_R (a : Nat) : a % pR < 115792089237316195423570985008687907853269984665640564039457584007913129639936 := Nat.lt_trans (Nat.mod_lt _ (by decide)) pR_lt
set_option maxRecDepth 100000 in
set_option maxHeartbeats 1000000 in
theorem sameR_any (a b : Nat) (ha : a < 115792089237316195423570985008687907853269984665640564039457584007913129639936) (hb : b < 115792089237316195423570985008687907853269984665640564039457584007913129639936) (w : World) : Calls Tryz.prog 183 #[.agg (nc a), .agg (nc b)] w (fun e w' => e = .returned (.bool (decide (a % pR = b % pR))) ∧ Below w.heap.size w w') := by
  have F0 := Lib.hid (BK.start w)
  have T0 : Hid True := trivial
  obtain ⟨u, hu⟩ : ∃ u, u = a % pR := ⟨_, rfl⟩
  obtain ⟨v, hv⟩ : ∃ u, u = b % pR := ⟨_, rfl⟩
  have Cu : Hid (∀ w, Calls Tryz.prog 150 #[.agg (nc a)] w (fun e w' => e = .returned (.agg (nc u)) ∧ Below w.heap.size w w')) := fun w => by rw [hu]; exact leastR_any a ha w
  have Cv : Hid (∀ w, Calls Tryz.prog 150 #[.agg (nc b)] w (fun e w' => e = .returned (.agg (nc v)) ∧ Below w.heap.size w w')) := fun w => by rw [hv]; exact leastR_any b hb w
  have heq : ∀ w, (Op.equalIn 10000 181 (.agg (nc u)) (.agg (nc v))).run Tryz.prog w = .ok (decide (u = v)) w := fun w => eqN 9998 (by rw [hu]; exact mod_lt_R a) (by rw [hv]; exact mod_lt_R b) w
  rw [← hu, ← hv]
  obtain ⟨d, hd⟩ : ∃ d, d = decide (u = v) := ⟨_, rfl⟩
  rw [← hd] at heq ⊢
  clear ha hb hu hv hd
  go_enter Tryz.func183, Tryz.ntmps183
  go_wp2_with (first
    | (have hx_ := T0; refine s_box F0.out rfl rfl rfl rfl ?_; clear hx_ T0; intro w1 b1 h1 _; have F1 := Lib.hid h1; clear h1 F0; have T1 : Hid True := trivial)
    | (have hx_ := T1; refine s_box F1.out rfl rfl rfl rfl ?_; clear hx_ T1; intro w2 b2 h1 _; have F2 := Lib.hid h1; clear h1 F1))
  refine wp_region_walk 5 [] (by kernel_rfl) (by kernel_rfl) (allocs_ok (by kernel_rfl) (fun x hx => (List.not_mem_nil hx).elim)) ?Af1 ?h1 ?hK1
  case h1 =>
    intro F hFs hNe
    try simp only [Act.put]
    try simp only [List.setIfInBounds_toArray, List.set_cons_succ, List.set_cons_zero]
    simp only [List.take_succ_cons, List.take_zero]
    go_big_quiet_want
    refine q_load_n rfl a rfl (F2.out.ln 1 rfl) ?_
    go_big_quiet_on
    simp only [Act.put, List.setIfInBounds_toArray, List.set_cons_succ, List.set_cons_zero]
    go_big_quiet_step (exact fs_call hFs (Cu.out _))
    go_big_quiet_want
    refine q_load_n rfl b rfl (F2.out.ln 0 rfl) ?_
    go_big_quiet_on
    simp only [Act.put, List.setIfInBounds_toArray, List.set_cons_succ, List.set_cons_zero]
    go_big_quiet_step (exact fs_call hFs (Cv.out _))
    go_big_quiet_step (fail)
    refine wpQuiet_nil ?_
    exact rfl
  case hK1 =>
    intro w4 hb
    have F4 := Lib.hid (F2.out.later hb)
    clear hb
    simp only [freshQ]
    try simp only [Act.put]
    simp only [List.length_nil, Nat.reduceAdd, List.drop_succ_cons, List.drop_zero]
    go_wp2
    exact bodyPost_ret (v := .bool d) (by simp [results, Tryz.results183]) rfl ⟨rfl, F4.out.below⟩
end Go.Proofs.YtnhdepmalejclaaGreatDoor
