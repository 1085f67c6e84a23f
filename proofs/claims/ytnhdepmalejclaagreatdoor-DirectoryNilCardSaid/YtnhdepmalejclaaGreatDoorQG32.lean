/- The texts RQ5 of this work, merged by wip/merge.py. No conditions. -/
import Derived.Test.YtnhdepmalejclaaGreatDoorQG31
namespace Go.Proofs.YtnhdepmalejclaaGreatDoor
open Go.RowKit Go.Lib
set_option maxRecDepth 100000 in
set_option maxHeartbeats 16000000 in
theorem rsum512_any (A : Option Addr) (n c : Nat) (l : List UInt8) (hn : n ≤ 100000) (w : World) (hr : Reads w w.heap.size 1 A n (bvs l)) : Calls Tryz.prog 95 #[.slice A n c] w (BRet (rsum512 l) w) := by
  have F0 := Lib.hid (BK.start w)
  have T0 : Hid True := trivial
  obtain ⟨K, hK⟩ : ∃ K, K = kR512 := ⟨_, rfl⟩
  have KL : Hid (K.length = 80) := by show _ = _; rw [hK]; rfl
  have KI : Hid ((Tryz.prog.info? 234).map (·.size) = some (w64s K).toArray.size) := by show _ = _; rw [hK]; kernel_rfl
  have CK : Hid (∀ w', Calls Tryz.prog 139 #[] w' (fun e w2 => e = .returned (.agg (w64s K).toArray) ∧ Below w'.heap.size w' w2)) := fun w' => by rw [hK]; exact k512_any w'
  obtain ⟨y, hy⟩ : ∃ y, y = padR l 128 16 := ⟨_, rfl⟩
  have CP : Hid (∀ w', Below w.heap.size w w' → Calls Tryz.prog 101 #[.slice A n c, .int .i64 128, .int .i64 16] w' (PadPost y w')) := fun w' hb => by rw [hy]; exact padded_any A n c l 128 16 (by decide) (by decide) (by decide) (by omega) w' ((hr.below hb).more hb.size)
  have HK := Lib.hid hK
  have HLN : Hid (l.length ≤ 100000) := by show _ ≤ _; have := hr.1; rw [bvs_length] at this; omega
  have HY := Lib.hid hy
  clear hr hK hy
  go_enter Tryz.func95, Tryz.ntmps95
  go_wp2_with (first
    | (have hx_ := T0; refine s_alloc F0.out rfl rfl zeroB64 rfl ?_; clear hx_ T0; intro w1 b1 h1 _; have F1 := Lib.hid h1; clear h1 F0; have T1 : Hid True := trivial)
    | (have hx_ := T1; refine s_alloc F1.out rfl rfl zero_h512 rfl ?_; clear hx_ T1; intro w2 b2 h1 _; have F2 := Lib.hid h1; clear h1 F1; have T2 : Hid True := trivial)
    | (have hx_ := T2; refine s_store F2.out rfl rfl 0 rfl rfl (w64s riniq.l).toArray rfl rfl (by kernel_rfl) (w64s_cells' _) ?_; clear hx_ T2; intro w3 h1; have F3 := Lib.hid h1; clear h1 F2; have T3 : Hid True := trivial)
    | (go_at_call 139; have hx_ := T3; refine (CK.out _).mono ?_; clear hx_ T3; rintro e w4 ⟨rfl, hb⟩; have F4 := Lib.hid (F3.out.later hb); clear hb F3; have T4 : Hid True := trivial)
    | (have hx_ := T4; refine s_alloc F4.out rfl rfl zero_k512 rfl ?_; clear hx_ T4; intro w5 b3 h1 _; have F5 := Lib.hid h1; clear h1 F4; have T5 : Hid True := trivial)
    | (have hx_ := T5; refine s_store F5.out rfl rfl 0 rfl rfl (w64s K).toArray rfl (by simp [w64s, KL.out]) KI.out (w64s_cells' _) ?_; clear hx_ T5; intro w6 h1; have F6 := Lib.hid h1; clear h1 F5; have T6 : Hid True := trivial)
    | (go_at_call 101; have hx_ := T6; refine (CP.out _ F6.out.below).mono ?_; clear hx_ T6; rintro e w7 ⟨A7, c7, rfl, hc7, hr7, hb, hfr⟩; have F7 := Lib.hid (F6.out.later hb); have HR := Lib.hid hr7; have HC := Lib.hid hc7; have HFR := Lib.hid hfr; have N1 := Lib.hid (lt_of_some (F6.out.mem (i := 2) rfl)); have N2 := Lib.hid (lt_of_some (F6.out.mem (i := 1) rfl)); have N3 := Lib.hid (lt_of_some (F6.out.mem (i := 0) rfl)); clear hb F6 hr7 hc7 hfr))
  obtain ⟨M, hM⟩ : ∃ M, M = y.length := ⟨_, rfl⟩
  have M64 : Hid (M % 128 = 0 ∧ 0 < M ∧ M ≤ 200000) := by
    show _ ∧ _ ∧ _
    rw [hM, HY.out]
    exact padR_len128 l (by have := HLN.out; omega)
  rw [← hM] at HR HC ⊢
  have HM := Lib.hid hM
  clear hM
  obtain ⟨mb, off, hA7, hmb, hby⟩ := HR.out.bytes M64.out.2.1
  subst hA7
  have MS : Hid (Msg w7 mb off M y) := Lib.hid ⟨hmb, hby⟩
  have hfr := HFR.out _ rfl
  have NE2 : Hid (mb ≠ b2) := by show _ ≠ _; have := N2.out; have h9 : w6.heap.size ≤ mb := hfr; omega
  clear hmb hby hfr HFR N1 N2 N3 HR
  obtain ⟨N, hN⟩ : ∃ N, M = 128 * N := ⟨M / 128, by have := M64.out.1; omega⟩
  have m1 : (M : Int) ≤ 200000 := by have := M64.out.2.2; omega
  have hN1 : N ≤ 1563 := by have := M64.out.2.2; omega
  have HN := Lib.hid hN
  clear hN
  go_loopw [6] (fun iv wr => ∃ i : Nat, i ≤ N ∧ iv = .int .i64 ((128 * i : Nat) : Int) ∧ Hid (Msg wr mb off M y ∧ BK w wr [(b3, (w64s K).toArray, 234), (b2, (w64s (rrunq y i).l).toArray, 225), (b1, (bvs (List.replicate 64 0)).toArray, 26)])) (fun iv _ => M - (RowKit.intOf iv).toNat)
  case atStart => exact ⟨0, Nat.zero_le _, rfl, Lib.hid ⟨MS.out, F7.out⟩⟩
  case round =>
    obtain ⟨i, hi, rfl, hO⟩ := hrel
    have G := hO
    clear hO F7 MS
    by_cases hlt : i < N
    · have hlt' : ((128 * i : Nat) : Int) < (M : Int) := by have := HN.out; omega
      obtain ⟨a, ha⟩ : ∃ a, a = 128 * i := ⟨_, rfl⟩
      rw [← ha] at hlt' ⊢
      have a0 : (0 : Int) ≤ (a : Int) := by omega
      have a1 : (a : Int) + 127 < (M : Int) := by have := HN.out; omega
      have HA := Lib.hid ha
      have HI := Lib.hid hlt
      obtain ⟨zs, hzs⟩ : ∃ zs, zs = (w64s (List.replicate 80 0)).toArray := ⟨_, rfl⟩
      have Zz : Hid (∀ w, (zeroValue 234).run Tryz.prog w = .ok (.agg zs) w) := by rw [hzs]; exact Lib.hid zero_k512
      have Zs : Hid (zs.size = 80) := by show _ = _; rw [hzs]; rfl
      have Zq : Hid (∀ j, j < 80 → zs[j]? = some (.int .u64 0)) := fun j hj => by rw [hzs]; unfold w64s; rw [List.map_replicate, List.getElem?_toArray, List.getElem?_replicate, if_pos hj]
      clear ha hlt hi hzs
      have T0 : Hid True := trivial
      go_wp2_with (have hx_ := T0; refine s_allocN G.out.2 rfl rfl Zz.out rfl ?_; clear hx_ T0; intro w8 bw h1 hb hnew; have F8 := Lib.hid h1; have B8 := Lib.hid (G.out.1.bel hb); have NEW : Hid (mb ≠ bw) := Lib.hid (fun e => absurd G.out.1.1 (by omega)); clear h1 hb hnew G)
      obtain ⟨m, hm⟩ : ∃ m, m = y.drop a := ⟨_, rfl⟩
      obtain ⟨R, hR⟩ : ∃ R, R = rrunq y i := ⟨_, rfl⟩
      have BY : Hid (∀ wr, Msg wr mb off M y → ∀ j, j < 128 → wr.drew.cell? ⟨mb, off + (a + j), none⟩ = some (.int .u8 (byR m j))) := fun wr hb j hj => by
        rw [hm]; unfold byR
        have h1 := hb.2 (a + j) (by omega)
        refine Eq.trans h1 ?_
        rw [List.getD_eq_getElem?_getD, List.getD_eq_getElem?_getD, List.getElem?_drop]
      have W8 : Hid (BK w w8 [(bw, over zs (w64s (rschedq m 0)), 234), (b3, (w64s K).toArray, 234), (b2, (w64s R.l).toArray, 225), (b1, (bvs (List.replicate 64 0)).toArray, 26)]) := by
        show BK _ _ _; rw [show w64s (rschedq m 0) = [] from rfl, over_nil, hR]; exact F8.out
      have HR0 := Lib.hid hR
      have Hm := Lib.hid hm
      clear F8 hm hR
      go_loopw [32] (fun tv wr => ∃ t : Nat, t ≤ 16 ∧ tv = .int .i64 (t : Int) ∧ Hid (Msg wr mb off M y ∧ BK w wr [(bw, over zs (w64s (rschedq m t)), 234), (b3, (w64s K).toArray, 234), (b2, (w64s R.l).toArray, 225), (b1, (bvs (List.replicate 64 0)).toArray, 26)])) (fun tv _ => 16 - (RowKit.intOf tv).toNat)
      case atStart => exact ⟨0, Nat.zero_le _, rfl, Lib.hid ⟨B8.out, W8.out⟩⟩
      case round =>
        obtain ⟨t, ht, rfl, hO⟩ := hrel
        clear W8 B8
        by_cases htl : t < 16
        · have t1 : (t : Int) < 16 := by omega
          have t0 : (0 : Int) ≤ (t : Int) := by omega
          obtain ⟨L, hL⟩ : ∃ L, L = rschedq m t := ⟨_, rfl⟩
          have HLL : Hid (L.length = t) := by show _ = _; rw [hL, rschedq_len]
          have HT := Lib.hid htl
          have G : Hid (Msg wr mb off M y ∧ BK w wr [(bw, over zs (w64s (L ++ [rprt m t 0])), 234), (b3, (w64s K).toArray, 234), (b2, (w64s R.l).toArray, 225), (b1, (bvs (List.replicate 64 0)).toArray, 26)]) := by
            show _ ∧ _
            have h := hO.out
            rw [← hL, ← over_zero zs L (by rw [HLL.out]; exact Zq.out t (by omega))] at h
            exact h
          have SN : Hid (rschedq m (t + 1) = L ++ [rprt m t 8]) := by show _ = _; rw [rschedq, if_pos htl, ← hL]
          clear hO hL htl ht
          go_wp2
          go_loopw [35] (fun iv wr => ∃ i2 : Nat, i2 ≤ 8 ∧ iv = .int .i64 (i2 : Int) ∧ Hid (Msg wr mb off M y ∧ BK w wr [(bw, over zs (w64s (L ++ [rprt m t i2])), 234), (b3, (w64s K).toArray, 234), (b2, (w64s R.l).toArray, 225), (b1, (bvs (List.replicate 64 0)).toArray, 26)])) (fun iv _ => 8 - (RowKit.intOf iv).toNat)
          case atStart => exact ⟨0, Nat.zero_le _, rfl, G⟩
          case round =>
            obtain ⟨i2, hi2, rfl, hO⟩ := hrel
            clear G
            by_cases hil : i2 < 8
            · have i21 : (i2 : Int) < 8 := by omega
              have i20 : (0 : Int) ≤ (i2 : Int) := by omega
              obtain ⟨xb, hxb⟩ : ∃ x, x = byR m (8 * t + i2) := ⟨_, rfl⟩
              obtain ⟨xp, hxp⟩ : ∃ x, x = rprt m t i2 := ⟨_, rfl⟩
              have cb : wr.drew.cell? ⟨mb, off + (a + 8 * t + i2), none⟩ = some (.int .u8 xb) := by rw [Nat.add_assoc a, hxb]; exact BY.out wr hO.out.1 (8 * t + i2) (by have := HT.out; omega)
              have cp : wr.drew.cell? ⟨bw, t, none⟩ = some (.int .u64 xp) := by
                refine (hO.out.2.cell 0 rfl t).trans ?_
                have h1 := over_atq zs (L ++ [rprt m t i2]) t (by rw [List.length_append, HLL.out]; simp)
                rw [h1, hxp, ← HLL.out]
                simp
              have yb : 0 ≤ xb ∧ xb ≤ 255 := by rw [hxb]; exact byR_lt _ _
              obtain ⟨yb0, yb1⟩ := yb
              have LT : Hid (t < (over zs (w64s (L ++ [xp]))).size) := by
                show _ < _
                rw [over_size _ _ (by unfold w64s; rw [List.length_map, List.length_append, HLL.out, Zs.out]; have := HT.out; simp; omega), Zs.out]; have := HT.out; omega
              have SO : Hid ((over zs (w64s (L ++ [xp]))).setIfInBounds t (.int .u64 (bits .or .u64 (IntKind.u64.wrap (xp * 256)) xb)) = over zs (w64s (L ++ [rprt m t (i2 + 1)]))) := by
                show _ = _
                have h1 := over_last zs L xp (bits .or .u64 (IntKind.u64.wrap (xp * 256)) xb) (by rw [HLL.out, Zs.out]; have := HT.out; omega)
                rw [HLL.out] at h1
                rw [h1, rprt, ← hxb, ← hxp]
              rw [← hxp] at hO
              have G := hO
              have HI2 := Lib.hid hil
              clear hO hil hi2 hxb hxp
              go_wp2
              refine wp_quiet_tail 17 (by kernel_rfl) (by kernel_rfl) ?_
              simp only [List.take_succ_cons, List.take_zero, List.drop_succ_cons, List.drop_zero]
              try simp only [Act.put]
              try simp only [List.setIfInBounds_toArray, List.set_cons_succ, List.set_cons_zero]
              iterate 17 (go_big_quiet_step (fail))
              refine wpQuiet_nil ?_
              clear cb cp
              have T0 : Hid True := trivial
              go_wp2_with (have hx_ := T0; refine s_set64f G.out.2.drew rfl rfl 0 rfl t LT.out rfl _ rfl ?_; clear hx_ T0; intro w9 h1 hk; simp only [List.set_cons_zero] at h1; rw [SO.out] at h1; have F9 := Lib.hid h1; have M9 := Lib.hid (G.out.1.same (hk mb NEW.out)); clear h1 hk)
              go_roundw
              case rel => exact ⟨i2 + 1, HI2.out, by go_num, Lib.hid ⟨M9.out, F9.out⟩⟩
              case measure => simp [RowKit.intOf]; omega
            · have hi8 : i2 = 8 := by omega
              have hdi : decide ((i2 : Int) < 8) = false := by simp; omega
              rw [hi8, ← SN.out] at hO
              have G := hO
              clear hO hi2 hil hi8
              go_wp2
              go_roundw
              case rel => exact ⟨t + 1, HT.out, by go_num, G⟩
              case measure => simp [RowKit.intOf]; omega
        · have ht16 : t = 16 := by omega
          have hd : decide ((t : Int) < 16) = false := by simp; omega
          rw [ht16] at hO
          have G := hO
          clear hO htl ht ht16
          go_wp2
          go_loopw [10] (fun tv wr => ∃ j : Nat, j ≤ 64 ∧ tv = .int .i64 ((j : Int) + 16) ∧ Hid (Msg wr mb off M y ∧ BK w wr [(bw, over zs (w64s (rschedq m (j + 16))), 234), (b3, (w64s K).toArray, 234), (b2, (w64s R.l).toArray, 225), (b1, (bvs (List.replicate 64 0)).toArray, 26)])) (fun tv _ => 80 - (RowKit.intOf tv).toNat)
          case atStart => exact ⟨0, Nat.zero_le _, by go_num, G⟩
          case round =>
            obtain ⟨j, hj, rfl, hO⟩ := hrel
            clear G
            by_cases hjl : j < 64
            · have j1 : (j : Int) + 16 < 80 := by omega
              have j0 : (0 : Int) ≤ (j : Int) := by omega
              obtain ⟨L, hL⟩ : ∃ L, L = rschedq m (j + 16) := ⟨_, rfl⟩
              have hLl : L.length = j + 16 := by rw [hL, rschedq_len]
              rw [← hL] at hO
              obtain ⟨x2, hx2⟩ : ∃ x, x = L.getD (j + 14) 0 := ⟨_, rfl⟩
              obtain ⟨x15, hx15⟩ : ∃ x, x = L.getD (j + 1) 0 := ⟨_, rfl⟩
              obtain ⟨x7, hx7⟩ : ∃ x, x = L.getD (j + 9) 0 := ⟨_, rfl⟩
              obtain ⟨x16, hx16⟩ : ∃ x, x = L.getD j 0 := ⟨_, rfl⟩
              have CC : Hid (∀ (wr : World) (bs : List (Nat × Array Value × TypeId)), BK w wr ((bw, over zs (w64s L), 234) :: bs) → ∀ k, k < j + 16 → wr.cell? ⟨bw, k, none⟩ = some (.int .u64 (L.getD k 0))) := fun wr bs hb k hk => by
                rw [hb.cell 0 rfl k]
                exact over_atq zs L k (by omega)
              have HLL := Lib.hid hLl
              have HLE := Lib.hid hL
              have HJ := Lib.hid hjl
              have c2 := CC.out wr _ hO.out.2 (j + 14) (by omega)
              have c15 := CC.out wr _ hO.out.2 (j + 1) (by omega)
              have c7 := CC.out wr _ hO.out.2 (j + 9) (by omega)
              have c16 := CC.out wr _ hO.out.2 j (by omega)
              rw [← hx2] at c2
              rw [← hx15] at c15
              rw [← hx7] at c7
              rw [← hx16] at c16
              have b2_ : (0 : Int) ≤ (j : Int) + 14 := by omega
              have SN : Hid (rschedq m (j + 17) = L ++ [IntKind.u64.wrap (IntKind.u64.wrap (IntKind.u64.wrap (rsigq1 x2 + x7) + rsigq0 x15) + x16)]) := by
                show _ = _
                rw [rschedq, if_neg (by omega), ← hL, hx2, hx15, hx7, hx16, show j + 16 - 2 = j + 14 from by omega, show j + 16 - 15 = j + 1 from by omega, show j + 16 - 7 = j + 9 from by omega, show j + 16 - 16 = j from by omega]
              have G := hO
              clear hL hLl hO hx2 hx15 hx7 hx16 hjl hj
              go_wp2
              go_quiet (first | exact (ror64_any _ _ (by decide) _).mono fun e w2 h => ⟨h.1, _, h.2⟩)
              obtain ⟨s1, hs1⟩ : ∃ s1, rsigq1 x2 = s1 := ⟨_, rfl⟩
              have HS1 := Lib.hid hs1
              unfold rsigq1 at hs1
              rw [hs1]
              obtain ⟨w5, hw5⟩ : ∃ w5, w5 = wr.drewN nq := ⟨_, rfl⟩
              have G5 : Hid (Msg w5 mb off M y ∧ BK w w5 [(bw, over zs (w64s L), 234), (b3, (w64s K).toArray, 234), (b2, (w64s R.l).toArray, 225), (b1, (bvs (List.replicate 64 0)).toArray, 26)]) := by
                show _ ∧ _
                rw [hw5]; exact ⟨G.out.1.same rfl, G.out.2.later ⟨rfl, rfl, rfl, Nat.le_refl _, fun _ _ => rfl⟩⟩
              have d15 : w5.cell? ⟨bw, j + 1, none⟩ = some (.int .u64 x15) := by rw [hw5]; exact c15
              have d7 : w5.cell? ⟨bw, j + 9, none⟩ = some (.int .u64 x7) := by rw [hw5]; exact c7
              have d16 : w5.cell? ⟨bw, j, none⟩ = some (.int .u64 x16) := by rw [hw5]; exact c16
              rw [← hw5]
              clear hw5 hs1 c2 c15 c7 c16 G
              go_wp2
              go_quiet (first | exact (ror64_any _ _ (by decide) _).mono fun e w2 h => ⟨h.1, _, h.2⟩)
              obtain ⟨s0, hs0⟩ : ∃ s0, rsigq0 x15 = s0 := ⟨_, rfl⟩
              have HS0 := Lib.hid hs0
              unfold rsigq0 at hs0
              rw [hs0]
              obtain ⟨w6_, hw6⟩ : ∃ w6_, w6_ = w5.drewN nq := ⟨_, rfl⟩
              have G6 : Hid (Msg w6_ mb off M y ∧ BK w w6_ [(bw, over zs (w64s L), 234), (b3, (w64s K).toArray, 234), (b2, (w64s R.l).toArray, 225), (b1, (bvs (List.replicate 64 0)).toArray, 26)]) := by
                show _ ∧ _
                rw [hw6]; exact ⟨G5.out.1.same rfl, G5.out.2.later ⟨rfl, rfl, rfl, Nat.le_refl _, fun _ _ => rfl⟩⟩
              have e7 : w6_.drew.cell? ⟨bw, j + 9, none⟩ = some (.int .u64 x7) := by rw [hw6]; exact d7
              have e16 : w6_.drew.cell? ⟨bw, j, none⟩ = some (.int .u64 x16) := by rw [hw6]; exact d16
              rw [← hw6]
              clear hw6 hs0 d15 d7 d16 G5
              have LL : Hid ((w64s L).length = j + 16) := by show _ = _; unfold w64s; rw [List.length_map, HLL.out]
              have SO : Hid ((over zs (w64s L)).setIfInBounds (j + 16) (.int .u64 (IntKind.u64.wrap (IntKind.u64.wrap (IntKind.u64.wrap (s1 + x7) + s0) + x16))) = over zs (w64s (rschedq m (j + 1 + 16)))) := by
                show _ = _
                have h1 := over_set zs (w64s L) (.int .u64 (IntKind.u64.wrap (IntKind.u64.wrap (IntKind.u64.wrap (s1 + x7) + s0) + x16))) (by rw [LL.out, Zs.out]; have := HJ.out; omega)
                rw [LL.out] at h1
                rw [h1, show j + 1 + 16 = j + 17 from by omega, SN.out, HS1.out, HS0.out]
                unfold w64s
                rw [List.map_append]
                rfl
              go_wp2
              refine wp_quiet_tail 15 (by kernel_rfl) (by kernel_rfl) ?_
              simp only [List.take_succ_cons, List.take_zero, List.drop_succ_cons, List.drop_zero]
              try simp only [Act.put]
              try simp only [List.setIfInBounds_toArray, List.set_cons_succ, List.set_cons_zero]
              iterate 15 (go_big_quiet_step (fail))
              refine wpQuiet_nil ?_
              clear e7 e16
              have T0 : Hid True := trivial
              go_wp2_with (have hx_ := T0; refine s_set64f G6.out.2.drew rfl rfl 0 rfl (j + 16) (by rw [over_size _ _ (by rw [LL.out, Zs.out]; have := HJ.out; omega), Zs.out]; have := HJ.out; omega) rfl _ rfl ?_; clear hx_ T0; intro w9 h1 hk; simp only [List.set_cons_zero] at h1; rw [SO.out] at h1; have F9 := Lib.hid h1; have M9 := Lib.hid (G6.out.1.same (hk mb NEW.out)); clear h1 hk)
              go_roundw
              case rel => exact ⟨j + 1, HJ.out, by go_num, Lib.hid ⟨M9.out, F9.out⟩⟩
              case measure => simp [RowKit.intOf]; omega
            · have hj48 : j = 64 := by omega
              have hd' : decide ((j : Int) + 16 < 80) = false := by simp; omega
              rw [hj48] at hO
              obtain ⟨W, hW⟩ : ∃ W, W = rschedq m 80 := ⟨_, rfl⟩
              have WL : Hid (W.length = 80) := by show _ = _; rw [hW, rschedq_len]
              have HWE := Lib.hid hW
              have WO : over zs (w64s (rschedq m (64 + 16))) = (w64s W).toArray := by
                rw [hW]
                have h1 : (w64s (rschedq m 80)).length = 80 := by unfold w64s; rw [List.length_map, rschedq_len]
                unfold over
                rw [h1, List.drop_eq_nil_of_le (by rw [Array.length_toList, Zs.out]; exact Nat.le_refl _), List.append_nil]
              rw [WO] at hO
              have G := hO
              have T0 : Hid True := trivial
              clear hO hj hjl hj48 hW WO BY
              go_wp2_with (first
                | (have hx_ := T0; refine s_load_Rq rfl rfl rfl (G.out.2.later (Below.refl _ _)) 2 rfl ?_; clear hx_ T0; have T1 : Hid True := trivial)
                | (have hx_ := T1; refine s_allocN G.out.2 rfl rfl zero_h512 rfl ?_; clear hx_ T1; intro v1 bs_ h1 hb hnew; have F1_ := Lib.hid h1; have M1_ := Lib.hid (G.out.1.bel hb); have NES : Hid (mb ≠ bs_) := Lib.hid (fun e => absurd G.out.1.1 (by omega)); clear h1 hb hnew G; have T2 : Hid True := trivial)
                | (have hx_ := T2; refine s_storef F1_.out rfl rfl 0 rfl rfl (w64s R.l).toArray rfl rfl (by kernel_rfl) (w64s_cells' _) ?_; clear hx_ T2; intro v2 h1 hk; simp only [List.set_cons_zero] at h1; have F2_ := Lib.hid h1; have M2_ := Lib.hid (M1_.out.same (hk mb NES.out)); clear h1 hk F1_ M1_))
              go_loopw [111] (fun tv wr => ∃ (k : Nat) (X : R8), k ≤ 80 ∧ tv = .int .i64 (k : Int) ∧ Hid (X = rrndsq K W R k) ∧ Hid (Msg wr mb off M y ∧ BK w wr [(bs_, (w64s X.l).toArray, 225), (bw, (w64s W).toArray, 234), (b3, (w64s K).toArray, 234), (b2, (w64s R.l).toArray, 225), (b1, (bvs (List.replicate 64 0)).toArray, 26)])) (fun tv _ => 80 - (RowKit.intOf tv).toNat)
              case atStart => exact ⟨0, R, Nat.zero_le _, rfl, Lib.hid rfl, Lib.hid ⟨M2_.out, F2_.out⟩⟩
              case round =>
                obtain ⟨k, X, hk, rfl, hX, hO⟩ := hrel
                clear F2_ M2_
                obtain ⟨xa, xc, xd, xe, xf, xg, xi, xj⟩ := X
                by_cases hkl : k < 80
                · have k1 : (k : Int) < 80 := by omega
                  have k0 : (0 : Int) ≤ (k : Int) := by omega
                  have HKL := Lib.hid hkl
                  obtain ⟨kv, hkv⟩ : ∃ x, x = K.getD k 0 := ⟨_, rfl⟩
                  obtain ⟨wv, hwv⟩ : ∃ x, x = W.getD k 0 := ⟨_, rfl⟩
                  have CK2 : Hid (∀ wr : World, BK w wr [(bs_, (w64s (R8.mk xa xc xd xe xf xg xi xj).l).toArray, 225), (bw, (w64s W).toArray, 234), (b3, (w64s K).toArray, 234), (b2, (w64s R.l).toArray, 225), (b1, (bvs (List.replicate 64 0)).toArray, 26)] → wr.cell? ⟨b3, k, none⟩ = some (.int .u64 kv) ∧ wr.cell? ⟨bw, k, none⟩ = some (.int .u64 wv)) := fun wr hb => by
                    rw [hkv, hwv]
                    exact ⟨(hb.cell 2 rfl k).trans (w64s_at K k (by rw [KL.out]; exact hkl)), (hb.cell 1 rfl k).trans (w64s_at W k (by rw [WL.out]; exact hkl))⟩
                  have HKV := Lib.hid hkv
                  have HWV := Lib.hid hwv
                  have G := hO
                  clear hO hkl hk hkv hwv
                  have f0 := (G.out.2.cell 0 rfl 0).trans (show _ = some (Value.int .u64 xa) from rfl)
                  have f4 := (G.out.2.cell 0 rfl 4).trans (show _ = some (Value.int .u64 xf) from rfl)
                  go_wp2
                  go_quiet (fail)
                  obtain ⟨wr1, hw_⟩ : ∃ w_, w_ = wr.drewN nq := ⟨_, rfl⟩
                  have G1 : Hid (Msg wr1 mb off M y ∧ BK w wr1 [(bs_, (w64s (R8.mk xa xc xd xe xf xg xi xj).l).toArray, 225), (bw, (w64s W).toArray, 234), (b3, (w64s K).toArray, 234), (b2, (w64s R.l).toArray, 225), (b1, (bvs (List.replicate 64 0)).toArray, 26)]) := by
                    show _ ∧ _
                    rw [hw_]; exact ⟨G.out.1.same rfl, G.out.2.later ⟨rfl, rfl, rfl, Nat.le_refl _, fun _ _ => rfl⟩⟩
                  rw [← hw_]
                  clear hw_ f0 f4 G
                  have f5 := (G1.out.2.cell 0 rfl 5).trans (show _ = some (Value.int .u64 xg) from rfl)
                  have f6 := (G1.out.2.cell 0 rfl 6).trans (show _ = some (Value.int .u64 xi) from rfl)
                  have f7 := (G1.out.2.cell 0 rfl 7).trans (show _ = some (Value.int .u64 xj) from rfl)
                  obtain ⟨ck, cw⟩ := CK2.out wr1 G1.out.2
                  go_wp2
                  go_quiet (first | exact (ror64_any _ _ (by decide) _).mono fun e w2 h => ⟨h.1, _, h.2⟩)
                  obtain ⟨t1v, ht1⟩ : ∃ z, rtq1 xj (rbigq1 xf) xf xg xi kv wv = z := ⟨_, rfl⟩
                  have HT1 := Lib.hid ht1
                  unfold rtq1 rbigq1 at ht1
                  rw [ht1]
                  clear ht1 ck cw
                  obtain ⟨wr2, hw_⟩ : ∃ w_, w_ = wr1.drewN nq := ⟨_, rfl⟩
                  have G2 : Hid (Msg wr2 mb off M y ∧ BK w wr2 [(bs_, (w64s (R8.mk xa xc xd xe xf xg xi xj).l).toArray, 225), (bw, (w64s W).toArray, 234), (b3, (w64s K).toArray, 234), (b2, (w64s R.l).toArray, 225), (b1, (bvs (List.replicate 64 0)).toArray, 26)]) := by
                    show _ ∧ _
                    rw [hw_]; exact ⟨G1.out.1.same rfl, G1.out.2.later ⟨rfl, rfl, rfl, Nat.le_refl _, fun _ _ => rfl⟩⟩
                  rw [← hw_]
                  clear hw_ f5 f6 f7 G1
                  have f1 := (G2.out.2.cell 0 rfl 1).trans (show _ = some (Value.int .u64 xc) from rfl)
                  have f2 := (G2.out.2.cell 0 rfl 2).trans (show _ = some (Value.int .u64 xd) from rfl)
                  go_wp2
                  go_quiet (first | exact (ror64_any _ _ (by decide) _).mono fun e w2 h => ⟨h.1, _, h.2⟩)
                  obtain ⟨t2v, ht2⟩ : ∃ z, rtq2 xa (rbigq0 xa) xc xd = z := ⟨_, rfl⟩
                  have HT2 := Lib.hid ht2
                  unfold rtq2 rbigq0 at ht2
                  rw [ht2]
                  clear ht2
                  obtain ⟨wr3, hw_⟩ : ∃ w_, w_ = wr2.drewN nq := ⟨_, rfl⟩
                  have G3 : Hid (Msg wr3 mb off M y ∧ BK w wr3 [(bs_, (w64s (R8.mk xa xc xd xe xf xg xi xj).l).toArray, 225), (bw, (w64s W).toArray, 234), (b3, (w64s K).toArray, 234), (b2, (w64s R.l).toArray, 225), (b1, (bvs (List.replicate 64 0)).toArray, 26)]) := by
                    show _ ∧ _
                    rw [hw_]; exact ⟨G2.out.1.same rfl, G2.out.2.later ⟨rfl, rfl, rfl, Nat.le_refl _, fun _ _ => rfl⟩⟩
                  rw [← hw_]
                  clear hw_ f1 f2 G2
                  have f0 := (G3.out.2.cell 0 rfl 0).trans (show _ = some (Value.int .u64 xa) from rfl)
                  have f1 := (G3.out.2.cell 0 rfl 1).trans (show _ = some (Value.int .u64 xc) from rfl)
                  have f2 := (G3.out.2.cell 0 rfl 2).trans (show _ = some (Value.int .u64 xd) from rfl)
                  have f3 := (G3.out.2.cell 0 rfl 3).trans (show _ = some (Value.int .u64 xe) from rfl)
                  have f4 := (G3.out.2.cell 0 rfl 4).trans (show _ = some (Value.int .u64 xf) from rfl)
                  have f5 := (G3.out.2.cell 0 rfl 5).trans (show _ = some (Value.int .u64 xg) from rfl)
                  have f6 := (G3.out.2.cell 0 rfl 6).trans (show _ = some (Value.int .u64 xi) from rfl)
                  have T0 : Hid True := trivial
                  go_wp2_with (have hx_ := T0; refine s_storef G3.out.2 rfl rfl 0 rfl rfl #[.int .u64 (IntKind.u64.wrap (t1v + t2v)), .int .u64 xa, .int .u64 xc, .int .u64 xd, .int .u64 (IntKind.u64.wrap (xe + t1v)), .int .u64 xf, .int .u64 xg, .int .u64 xi] rfl rfl (by kernel_rfl) (by simp [Value.oneCell']) ?_; clear hx_ T0; intro v4 h1 hk; simp only [List.set_cons_zero] at h1; have F4_ := Lib.hid h1; have M4_ := Lib.hid (G3.out.1.same (hk mb NES.out)); clear h1 hk)
                  go_roundw
                  case rel =>
                    refine ⟨k + 1, rrndq ⟨xa, xc, xd, xe, xf, xg, xi, xj⟩ kv wv, HKL.out, by go_num, ?_, ?_⟩
                    · show _ = _
                      rw [rrndsq, ← hX.out, HKV.out, HWV.out]
                    · refine Lib.hid ⟨M4_.out, ?_⟩
                      have e1 := HT1.out
                      have e2 := HT2.out
                      subst e1
                      subst e2
                      exact F4_.out
                  case measure => simp [RowKit.intOf]; omega
                · have hk64 : k = 80 := by omega
                  have hd3 : decide ((k : Int) < 80) = false := by simp; omega
                  obtain ⟨X, hXX⟩ : ∃ X, X = R8.mk xa xc xd xe xf xg xi xj := ⟨_, rfl⟩
                  rw [← hXX] at hX hO
                  rw [hk64] at hX
                  have G := hO
                  clear hO hkl hk hk64 hXX
                  go_wp2
                  go_loopw [193] (fun tv wr => ∃ n : Nat, n ≤ 8 ∧ tv = .int .i64 (n : Int) ∧ Hid (Msg wr mb off M y ∧ BK w wr [(bs_, (w64s X.l).toArray, 225), (bw, (w64s W).toArray, 234), (b3, (w64s K).toArray, 234), (b2, over (w64s R.l).toArray (w64s ((addQ R X).l.take n)), 225), (b1, (bvs (List.replicate 64 0)).toArray, 26)])) (fun tv _ => 8 - (RowKit.intOf tv).toNat)
                  case atStart => exact ⟨0, Nat.zero_le _, rfl, G⟩
                  case round =>
                    obtain ⟨n, hn, rfl, hO⟩ := hrel
                    clear G
                    by_cases hnl : n < 8
                    · have n1 : (n : Int) < 8 := by omega
                      have n0 : (0 : Int) ≤ (n : Int) := by omega
                      obtain ⟨r, hr⟩ : ∃ r, R.l[n]? = some r := ⟨R.l[n]'(by rw [l_len]; exact hnl), List.getElem?_eq_getElem _⟩
                      obtain ⟨x, hx⟩ : ∃ x, X.l[n]? = some x := ⟨X.l[n]'(by rw [l_len]; exact hnl), List.getElem?_eq_getElem _⟩
                      have hlen : (w64s ((addQ R X).l.take n)).length = n := by simp only [w64s, List.length_map, List.length_take, l_len]; omega
                      have cr : wr.drew.cell? ⟨b2, n, none⟩ = some (.int .u64 r) := by
                        refine (hO.out.2.cell 3 rfl n).trans ?_
                        rw [over_get _ _ _ (by omega), w64s, List.getElem?_toArray, List.getElem?_map, hr]; rfl
                      have cx : wr.drew.cell? ⟨bs_, n, none⟩ = some (.int .u64 x) := by
                        refine (hO.out.2.cell 0 rfl n).trans ?_
                        rw [w64s, List.getElem?_toArray, List.getElem?_map, hx]; rfl
                      have LL : Hid (n < (over (w64s R.l).toArray (w64s ((addQ R X).l.take n))).size) := by
                        show _ < _
                        rw [over_size _ _ (by rw [hlen]; show n ≤ 8; omega)]; exact hnl
                      have SO : Hid ((over (w64s R.l).toArray (w64s ((addQ R X).l.take n))).setIfInBounds n (.int .u64 (IntKind.u64.wrap (r + x))) = over (w64s R.l).toArray (w64s ((addQ R X).l.take (n + 1)))) := by
                        show _ = _
                        have h1 := over_set (w64s R.l).toArray (w64s ((addQ R X).l.take n)) (.int .u64 (IntKind.u64.wrap (r + x))) (by rw [hlen]; exact hnl)
                        rw [hlen] at h1
                        rw [h1, List.take_add_one, addQ_get hr hx]
                        unfold w64s
                        rw [List.map_append]
                        rfl
                      have HNL := Lib.hid hnl
                      have G := hO
                      clear hO hn hnl hr hx hlen
                      go_wp2
                      refine wp_quiet_tail 9 (by kernel_rfl) (by kernel_rfl) ?_
                      simp only [List.take_succ_cons, List.take_zero, List.drop_succ_cons, List.drop_zero]
                      try simp only [Act.put]
                      try simp only [List.setIfInBounds_toArray, List.set_cons_succ, List.set_cons_zero]
                      iterate 9 (go_big_quiet_step (fail))
                      refine wpQuiet_nil ?_
                      clear cr cx
                      have T0 : Hid True := trivial
                      go_wp2_with (have hx_ := T0; refine s_set64f G.out.2.drew rfl rfl 3 rfl n LL.out rfl _ rfl ?_; clear hx_ T0; intro w9 h1 hk; simp only [List.set_cons_zero, List.set_cons_succ] at h1; rw [SO.out] at h1; have F9 := Lib.hid h1; have M9 := Lib.hid (G.out.1.same (hk mb NE2.out)); clear h1 hk)
                      go_roundw
                      case rel => exact ⟨n + 1, HNL.out, by go_num, Lib.hid ⟨M9.out, F9.out⟩⟩
                      case measure => simp [RowKit.intOf]; omega
                    · have hn8 : n = 8 := by omega
                      have hd4 : decide ((n : Int) < 8) = false := by simp; omega
                      rw [hn8] at hO
                      have G := hO
                      have HX := hX
                      clear hO hn hnl hn8 hX
                      have RE : Hid (over (w64s R.l).toArray (w64s ((addQ R X).l.take 8)) = (w64s (rrunq y (i + 1)).l).toArray) := by
                        show _ = _
                        rw [rrunq, rblockq, ← HK.out, ← HA.out, ← Hm.out, ← HWE.out, ← HR0.out, ← HX.out]
                        rfl
                      rw [RE.out] at G
                      have AE : ((128 * (i + 1) : Nat) : Int) = (a : Int) + 128 := by have := HA.out; omega
                      have AH := Lib.hid AE
                      clear AE RE
                      go_wp2
                      go_roundw
                      case rel => exact ⟨i + 1, HI.out, by rw [AH.out], Lib.hid ⟨G.out.1, G.out.2.drop.drop⟩⟩
                      case measure => simp [RowKit.intOf]; omega

    · have hiN : i = N := by omega
      have hd5 : decide (128 * (i : Int) < (M : Int)) = false := decide_eq_false (by have := HN.out; omega)
      rw [hiN] at G
      obtain ⟨X, hX⟩ : ∃ X, X = rrunq y N := ⟨_, rfl⟩
      rw [← hX] at G
      have HX := Lib.hid hX
      clear hlt hi hX hiN
      have T0 : Hid True := trivial
      go_wp2_with (have hx_ := T0; refine s_alloc G.out.2 rfl rfl zeroB64 rfl ?_; clear hx_ T0; intro w8 bo h1 _; have F8 := Lib.hid h1; clear h1 G)
      have W8 : Hid (BK w w8 [(bo, over (bvs (List.replicate 64 0)).toArray (bvs ((List.range 0).map (routq X))), 26), (b3, (w64s K).toArray, 234), (b2, (w64s X.l).toArray, 225), (b1, (bvs (List.replicate 64 0)).toArray, 26)]) := by
        show BK _ _ _; rw [List.range_zero, List.map_nil, show bvs [] = [] from rfl, over_nil]; exact F8.out
      clear F8
      go_loopw [206] (fun tv wr => ∃ k : Nat, k ≤ 64 ∧ tv = .int .i64 (k : Int) ∧ Hid (BK w wr [(bo, over (bvs (List.replicate 64 0)).toArray (bvs ((List.range k).map (routq X))), 26), (b3, (w64s K).toArray, 234), (b2, (w64s X.l).toArray, 225), (b1, (bvs (List.replicate 64 0)).toArray, 26)])) (fun tv _ => 64 - (RowKit.intOf tv).toNat)
      case atStart => exact ⟨0, Nat.zero_le _, rfl, W8⟩
      case round =>
        obtain ⟨k, hk, rfl, hO⟩ := hrel
        clear W8
        by_cases hkl : k < 64
        · have k1 : (k : Int) < 64 := by omega
          have k0 : (0 : Int) ≤ (k : Int) := by omega
          obtain ⟨xv, hxv⟩ : ∃ x, x = X.l.getD (k / 8) 0 := ⟨_, rfl⟩
          have cx : wr.cell? ⟨b2, k / 8, none⟩ = some (.int .u64 xv) := by
            refine (hO.out.cell 2 rfl (k / 8)).trans ?_
            rw [hxv]
            exact w64s_at X.l (k / 8) (by rw [l_len]; omega)
          have RV : Hid ((xv / 2 ^ (56 - 8 * (k % 8)) % 256 : Int) = ((routq X k).toNat : Int)) := by show _ = _; rw [hxv]; exact routq_eq X k
          have hlen : (bvs ((List.range k).map (routq X))).length = k := by rw [bvs_length, List.length_map, List.length_range]
          have SO : Hid ((over (bvs (List.replicate 64 0)).toArray (bvs ((List.range k).map (routq X)))).setIfInBounds k (.int .u8 (xv / 2 ^ (56 - 8 * (k % 8)) % 256)) = over (bvs (List.replicate 64 0)).toArray (bvs ((List.range (k + 1)).map (routq X)))) := by
            show _ = _
            have h1 := over_set (bvs (List.replicate 64 0)).toArray (bvs ((List.range k).map (routq X))) (.int .u8 (xv / 2 ^ (56 - 8 * (k % 8)) % 256)) (by rw [hlen]; exact hkl)
            rw [hlen] at h1
            rw [h1, List.range_succ, List.map_append, bvs_append, RV.out]
            rfl
          have LL : Hid (k < (over (bvs (List.replicate 64 0)).toArray (bvs ((List.range k).map (routq X)))).size) := by
            show _ < _
            rw [over_size _ _ (by rw [hlen]; show k ≤ 64; omega)]; exact hkl
          have HKL := Lib.hid hkl
          have G := hO
          clear hO hk hkl hxv hlen RV
          have T0 : Hid True := trivial
          go_wp2_with (have hx_ := T0; refine s_set8 G.out rfl rfl 0 rfl k LL.out rfl _ rfl ?_; clear hx_ T0; intro w9 h1; simp only [List.set_cons_zero] at h1; rw [SO.out] at h1; have F9 := Lib.hid h1; clear h1)
          go_roundw
          case rel => exact ⟨k + 1, HKL.out, by go_num, F9⟩
          case measure => simp [RowKit.intOf]; omega
        · have hk32 : k = 64 := by omega
          have hd6 : decide ((k : Int) < 64) = false := by simp; omega
          rw [hk32] at hO
          obtain ⟨res, hres⟩ : ∃ r, r = rsum512 l := ⟨_, rfl⟩
          have RL : Hid (res.length = 64) := by show _ = _; rw [hres]; exact rsum512_len l
          have RE : over (bvs (List.replicate 64 0)).toArray (bvs ((List.range 64).map (routq X))) = (bvs res).toArray := by
            have e : (List.range 64).map (routq X) = res := by
              rw [hres, HX.out, HY.out]
              unfold rsum512
              rw [← HY.out, ← HM.out, show M / 128 = N by have := HN.out; omega]
            rw [e]
            unfold over
            rw [bvs_length, RL.out, List.drop_eq_nil_of_le (by simp [bvs_length]), List.append_nil]
          rw [RE] at hO
          have G := hO
          have HRES := Lib.hid hres
          clear hO hk hkl hk32 hres RE
          have T0 : Hid True := trivial
          go_wp2_with (first
            | (have hx_ := T0; refine wpList_load_arr rfl _ _ rfl bo 0 rfl (bvs res).toArray _ (by with_reducible exact G.out.range 0 rfl) Tryz.underlying26 rfl (by rw [bvs_size, RL.out]; kernel_rfl) ?_; clear hx_ T0; have T1 : Hid True := trivial)
            | (have hx_ := T1; refine s_store G.out rfl rfl 3 rfl rfl (bvs res).toArray rfl (by rw [bvs_size, RL.out]; rfl) (by rw [bvs_size, RL.out]; kernel_rfl) (bvs_cells _) ?_; clear hx_ T1; intro w9 h1; have F9 := Lib.hid h1; clear h1 G))
          have hl := ret64 RL.out (F9.out.mem (i := 3) rfl)
          refine bodyPost_ret (v := .agg (bvs res).toArray) (by simp [results, Tryz.results95, asAddr, Act.put, hl]) rfl ?_
          rw [← HRES.out]
          exact ⟨rfl, F9.out.below⟩
end Go.Proofs.YtnhdepmalejclaaGreatDoor
