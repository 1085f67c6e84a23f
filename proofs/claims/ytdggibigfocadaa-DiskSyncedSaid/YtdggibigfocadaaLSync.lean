/- The law DiskSynced. No conditions. -/
import Derived.Test.YtdggibigfocadaaLSync0
import Derived.Test.YtdggibigfocadaaD15
import Derived.Test.YtdggibigfocadaaDNil
import Derived.Test.YtdggibigfocadaaArgBytes
namespace Go.Proofs.Ytdggibigfocadaa
open Go.RowKit
set_option maxRecDepth 100000 in
set_option maxHeartbeats 16000000 in
theorem DiskSynced_any (bs ov ch : List UInt8) (w : World) {A A' A'' : Option Addr} {c c' c'' : Nat} (hbs : Reads w w.heap.size 1 A bs.length (bvs bs)) (hov : Reads w w.heap.size 1 A' ov.length (bvs ov)) (hch : Reads w w.heap.size 1 A'' ch.length (bvs ch))
    (hmb : bs.length ≤ 9223372036854775807) (hmo : ov.length ≤ 9223372036854775807) :
    Calls Try.prog 4 #[.slice A bs.length c, .slice A' ov.length c', .slice A'' ch.length c''] w fun e w' => e = .returned (.bool true) ∧ Below w.heap.size w w' := by
  have Hmb : ∀ k, k < bs.length → (k : Int) + 1 ≤ 9223372036854775807 := fun k hk => by omega
  have Hmo : ∀ k, k < ov.length → (k : Int) + 1 ≤ 9223372036854775807 := fun k hk => by omega
  have Hbs := Lib.hid hbs
  have Hov := Lib.hid hov
  have Hch := Lib.hid hch
  obtain ⟨zs, hzs⟩ : ∃ zs : Array Value, zs = (bvs zero64).toArray := ⟨_, rfl⟩
  have hz28 : ∀ w, (zeroValue 28).run Try.prog w = .ok (.agg zs) w := fun w => by rw [hzs]; kernel_rfl
  have Hzs := Lib.hid hzs
  have hzz : zs.size = 64 := by rw [hzs]; rfl
  have Hzz := Lib.hid hzz
  clear hbs hov hch hmb hmo hzs hzz
  go_enter Try.func4, Try.ntmps4
  go_wp2_with (first
    | (go_at_call 8; go_must (refine (awake_any _).mono ?_; rintro e w0 ⟨rfl, hb0⟩))
    | (go_at_call 9; go_must (refine (New_dk (H := []) (w0 := w) 64 (by omega) (by omega) hb0 (fun p hp => by cases hp)).mono ?_; rintro e w1 ⟨g, rfl, hD1⟩; have H1 := Lib.hid hD1; clear hD1 hb0)))
  go_loopw [27] (fun i wr => ∃ (k : Nat) (s : DS), k ≤ bs.length ∧ i = .int .i64 k ∧ Hid (Syn1 bs k s) ∧ Hid (DK w wr g s [])) (fun i _ => bs.length - (intOf i).toNat)
  case atStart => exact ⟨0, _, Nat.zero_le _, rfl, Syn1.start _, H1.out⟩
  case round =>
    obtain ⟨k, s, hk, rfl, hI, hD⟩ := hrel
    clear H1
    by_cases hlt : k < bs.length
    · have hlt' : (k : Int) < (bs.length : Int) := by omega
      have hk0 : (0 : Int) ≤ (k : Int) := by omega
      have hmx := Hmb k hlt
      by_cases h64 : k < 64
      · have h64' : (k : Int) < 64 := by omega
        obtain ⟨b, off, u, rfl, hb, hu, hcell⟩ := (Hbs.out.below hD.out.below0).at_ hlt
        obtain ⟨x, hx⟩ : ∃ x, bs[k]? = some x := ⟨_, List.getElem?_eq_getElem hlt⟩
        obtain rfl : u = bv x := by simp [bvs, hx] at hu; exact hu.symm
        obtain ⟨s', hs', hI'⟩ := hI.out.write h64 hx
        have Hs := Lib.hid hs'
        have HI := Lib.hid hI'
        have Hsm := Lib.hid hI.out.small
        unfold bv at hcell
        clear hu hx hs' hI'
        go_wp2_with (first
          | (go_at_call 11; go_must (refine (filled_any x _).mono ?_; rintro e w2 ⟨rfl, hb2⟩; have H2 := Lib.hid (hD.out.below hb2); clear hb2))
          | (go_at_call 10; go_must (refine (Write_dk H2.out _ (fillB x) (fillB_length x) Hsm.out).mono ?_; rintro e w3 ⟨rfl, hD3⟩; rw [Hs.out] at hD3 ⊢; have H3 := Lib.hid hD3; clear hD3)))
        go_roundw
        case rel => exact ⟨k + 1, s', hlt, by go_num, HI, H3⟩
        case measure => simp [intOf]; omega
      · have h64' : ¬ ((k : Int) < 64) := by omega
        have HI := Lib.hid (hI.out.skip (by omega))
        go_wp2
        go_roundw
        case rel => exact ⟨k + 1, s, hlt, by go_num, HI, hD⟩
        case measure => simp [intOf]; omega
    · obtain rfl : k = bs.length := by omega
      obtain ⟨s2, hs2, hI2⟩ := hI.out.sync ov
      have Hs2 := Lib.hid hs2
      have HI2 := Lib.hid hI2
      clear hs2 hI2 hlt
      go_wp2_with (go_at_call 13; go_must (refine (Sync_dk hD.out).mono ?_; rintro e w3 ⟨rfl, hD3⟩; rw [Hs2.out] at hD3 ⊢; have H3 := Lib.hid hD3; clear hD3))
      clear hI hD
      go_loopw [49] (fun i wr => ∃ (k : Nat) (s : DS), k ≤ ov.length ∧ i = .int .i64 k ∧ Hid (Syn2 bs ov k s) ∧ Hid (DK w wr g s [])) (fun i _ => ov.length - (intOf i).toNat)
      case atStart => exact ⟨0, _, Nat.zero_le _, rfl, HI2, H3⟩
      case round =>
        obtain ⟨k, s, hk, rfl, hI, hD⟩ := hrel
        clear H3 HI2 Hs2
        by_cases hlt : k < ov.length
        · have hlt' : (k : Int) < (ov.length : Int) := by omega
          have hk0 : (0 : Int) ≤ (k : Int) := by omega
          have hmx := Hmo k hlt
          by_cases h64 : k < 64
          · have h64' : (k : Int) < 64 := by omega
            obtain ⟨b, off, u, rfl, hb, hu, hcell⟩ := (Hov.out.below hD.out.below0).at_ hlt
            obtain ⟨x, hx⟩ : ∃ x, ov[k]? = some x := ⟨_, List.getElem?_eq_getElem hlt⟩
            obtain rfl : u = bv x := by simp [bvs, hx] at hu; exact hu.symm
            obtain ⟨s', hs', hI'⟩ := hI.out.write h64 hx
            have Hs := Lib.hid hs'
            have HI := Lib.hid hI'
            have Hsm := Lib.hid hI.out.small
            unfold bv at hcell
            clear hu hx hs' hI'
            go_wp2_with (first
              | (go_at_call 11; go_must (refine (filled_any x _).mono ?_; rintro e w2 ⟨rfl, hb2⟩; have H2 := Lib.hid (hD.out.below hb2); clear hb2))
              | (go_at_call 10; go_must (refine (Write_dk H2.out _ (fillB x) (fillB_length x) Hsm.out).mono ?_; rintro e w3 ⟨rfl, hD3⟩; rw [Hs.out] at hD3 ⊢; have H3 := Lib.hid hD3; clear hD3)))
            go_roundw
            case rel => exact ⟨k + 1, s', hlt, by go_num, HI, H3⟩
            case measure => simp [intOf]; omega
          · have h64' : ¬ ((k : Int) < 64) := by omega
            have HI := Lib.hid (hI.out.skip (by omega))
            go_wp2
            go_roundw
            case rel => exact ⟨k + 1, s, hlt, by go_num, HI, hD⟩
            case measure => simp [intOf]; omega
        · obtain rfl : k = ov.length := by omega
          have HI3 := Lib.hid (hI.out.restart ch)
          have Hch3 := Lib.hid (Hch.out.below hD.out.below0)
          obtain ⟨s3, hs3⟩ : ∃ s3, s.restart ch = s3 := ⟨_, rfl⟩
          rw [hs3] at HI3
          have Hs3 := Lib.hid hs3
          clear hs3 hlt
          go_wp2_with (go_at_call 15; go_must (refine (Restart_dk hD.out Hch3.out).mono ?_; rintro e w3 ⟨rfl, hD3⟩; rw [Hs3.out] at hD3; have H3 := Lib.hid hD3; clear hD3))
          clear hD hI
          go_loopw [67] (fun i wr => ∃ j : Nat, j ≤ 64 ∧ i = .int .i64 j ∧ Hid (DK w wr g s3 [])) (fun i _ => 64 - (intOf i).toNat)
          case atStart => exact ⟨0, by omega, rfl, H3⟩
          case round =>
            obtain ⟨j, hjle, rfl, hD⟩ := hrel
            clear H3 Hs3 Hch3
            by_cases hj : j < 64
            · have hj' : (j : Int) < 64 := by omega
              have hj0 : (0 : Int) ≤ (j : Int) := by omega
              obtain ⟨mm, hmm⟩ : ∃ mm : Nat, 63 - j = mm := ⟨_, rfl⟩
              have hmm' : (63 : Int) - (j : Int) = (mm : Int) := by omega
              obtain ⟨x, hx, hrd⟩ := HI3.out.read hj
              have hxl := (HI3.out.mixed j x hx).1
              have hmx2 := (HI3.out.mixed j x hx).2
              have hsame := HI3.out.same j x hx
              have Hrd := Lib.hid hrd
              have Hxl := Lib.hid hxl
              have Hmx2 := Lib.hid hmx2
              have Hsame := Lib.hid hsame
              obtain ⟨xs, hxs⟩ : ∃ xs : Array Value, xs = (bvs x).toArray := ⟨_, rfl⟩
              have hxsz : xs.size = 64 := by rw [hxs, List.size_toArray, bvs_length, hxl]
              have Hxs := Lib.hid hxs
              have Hxsz := Lib.hid hxsz
              obtain ⟨ws, hws⟩ : ∃ ws : Array Value, ws = (bvs (secB bs j)).toArray := ⟨_, rfl⟩
              have hwsz : ws.size = 64 := by rw [hws, List.size_toArray, bvs_length, secB_length]
              have Hws := Lib.hid hws
              have Hwsz := Lib.hid hwsz
              clear hx hrd hxl hmx2 hsame hxs hxsz hws hwsz
              by_cases hjb : j < bs.length
              · skip
                have hjb' : (j : Int) < (bs.length : Int) := by omega
                obtain ⟨b, off, u, rfl, hb, hu, hcell⟩ := (Hbs.out.below hD.out.below0).at_ hjb
                obtain ⟨y, hy⟩ : ∃ y, bs[j]? = some y := ⟨_, List.getElem?_eq_getElem hjb⟩
                obtain rfl : u = bv y := by simp [bvs, hy] at hu; exact hu.symm
                have hblt : b < wr.heap.size := Nat.lt_of_lt_of_le hb hD.out.below0.size
                have hcell2 : ∀ o, (wr.alloc o).cell? ⟨b, off + j, none⟩ = some (.int .u8 (y.toNat : Int)) := fun o => (World.cell?_alloc_lt wr o ⟨b, off + j, none⟩ hblt).trans hcell
                have hwb : secB bs j = fillB y := by unfold secB; rw [if_pos hjb, List.getD_eq_getElem?_getD, hy]; rfl
                rw [hwb] at Hws
                have Hwb := Lib.hid hwb
                clear hu hy hcell hwb
                by_cases hge : ov.length ≤ 63 - j
                · have hge2 : (ov.length : Int) ≤ (mm : Int) := by omega
                  have hqx : ∀ w, (Op.equalIn 10000 28 (.agg xs) (.agg ws)).run Try.prog w = .ok true w := fun w => by rw [Hxs.out, Hws.out, eq64 9998 _ _ Hxl.out (by first | exact secB_length _ _ | exact fillB_length _) w, Hsame.out hge, Hwb.out, beq_self_eq_true]
                  have hqg : Try.prog.eqGuardType Try.prog.depth 28 = false := by kernel_rfl
                  go_wp2_with (first
                    | (have hx_ := H8; refine wpList_load_want rfl _ _ rfl w7.heap.size 0 rfl xs _ (range_of (H8.out.held (p := (w7.heap.size, Obj.cells xs 28)) (by simp))) Try.underlying28 rfl (by rw [Hxsz.out]; kernel_rfl) ?_)
                    | (have hx_ := H8; refine wpList_load_want rfl _ _ rfl wr.heap.size 0 rfl ws _ (range_of (H8.out.held (p := (wr.heap.size, Obj.cells ws 28)) (by simp))) Try.underlying28 rfl (by rw [Hwsz.out]; kernel_rfl) ?_)
                    | (go_at_call 14; go_must (refine (Read_dk HW6.out (j : Int)).mono ?_; rintro e w7 ⟨rfl, hD7⟩; rw [Hrd.out]; rw [← Hxs.out]; have H7 := Lib.hid hD7; clear hD7))
                    | (have hx_ := H7; refine wpList_store_mid rfl _ _ _ rfl w7.heap.size 0 xs rfl rfl (by rw [Hxsz.out]; exact there_new _ _ _ 64 (by rw [Hzz.out]; exact Nat.le_refl _)) (by rw [Hxsz.out]; kernel_rfl) (by rw [Hxs.out]; exact all_oneCell_toArray (bvs_one _)) ?_; rw [alloc_all _ zs xs (by rw [Hzz.out, Hxsz.out])]; have H8 := Lib.hid (H7.out.hold (.cells xs 28)))
                    | (go_at_call 11; (refine (filled_any y _).mono ?_; rintro e w5 ⟨rfl, hb5⟩; rw [← Hws.out]; have HW5 := Lib.hid (HW.out.below hb5); clear hb5))
                    | (have hx_ := HW5; refine wpList_store_mid rfl _ _ _ rfl wr.heap.size 0 ws rfl rfl (by rw [Hwsz.out]; exact there_of (HW5.out.held (p := (wr.heap.size, Obj.cells zs 28)) (by simp)) 64 (by rw [Hzz.out]; exact Nat.le_refl _)) (by rw [Hwsz.out]; kernel_rfl) (by rw [Hws.out]; exact all_oneCell_toArray (bvs_one _)) ?_; have HW6 := Lib.hid (HW5.out.store (v := ws) (by rw [Hzz.out, Hwsz.out]) hD.out.below0.size (by simp)); generalize (w5.setCells wr.heap.size 0 ws.toList) = w6 at HW6 ⊢)
                    | (refine buildZ rfl rfl ?_; rw [← Hzs.out])
                    | (refine wpList_store_mid rfl _ _ _ rfl wr.heap.size 0 zs rfl rfl (by rw [Hzz.out]; exact there_new _ _ _ 64 (by rw [Hzz.out]; exact Nat.le_refl _)) (by rw [Hzz.out]; kernel_rfl) (by rw [Hzs.out]; exact all_oneCell_toArray (bvs_one _)) ?_; rw [alloc_all _ zs zs rfl]; have HW := Lib.hid (hD.out.hold (.cells zs 28))))
                  have H11 := Lib.hid (H8.out.drop (H' := []) (fun p hp => by cases hp))
                  go_roundw
                  case rel => exact ⟨j + 1, hj, by go_num, H11⟩
                  case measure => simp [intOf]; omega
                · have hge2 : ¬ ((ov.length : Int) ≤ (mm : Int)) := by omega
                  have hge3 : (mm : Int) < (ov.length : Int) := by omega
                  obtain ⟨b2, off2, u2, rfl, hb2, hu2, hcell3⟩ := Hov.out.at_ (k := mm) (by omega)
                  obtain ⟨z, hz⟩ : ∃ z, ov[mm]? = some z := ⟨_, List.getElem?_eq_getElem (by omega)⟩
                  obtain rfl : u2 = bv z := by simp [bvs, hz] at hu2; exact hu2.symm
                  have hcell4 : ∀ w', Below w.heap.size w w' → w'.cell? ⟨b2, off2 + mm, none⟩ = some (.int .u8 (z.toNat : Int)) := fun w' hb => (hb.cell (p := ⟨b2, off2 + mm, none⟩) hb2).trans hcell3
                  have Hcell4 := Lib.hid hcell4
                  have hov : ov.getD (63 - j) 0 = z := by rw [hmm, List.getD_eq_getElem?_getD, hz]; rfl
                  have hmix : ∀ k, k < 64 → x[k]? = (secB bs j)[k]? ∨ x[k]? = (fillB z)[k]? := fun k hk => by rw [← hov]; exact Hmx2.out k hk
                  have Hmix := Lib.hid hmix
                  obtain ⟨ns, hns⟩ : ∃ ns : Array Value, ns = (bvs (fillB z)).toArray := ⟨_, rfl⟩
                  have hnsz : ns.size = 64 := by rw [hns]; simp [bvs_length, fillB_length]
                  have Hns := Lib.hid hns
                  have Hnsz := Lib.hid hnsz
                  clear hu2 hz hcell3 hcell4 hov hmix hns hnsz
                  go_wp2_with (first
                    | (go_at_call 11; (have hx_ := H8; refine (filled_any z _).mono ?_; rintro e w9 ⟨rfl, hb9⟩; rw [← Hns.out]; have H9 := Lib.hid (H8.out.below hb9); clear hb9))
                    | (have hx_ := H9; refine wpList_store_mid rfl _ _ _ rfl w9.heap.size 0 ns rfl rfl (by rw [Hnsz.out]; exact there_new _ _ _ 64 (by rw [Hzz.out]; exact Nat.le_refl _)) (by rw [Hnsz.out]; kernel_rfl) (by rw [Hns.out]; exact all_oneCell_toArray (bvs_one _)) ?_; rw [alloc_all _ zs ns (by rw [Hzz.out, Hnsz.out])]; have H10 := Lib.hid (H9.out.hold (.cells ns 28)))
                    | (go_at_call 14; go_must (refine (Read_dk HW6.out (j : Int)).mono ?_; rintro e w7 ⟨rfl, hD7⟩; rw [Hrd.out]; rw [← Hxs.out]; have H7 := Lib.hid hD7; clear hD7))
                    | (have hx_ := H7; refine wpList_store_mid rfl _ _ _ rfl w7.heap.size 0 xs rfl rfl (by rw [Hxsz.out]; exact there_new _ _ _ 64 (by rw [Hzz.out]; exact Nat.le_refl _)) (by rw [Hxsz.out]; kernel_rfl) (by rw [Hxs.out]; exact all_oneCell_toArray (bvs_one _)) ?_; rw [alloc_all _ zs xs (by rw [Hzz.out, Hxsz.out])]; have H8 := Lib.hid (H7.out.hold (.cells xs 28)); have hcz := Hcell4.out _ H8.out.below0)
                    | (go_at_call 11; (refine (filled_any y _).mono ?_; rintro e w5 ⟨rfl, hb5⟩; rw [← Hws.out]; have HW5 := Lib.hid (HW.out.below hb5); clear hb5))
                    | (have hx_ := HW5; refine wpList_store_mid rfl _ _ _ rfl wr.heap.size 0 ws rfl rfl (by rw [Hwsz.out]; exact there_of (HW5.out.held (p := (wr.heap.size, Obj.cells zs 28)) (by simp)) 64 (by rw [Hzz.out]; exact Nat.le_refl _)) (by rw [Hwsz.out]; kernel_rfl) (by rw [Hws.out]; exact all_oneCell_toArray (bvs_one _)) ?_; have HW6 := Lib.hid (HW5.out.store (v := ws) (by rw [Hzz.out, Hwsz.out]) hD.out.below0.size (by simp)); generalize (w5.setCells wr.heap.size 0 ws.toList) = w6 at HW6 ⊢)
                    | (refine buildZ rfl rfl ?_; rw [← Hzs.out])
                    | (refine wpList_store_mid rfl _ _ _ rfl wr.heap.size 0 zs rfl rfl (by rw [Hzz.out]; exact there_new _ _ _ 64 (by rw [Hzz.out]; exact Nat.le_refl _)) (by rw [Hzz.out]; kernel_rfl) (by rw [Hzs.out]; exact all_oneCell_toArray (bvs_one _)) ?_; rw [alloc_all _ zs zs rfl]; have HW := Lib.hid (hD.out.hold (.cells zs 28))))
                  rw [← Hwb.out] at Hws
                  have hgX := H10.out.held (p := (w7.heap.size, Obj.cells xs 28)) (by simp)
                  have hgW := H10.out.held (p := (wr.heap.size, Obj.cells ws 28)) (by simp)
                  have hgN := H10.out.held (p := (w9.heap.size, Obj.cells ns 28)) (by simp)
                  have HgX := Lib.hid hgX
                  have HgW := Lib.hid hgW
                  have HgN := Lib.hid hgN
                  have H11 := Lib.hid (H10.out.drop (H' := []) (fun p hp => by cases hp))
                  clear hgX hgW hgN HW6 H7 H8 H9 H10
                  generalize (w9.alloc (.cells ns 28)) = wA at *
                  go_loopw [102] (fun i wr => ∃ m : Nat, m ≤ 64 ∧ i = .int .i64 m ∧ ∃ q, wr = wA.drewN q) (fun i _ => 64 - (intOf i).toNat)
                  case atStart => exact ⟨0, by omega, rfl, 0, rfl⟩
                  case round =>
                    obtain ⟨m, hm, rfl, q, rfl⟩ := hrel
                    by_cases hlm : m < 64
                    · have hlm' : (m : Int) < 64 := by omega
                      have hm0 : (0 : Int) ≤ (m : Int) := by omega
                      obtain ⟨cx, hcx⟩ : ∃ cx, x[m]? = some cx := ⟨_, List.getElem?_eq_getElem (by rw [Hxl.out]; exact hlm)⟩
                      obtain ⟨cw, hcw⟩ : ∃ cw, (secB bs j)[m]? = some cw := ⟨_, List.getElem?_eq_getElem (by rw [secB_length]; exact hlm)⟩
                      obtain ⟨cn, hcn⟩ : ∃ cn, (fillB z)[m]? = some cn := ⟨_, List.getElem?_eq_getElem (by rw [fillB_length]; exact hlm)⟩
                      have hor := Hmix.out m hlm
                      rw [hcx, hcw, hcn] at hor
                      have kx : wA.cell? ⟨w7.heap.size, m, none⟩ = some (.int .u8 (cx.toNat : Int)) := by rw [cell_of_row wA _ m _ _ (0, 0) HgX.out, Hxs.out]; simp [bvs, hcx, bv]
                      have kw : wA.cell? ⟨wr.heap.size, m, none⟩ = some (.int .u8 (cw.toNat : Int)) := by rw [cell_of_row wA _ m _ _ (0, 0) HgW.out, Hws.out]; simp [bvs, hcw, bv]
                      have kn : wA.cell? ⟨w9.heap.size, m, none⟩ = some (.int .u8 (cn.toNat : Int)) := by rw [cell_of_row wA _ m _ _ (0, 0) HgN.out, Hns.out]; simp [bvs, hcn, bv]
                      by_cases he : cx = cw
                      · subst he
                        clear hor hcx hcw hcn
                        go_wp2
                        go_quiet (fail)
                        go_wp2
                        go_roundw
                        case rel => exact ⟨m + 1, hlm, by go_num, _, rfl⟩
                        case measure => simp [intOf]; omega
                      · have he2 : cx = cn := by
                          rcases hor with e | e
                          · exact absurd (Option.some.inj e) he
                          · exact Option.some.inj e
                        subst he2
                        have hne : ((cx.toNat : Int) == (cw.toNat : Int)) = false := ne8 he rfl
                        have hne2 : ((cx.toNat : Int) != (cw.toNat : Int)) = true := by rw [bne, hne]; rfl
                        clear hor hcx hcw hcn
                        go_wp2
                        go_quiet (fail)
                        go_wp2
                        go_roundw
                        case rel => exact ⟨m + 1, hlm, by go_num, _, rfl⟩
                        case measure => simp [intOf]; omega
                    · obtain rfl : m = 64 := by omega
                      go_wp2
                      go_roundw
                      case rel => exact ⟨j + 1, hj, by go_num, DK.drewN H11.out q⟩
                      case measure => simp [intOf]; omega
              · skip
                have hjb' : ¬ ((j : Int) < (bs.length : Int)) := by omega
                have hwz : ws = zs := by rw [Hws.out, Hzs.out]; unfold secB; rw [if_neg hjb]
                have Hwz := Lib.hid hwz
                clear hwz
                by_cases hge : ov.length ≤ 63 - j
                · have hge2 : (ov.length : Int) ≤ (mm : Int) := by omega
                  have hqx : ∀ w, (Op.equalIn 10000 28 (.agg xs) (.agg ws)).run Try.prog w = .ok true w := fun w => by rw [Hxs.out, Hws.out, eq64 9998 _ _ Hxl.out (by first | exact secB_length _ _ | exact fillB_length _) w, Hsame.out hge, beq_self_eq_true]
                  have hqg : Try.prog.eqGuardType Try.prog.depth 28 = false := by kernel_rfl
                  go_wp2_with (first
                    | (have hx_ := H8; refine wpList_load_want rfl _ _ rfl w7.heap.size 0 rfl xs _ (range_of (H8.out.held (p := (w7.heap.size, Obj.cells xs 28)) (by simp))) Try.underlying28 rfl (by rw [Hxsz.out]; kernel_rfl) ?_)
                    | (have hx_ := H8; refine wpList_load_want rfl _ _ rfl wr.heap.size 0 rfl ws _ (range_of (H8.out.held (p := (wr.heap.size, Obj.cells ws 28)) (by simp))) Try.underlying28 rfl (by rw [Hwsz.out]; kernel_rfl) ?_)
                    | (go_at_call 14; go_must (refine (Read_dk HW6.out (j : Int)).mono ?_; rintro e w7 ⟨rfl, hD7⟩; rw [Hrd.out]; rw [← Hxs.out]; have H7 := Lib.hid hD7; clear hD7))
                    | (have hx_ := H7; refine wpList_store_mid rfl _ _ _ rfl w7.heap.size 0 xs rfl rfl (by rw [Hxsz.out]; exact there_new _ _ _ 64 (by rw [Hzz.out]; exact Nat.le_refl _)) (by rw [Hxsz.out]; kernel_rfl) (by rw [Hxs.out]; exact all_oneCell_toArray (bvs_one _)) ?_; rw [alloc_all _ zs xs (by rw [Hzz.out, Hxsz.out])]; have H8 := Lib.hid (H7.out.hold (.cells xs 28)))
                    | (refine buildZ rfl rfl ?_; rw [← Hzs.out])
                    | (refine wpList_store_mid rfl _ _ _ rfl wr.heap.size 0 zs rfl rfl (by rw [Hzz.out]; exact there_new _ _ _ 64 (by rw [Hzz.out]; exact Nat.le_refl _)) (by rw [Hzz.out]; kernel_rfl) (by rw [Hzs.out]; exact all_oneCell_toArray (bvs_one _)) ?_; rw [alloc_all _ zs zs rfl]; have HW6 := Lib.hid (hD.out.hold (.cells zs 28)); rw [← Hwz.out] at HW6 ⊢))
                  have H11 := Lib.hid (H8.out.drop (H' := []) (fun p hp => by cases hp))
                  go_roundw
                  case rel => exact ⟨j + 1, hj, by go_num, H11⟩
                  case measure => simp [intOf]; omega
                · have hge2 : ¬ ((ov.length : Int) ≤ (mm : Int)) := by omega
                  have hge3 : (mm : Int) < (ov.length : Int) := by omega
                  obtain ⟨b2, off2, u2, rfl, hb2, hu2, hcell3⟩ := Hov.out.at_ (k := mm) (by omega)
                  obtain ⟨z, hz⟩ : ∃ z, ov[mm]? = some z := ⟨_, List.getElem?_eq_getElem (by omega)⟩
                  obtain rfl : u2 = bv z := by simp [bvs, hz] at hu2; exact hu2.symm
                  have hcell4 : ∀ w', Below w.heap.size w w' → w'.cell? ⟨b2, off2 + mm, none⟩ = some (.int .u8 (z.toNat : Int)) := fun w' hb => (hb.cell (p := ⟨b2, off2 + mm, none⟩) hb2).trans hcell3
                  have Hcell4 := Lib.hid hcell4
                  have hov : ov.getD (63 - j) 0 = z := by rw [hmm, List.getD_eq_getElem?_getD, hz]; rfl
                  have hmix : ∀ k, k < 64 → x[k]? = (secB bs j)[k]? ∨ x[k]? = (fillB z)[k]? := fun k hk => by rw [← hov]; exact Hmx2.out k hk
                  have Hmix := Lib.hid hmix
                  obtain ⟨ns, hns⟩ : ∃ ns : Array Value, ns = (bvs (fillB z)).toArray := ⟨_, rfl⟩
                  have hnsz : ns.size = 64 := by rw [hns]; simp [bvs_length, fillB_length]
                  have Hns := Lib.hid hns
                  have Hnsz := Lib.hid hnsz
                  clear hu2 hz hcell3 hcell4 hov hmix hns hnsz
                  go_wp2_with (first
                    | (go_at_call 11; (have hx_ := H8; refine (filled_any z _).mono ?_; rintro e w9 ⟨rfl, hb9⟩; rw [← Hns.out]; have H9 := Lib.hid (H8.out.below hb9); clear hb9))
                    | (have hx_ := H9; refine wpList_store_mid rfl _ _ _ rfl w9.heap.size 0 ns rfl rfl (by rw [Hnsz.out]; exact there_new _ _ _ 64 (by rw [Hzz.out]; exact Nat.le_refl _)) (by rw [Hnsz.out]; kernel_rfl) (by rw [Hns.out]; exact all_oneCell_toArray (bvs_one _)) ?_; rw [alloc_all _ zs ns (by rw [Hzz.out, Hnsz.out])]; have H10 := Lib.hid (H9.out.hold (.cells ns 28)))
                    | (go_at_call 14; go_must (refine (Read_dk HW6.out (j : Int)).mono ?_; rintro e w7 ⟨rfl, hD7⟩; rw [Hrd.out]; rw [← Hxs.out]; have H7 := Lib.hid hD7; clear hD7))
                    | (have hx_ := H7; refine wpList_store_mid rfl _ _ _ rfl w7.heap.size 0 xs rfl rfl (by rw [Hxsz.out]; exact there_new _ _ _ 64 (by rw [Hzz.out]; exact Nat.le_refl _)) (by rw [Hxsz.out]; kernel_rfl) (by rw [Hxs.out]; exact all_oneCell_toArray (bvs_one _)) ?_; rw [alloc_all _ zs xs (by rw [Hzz.out, Hxsz.out])]; have H8 := Lib.hid (H7.out.hold (.cells xs 28)); have hcz := Hcell4.out _ H8.out.below0)
                    | (refine buildZ rfl rfl ?_; rw [← Hzs.out])
                    | (refine wpList_store_mid rfl _ _ _ rfl wr.heap.size 0 zs rfl rfl (by rw [Hzz.out]; exact there_new _ _ _ 64 (by rw [Hzz.out]; exact Nat.le_refl _)) (by rw [Hzz.out]; kernel_rfl) (by rw [Hzs.out]; exact all_oneCell_toArray (bvs_one _)) ?_; rw [alloc_all _ zs zs rfl]; have HW6 := Lib.hid (hD.out.hold (.cells zs 28)); rw [← Hwz.out] at HW6 ⊢))
                  have hgX := H10.out.held (p := (w7.heap.size, Obj.cells xs 28)) (by simp)
                  have hgW := H10.out.held (p := (wr.heap.size, Obj.cells ws 28)) (by simp)
                  have hgN := H10.out.held (p := (w9.heap.size, Obj.cells ns 28)) (by simp)
                  have HgX := Lib.hid hgX
                  have HgW := Lib.hid hgW
                  have HgN := Lib.hid hgN
                  have H11 := Lib.hid (H10.out.drop (H' := []) (fun p hp => by cases hp))
                  clear hgX hgW hgN HW6 H7 H8 H9 H10
                  generalize (w9.alloc (.cells ns 28)) = wA at *
                  go_loopw [102] (fun i wr => ∃ m : Nat, m ≤ 64 ∧ i = .int .i64 m ∧ ∃ q, wr = wA.drewN q) (fun i _ => 64 - (intOf i).toNat)
                  case atStart => exact ⟨0, by omega, rfl, 0, rfl⟩
                  case round =>
                    obtain ⟨m, hm, rfl, q, rfl⟩ := hrel
                    by_cases hlm : m < 64
                    · have hlm' : (m : Int) < 64 := by omega
                      have hm0 : (0 : Int) ≤ (m : Int) := by omega
                      obtain ⟨cx, hcx⟩ : ∃ cx, x[m]? = some cx := ⟨_, List.getElem?_eq_getElem (by rw [Hxl.out]; exact hlm)⟩
                      obtain ⟨cw, hcw⟩ : ∃ cw, (secB bs j)[m]? = some cw := ⟨_, List.getElem?_eq_getElem (by rw [secB_length]; exact hlm)⟩
                      obtain ⟨cn, hcn⟩ : ∃ cn, (fillB z)[m]? = some cn := ⟨_, List.getElem?_eq_getElem (by rw [fillB_length]; exact hlm)⟩
                      have hor := Hmix.out m hlm
                      rw [hcx, hcw, hcn] at hor
                      have kx : wA.cell? ⟨w7.heap.size, m, none⟩ = some (.int .u8 (cx.toNat : Int)) := by rw [cell_of_row wA _ m _ _ (0, 0) HgX.out, Hxs.out]; simp [bvs, hcx, bv]
                      have kw : wA.cell? ⟨wr.heap.size, m, none⟩ = some (.int .u8 (cw.toNat : Int)) := by rw [cell_of_row wA _ m _ _ (0, 0) HgW.out, Hws.out]; simp [bvs, hcw, bv]
                      have kn : wA.cell? ⟨w9.heap.size, m, none⟩ = some (.int .u8 (cn.toNat : Int)) := by rw [cell_of_row wA _ m _ _ (0, 0) HgN.out, Hns.out]; simp [bvs, hcn, bv]
                      by_cases he : cx = cw
                      · subst he
                        clear hor hcx hcw hcn
                        go_wp2
                        go_quiet (fail)
                        go_wp2
                        go_roundw
                        case rel => exact ⟨m + 1, hlm, by go_num, _, rfl⟩
                        case measure => simp [intOf]; omega
                      · have he2 : cx = cn := by
                          rcases hor with e | e
                          · exact absurd (Option.some.inj e) he
                          · exact Option.some.inj e
                        subst he2
                        have hne : ((cx.toNat : Int) == (cw.toNat : Int)) = false := ne8 he rfl
                        have hne2 : ((cx.toNat : Int) != (cw.toNat : Int)) = true := by rw [bne, hne]; rfl
                        clear hor hcx hcw hcn
                        go_wp2
                        go_quiet (fail)
                        go_wp2
                        go_roundw
                        case rel => exact ⟨m + 1, hlm, by go_num, _, rfl⟩
                        case measure => simp [intOf]; omega
                    · obtain rfl : m = 64 := by omega
                      go_wp2
                      go_roundw
                      case rel => exact ⟨j + 1, hj, by go_num, DK.drewN H11.out q⟩
                      case measure => simp [intOf]; omega
            · obtain rfl : j = 64 := by omega
              go_wp2_with (first
                | (go_at_call 16; go_must (refine (Waiting_dk hD.out).mono ?_; rintro e w5 ⟨rfl, rfl⟩; rw [show (s3.pend.length : Int) = 0 from by rw [HI3.out.pend]; rfl]))
                | (go_at_call 17; go_must (refine (Down_dk hD.out).mono ?_; rintro e w5 ⟨rfl, rfl⟩; rw [HI3.out.down])))
              go_ret
              exact ⟨rfl, hD.out.below0⟩
theorem DiskSynced_walk (v0 v1 v2 : Value) (bs ov ch : List UInt8) (w : World) (a0 : ArgB w v0 bs) (a1 : ArgB w v1 ov) (a2 : ArgB w v2 ch) : Calls Try.prog 4 #[v0, v1, v2] w fun e w' => e = .returned (.bool true) ∧ Below w.heap.size w w' := by
  obtain ⟨A, c, rfl, _, h0, m0⟩ := a0
  obtain ⟨A', c', rfl, _, h1, m1⟩ := a1
  obtain ⟨A'', c'', rfl, _, h2, m2⟩ := a2
  rw [reach_eq] at m0 m1
  exact DiskSynced_any bs ov ch w h0 h1 h2 (by omega) (by omega)
end Go.Proofs.Ytdggibigfocadaa
