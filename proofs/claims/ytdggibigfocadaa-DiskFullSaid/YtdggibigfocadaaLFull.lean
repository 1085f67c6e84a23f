/- The law DiskFull. No conditions. -/
import Derived.Test.YtdggibigfocadaaLFull0
import Derived.Test.YtdggibigfocadaaReg3
import Derived.Test.YtdggibigfocadaaArgU8
namespace Go.Proofs.Ytdggibigfocadaa
open Go.RowKit
set_option maxRecDepth 100000 in
set_option maxHeartbeats 4000000 in
theorem DiskFull_any (c b : UInt8) (w : World) : Calls Try.prog 3 #[.int .u8 (c.toNat : Int), .int .u8 (b.toNat : Int)] w fun e w' => e = .returned (.bool true) ∧ Below w.heap.size w w' := by
  have hbb : (b.toNat : Int) < 256 := by have := b.toNat_lt; omega
  have hcc : (c.toNat : Int) < 256 := by have := c.toNat_lt; omega
  have hb1 : ((b.toNat : Int) + 1) % 256 = ((b + 1).toNat : Int) := by rw [UInt8.toNat_add]; norm_cast
  have hb2 : ((b.toNat : Int) + 2) % 256 = ((b + 2).toNat : Int) := by rw [UInt8.toNat_add]; norm_cast
  have Hb1 := Lib.hid hb1
  have Hb2 := Lib.hid hb2
  clear hb1 hb2
  obtain ⟨zs, hzs⟩ : ∃ zs : Array Value, zs = (bvs zero64).toArray := ⟨_, rfl⟩
  have hz28 : ∀ w, (zeroValue 28).run Try.prog w = .ok (.agg zs) w := fun w => by rw [hzs]; kernel_rfl
  have hzz : zs.size = 64 := by rw [hzs]; rfl
  have Hzz := Lib.hid hzz
  clear hzs hzz
  obtain ⟨s1, s3, s4, s6, e1, e3, e4, e4r, e6, e6r, l1, l4⟩ := full_chain c.toNat (by omega) b
  have E1 := Lib.hid e1
  have E3 := Lib.hid e3
  have E4 := Lib.hid e4
  have E4r := Lib.hid e4r
  have E6 := Lib.hid e6
  have E6r := Lib.hid e6r
  have L1 := Lib.hid l1
  have L4 := Lib.hid l4
  clear e1 e3 e4 e4r e6 e6r l1 l4
  obtain ⟨xs, hxs⟩ : ∃ xs : Array Value, xs = (bvs (fillB b)).toArray := ⟨_, rfl⟩
  obtain ⟨ys, hys⟩ : ∃ ys : Array Value, ys = (bvs (fillB (b + 2))).toArray := ⟨_, rfl⟩
  have hxz : xs.size = 64 := by rw [hxs]; simp [bvs_length, fillB_length]
  have hyz : ys.size = 64 := by rw [hys]; simp [bvs_length, fillB_length]
  have Hxs := Lib.hid hxs
  have Hys := Lib.hid hys
  have Hxsz := Lib.hid hxz
  have Hysz := Lib.hid hyz
  have hqx : ∀ w, (Op.equalIn 10000 28 (.agg xs) (.agg xs)).run Try.prog w = .ok true w := fun w => by rw [hxs, eq64 9998 _ _ (fillB_length b) (fillB_length b) w, beq_self_eq_true]
  have hqy : ∀ w, (Op.equalIn 10000 28 (.agg ys) (.agg ys)).run Try.prog w = .ok true w := fun w => by rw [hys, eq64 9998 _ _ (fillB_length _) (fillB_length _) w, beq_self_eq_true]
  have hqg : Try.prog.eqGuardType Try.prog.depth 28 = false := by kernel_rfl
  clear hxs hys hxz hyz
  go_enter Try.func3, Try.ntmps3
  go_wp2_with (first
    | (go_at_call 8; go_must (refine (awake_any _).mono ?_; rintro e w0 ⟨rfl, hb0⟩))
    | (go_at_call 9; go_must (refine (New_dk (H := []) (w0 := w) 256 (by omega) (by omega) hb0 (fun p hp => by cases hp)).mono ?_; rintro e w1 ⟨g, rfl, hD1⟩; have H1 := Lib.hid hD1; clear hD1))
    | (go_at_call 11; (have hx_ := H1; refine (filled_any b _).mono ?_; rintro e w2 ⟨rfl, hb2⟩; have H2 := Lib.hid (H1.out.below hb2); clear hb2 H1))
    | (go_at_call 10; (have hx_ := H2; refine (Write_dk H2.out c.toNat (fillB b) (fillB_length b) (by show (0 + 1) * 72 ≤ _; omega)).mono ?_; rintro e w3 ⟨rfl, hD3⟩; rw [E1.out] at hD3 ⊢; have H3 := Lib.hid hD3; clear hD3 H2))
    | (go_at_call 12; (refine (SetFull_dk H3.out true).mono ?_; rintro e w4 ⟨rfl, hD4⟩; have H4 := Lib.hid hD4; clear hD4 H3))
    | (go_at_call 11; (have hx_ := H4; rw [Hb1.out]; refine (filled_any (b + 1) _).mono ?_; rintro e w5 ⟨rfl, hb5⟩; have H5 := Lib.hid (H4.out.below hb5); clear hb5 H4))
    | (go_at_call 10; (have hx_ := H5; refine (Write_dk H5.out c.toNat (fillB (b + 1)) (fillB_length _) (by show (s1.pend.length + 1) * 72 ≤ _; rw [L1.out]; omega)).mono ?_; rintro e w6 ⟨rfl, hD6⟩; rw [E3.out] at hD6 ⊢; have H6 := Lib.hid hD6; clear hD6 H5))
    | (go_at_call 13; (refine (Sync_dk H6.out).mono ?_; rintro e w7 ⟨rfl, hD7⟩; rw [E4.out] at hD7 ⊢; have H7 := Lib.hid hD7; clear hD7 H6))
    | (go_at_call 14; (refine (Read_dk H7.out c.toNat).mono ?_; rintro e w8 ⟨rfl, hD8⟩; rw [E4r.out]; rw [← Hxs.out]; have H8 := Lib.hid hD8; clear hD8 H7))
    | (have hx_ := H8; refine wpList_store_mid rfl _ _ _ rfl _ 0 xs rfl rfl (by rw [Hxsz.out]; exact there_new _ _ _ 64 (by rw [Hzz.out]; exact Nat.le_refl _)) (by rw [Hxsz.out]; kernel_rfl) (by rw [Hxs.out]; exact all_oneCell_toArray (bvs_one _)) ?_; rw [alloc_all _ zs xs (by rw [Hzz.out, Hxsz.out])]; have H9 := Lib.hid (H8.out.hold (.cells xs 28)))
    | (go_at_call 12; (refine (SetFull_dk H9.out false).mono ?_; rintro e w10 ⟨rfl, hD10⟩; have H10 := Lib.hid hD10; clear hD10 H9))
    | (go_at_call 11; (have hx_ := H10; rw [Hb2.out]; refine (filled_any (b + 2) _).mono ?_; rintro e w11 ⟨rfl, hb11⟩; have H11 := Lib.hid (H10.out.below hb11); clear hb11 H10))
    | (go_at_call 10; (have hx_ := H11; refine (Write_dk H11.out c.toNat (fillB (b + 2)) (fillB_length _) (by show (s4.pend.length + 1) * 72 ≤ _; rw [L4.out]; omega)).mono ?_; rintro e w12 ⟨rfl, hD12⟩; rw [E6.out] at hD12 ⊢; have H12 := Lib.hid hD12; clear hD12 H11))
    | (go_at_call 14; (refine (Read_dk H12.out c.toNat).mono ?_; rintro e w13 ⟨rfl, hD13⟩; rw [E6r.out]; rw [← Hys.out]; have H13 := Lib.hid hD13; clear hD13 H12))
    | (have hx_ := H13; refine wpList_store_mid rfl _ _ _ rfl _ 0 ys rfl rfl (by rw [Hysz.out]; exact there_new _ _ _ 64 (by rw [Hzz.out]; exact Nat.le_refl _)) (by rw [Hysz.out]; kernel_rfl) (by rw [Hys.out]; exact all_oneCell_toArray (bvs_one _)) ?_; rw [alloc_all _ zs ys (by rw [Hzz.out, Hysz.out])]; have H14 := Lib.hid (H13.out.hold (.cells ys 28))))
  have HX := Lib.hid (H14.out.held (p := (w8.heap.size, Obj.cells xs 28)) (by simp))
  have HY := Lib.hid (H14.out.held (p := (w13.heap.size, Obj.cells ys 28)) (by simp))
  have HB := Lib.hid H14.out.below0
  generalize (w13.alloc (Obj.cells ys 28)) = wA at *
  refine AnyZ.start [] (by kernel_rfl) rfl ?_
  apply AnyZ.pure (i := 0) rfl (by kernel_rfl) rfl rfl
  · intro w' K hK
    go_wp2
    exact hK
  · rfl
  apply AnyZ.pure (i := 1) rfl (by kernel_rfl) rfl rfl
  · intro w' K hK
    go_wp2
    exact hK
  · rfl
  apply AnyZ.pure (i := 2) rfl (by kernel_rfl) rfl rfl
  · intro w' K hK
    go_wp2
    exact hK
  · rfl
  apply AnyZ.pure (i := 3) rfl (by kernel_rfl) rfl rfl
  · intro w' K hK
    go_wp2
    exact hK
  · rfl
  apply AnyZ.pure (i := 4) rfl (by kernel_rfl) rfl rfl
  · intro w' K hK
    go_wp2
    exact hK
  · rfl
  apply AnyZ.pure (i := 5) rfl (by kernel_rfl) rfl rfl
  · intro w' K hK
    go_wp2
    exact hK
  · rfl
  apply AnyZ.pure (i := 6) rfl (by kernel_rfl) rfl rfl
  · intro w' K hK
    go_wp2
    exact hK
  · rfl
  apply AnyZ.pure (i := 7) rfl (by kernel_rfl) rfl rfl
  · intro w' K hK
    go_wp2
    exact hK
  · rfl
  apply AnyZ.pure (i := 8) rfl (by kernel_rfl) rfl rfl
  · intro w' K hK
    go_wp2
    exact hK
  · rfl
  apply AnyZ.pure (i := 9) rfl (by kernel_rfl) rfl rfl
  · intro w' K hK
    go_wp2
    exact hK
  · rfl
  apply AnyZ.pure (i := 10) rfl (by kernel_rfl) rfl rfl
  · intro w' K hK
    go_wp2
    exact hK
  · rfl
  apply AnyZ.pure (i := 11) rfl (by kernel_rfl) rfl rfl
  · intro w' K hK
    go_wp2
    exact hK
  · rfl
  apply AnyZ.pure (i := 12) rfl (by kernel_rfl) rfl rfl
  · intro w' K hK
    go_wp2
    exact hK
  · rfl
  apply AnyZ.pure (i := 13) rfl (by kernel_rfl) rfl rfl
  · intro w' K hK
    go_wp2
    exact hK
  · rfl
  apply AnyZ.pure (i := 14) rfl (by kernel_rfl) rfl rfl
  · intro w' K hK
    go_wp2
    exact hK
  · rfl
  apply AnyZ.take (i := 15) rfl (by kernel_rfl) (by kernel_rfl) rfl
  · intro w' hC K hK
    have hw : w'.heap[w8.heap.size]? = some (.cells xs 28) := (hC.block _ (held_lt HX.out)).trans HX.out
    refine wpList_load_want rfl _ _ rfl w8.heap.size 0 rfl xs _ (range_of hw) Try.underlying28 rfl (by rw [Hxsz.out]; kernel_rfl) ?_
    exact hK
  · rfl
  apply AnyZ.pure (i := 16) rfl (by kernel_rfl) rfl rfl
  · intro w' K hK
    go_wp2
    exact hK
  · rfl
  apply AnyZ.solo (i := 17) rfl (by kernel_rfl)
  intro w15 hC15
  go_wp2_with (go_at_call 11; refine (filled_any b _).mono ?_; rintro e w16 ⟨rfl, hb16⟩; rw [← Hxs.out])
  refine ⟨rfl, hC15.trans (hb16.mono hC15.size), ?_⟩
  have HY2 := Lib.hid (((hC15.trans (hb16.mono hC15.size)).block _ (held_lt HY.out)).trans HY.out)
  have HB2 := Lib.hid (HB.out.trans ((hC15.trans (hb16.mono hC15.size)).mono HB.out.size))
  apply AnyZ.pure (i := 18) rfl (by kernel_rfl) rfl rfl
  · intro w' K hK
    go_wp2
    exact hK
  · rfl
  apply AnyZ.pure (i := 19) rfl (by kernel_rfl) rfl rfl
  · intro w' K hK
    go_wp2
    exact hK
  · rfl
  apply AnyZ.pure (i := 20) rfl (by kernel_rfl) rfl rfl
  · intro w' K hK
    go_wp2
    exact hK
  · rfl
  apply AnyZ.pure (i := 21) rfl (by kernel_rfl) rfl rfl
  · intro w' K hK
    go_wp2
    exact hK
  · rfl
  apply AnyZ.pure (i := 22) rfl (by kernel_rfl) rfl rfl
  · intro w' K hK
    go_wp2
    exact hK
  · rfl
  apply AnyZ.pure (i := 23) rfl (by kernel_rfl) rfl rfl
  · intro w' K hK
    go_wp2
    exact hK
  · rfl
  apply AnyZ.pure (i := 24) rfl (by kernel_rfl) rfl rfl
  · intro w' K hK
    go_wp2
    exact hK
  · rfl
  apply AnyZ.pure (i := 25) rfl (by kernel_rfl) rfl rfl
  · intro w' K hK
    go_wp2
    exact hK
  · rfl
  apply AnyZ.pure (i := 26) rfl (by kernel_rfl) rfl rfl
  · intro w' K hK
    go_wp2
    exact hK
  · rfl
  apply AnyZ.pure (i := 27) rfl (by kernel_rfl) rfl rfl
  · intro w' K hK
    go_wp2
    exact hK
  · rfl
  apply AnyZ.pure (i := 28) rfl (by kernel_rfl) rfl rfl
  · intro w' K hK
    go_wp2
    exact hK
  · rfl
  apply AnyZ.take (i := 29) rfl (by kernel_rfl) (by kernel_rfl) rfl
  · intro w' hC K hK
    have hw : w'.heap[w13.heap.size]? = some (.cells ys 28) := (hC.block _ (held_lt HY2.out)).trans HY2.out
    refine wpList_load_want rfl _ _ rfl w13.heap.size 0 rfl ys _ (range_of hw) Try.underlying28 rfl (by rw [Hysz.out]; kernel_rfl) ?_
    exact hK
  · rfl
  apply AnyZ.pure (i := 30) rfl (by kernel_rfl) rfl rfl
  · intro w' K hK
    go_wp2
    exact hK
  · rfl
  apply AnyZ.pure (i := 31) rfl (by kernel_rfl) rfl rfl
  · intro w' K hK
    go_wp2
    exact hK
  · rfl
  apply AnyZ.solo (i := 32) rfl (by kernel_rfl)
  intro w17 hC17
  go_wp2_with (go_at_call 11; rw [Hb2.out]; refine (filled_any (b + 2) _).mono ?_; rintro e w18 ⟨rfl, hb18⟩; rw [← Hys.out])
  refine ⟨rfl, hC17.trans (hb18.mono hC17.size), ?_⟩
  have HB3 := Lib.hid (HB2.out.trans ((hC17.trans (hb18.mono hC17.size)).mono HB2.out.size))
  apply AnyZ.pure (i := 33) rfl (by kernel_rfl) rfl rfl
  · intro w' K hK
    go_wp2
    exact hK
  · rfl
  apply AnyZ.pure (i := 34) rfl (by kernel_rfl) rfl rfl
  · intro w' K hK
    go_wp2
    exact hK
  · rfl
  apply AnyZ.pure (i := 35) rfl (by kernel_rfl) rfl rfl
  · intro w' K hK
    go_wp2
    exact hK
  · rfl
  refine AnyZ.done (by kernel_rfl) (fun w' hC' => ?_)
  go_wp2
  go_ret
  exact ⟨rfl, HB3.out.trans (hC'.mono HB3.out.size)⟩
theorem DiskFull_walk (v0 v1 : Value) (c b : UInt8) (w : World) (a0 : ArgU8 v0 c) (a1 : ArgU8 v1 b) : Calls Try.prog 3 #[v0, v1] w fun e w' => e = .returned (.bool true) ∧ Below w.heap.size w w' := by
  rw [a0, a1]
  exact DiskFull_any c b w
end Go.Proofs.Ytdggibigfocadaa
