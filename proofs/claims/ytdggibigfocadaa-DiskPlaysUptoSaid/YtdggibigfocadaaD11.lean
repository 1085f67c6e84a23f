/- The walk of awake. No conditions. -/
import Derived.Test.YtdggibigfocadaaD10
namespace Go.Proofs.Ytdggibigfocadaa
open Go.RowKit
theorem write_in {s : DS} {n : Int} {d : List UInt8} (hn : 0 ≤ n ∧ n < (s.secs.length : Int)) (ho : s.op.1 = true) (hf : s.op.2.full = false) : s.write n d = (0, { s.op.2 with pend := s.op.2.pend ++ [(n.toNat, d)] }) := by
  unfold DS.write
  rw [if_pos hn, if_pos ho, if_neg (by rw [hf]; simp)]
set_option maxRecDepth 100000 in
set_option maxHeartbeats 4000000 in
theorem awake_any (w : World) : Calls Try.prog 8 #[] w fun e w' => e = .returned (.bool true) ∧ Below w.heap.size w w' := by
  obtain ⟨zs, hzs⟩ : ∃ zs : Array Value, zs = (bvs zero64).toArray := ⟨_, rfl⟩
  have hz28 : ∀ w, (zeroValue 28).run Try.prog w = .ok (.agg zs) w := fun w => by rw [hzs]; kernel_rfl
  have hzz : zs.size = 64 := by rw [hzs]; rfl
  have Hzz := Lib.hid hzz
  clear hzs hzz
  obtain ⟨s1, hs1⟩ : ∃ s1, (DS.fresh 3).write 1 (fillB 5) = (0, s1) ∧ s1.pend.length = 1 ∧ s1.read 1 = (fillB 5, 0) := ⟨_, write_in (by decide) rfl rfl, rfl, rfl⟩
  have Hs1 := Lib.hid hs1.1
  have Hs2 := Lib.hid hs1.2.1
  have Hs3 := Lib.hid hs1.2.2
  obtain ⟨ds, hds⟩ : ∃ ds : Array Value, ds = (bvs (fillB 5)).toArray := ⟨_, rfl⟩
  have Hds := Lib.hid hds
  have hdz : ds.size = 64 := by rw [hds]; rfl
  have Hdz := Lib.hid hdz
  have hd63 : ds[63]? = some (.int .u8 10) := by rw [hds]; rfl
  clear hs1 hds hdz
  go_enter Try.func8, Try.ntmps8
  go_wp2_with (first
    | (go_at_call 9; go_must (refine (New_dk (H := []) (w0 := w) 3 (by omega) (by omega) (Below.refl _ _) (fun p hp => by cases hp)).mono ?_; rintro e w1 ⟨g, rfl, hD1⟩; have H1 := Lib.hid hD1; clear hD1))
    | (go_at_call 11; go_must (refine (filled_any 5 _).mono ?_; rintro e w2 ⟨rfl, hb2⟩; have H2 := Lib.hid (H1.out.below hb2); clear hb2))
    | (go_at_call 10; go_must (refine (Write_dk H2.out 1 (fillB 5) (fillB_length 5) (by show (0 + 1) * 72 ≤ _; omega)).mono ?_; rintro e w3 ⟨rfl, hD3⟩; rw [Hs1.out] at hD3 ⊢; have H3 := Lib.hid hD3; clear hD3))
    | (go_at_call 14; go_must (refine (Read_dk H3.out 1).mono ?_; rintro e w4 ⟨rfl, hD4⟩; rw [Hs3.out]; have H4 := Lib.hid hD4; clear hD4; rw [← Hds.out]))
    | (refine wpList_store_mid rfl _ _ _ rfl _ 0 ds rfl rfl (by rw [Hdz.out]; exact there_new _ _ _ 64 (by rw [Hzz.out]; exact Nat.le_refl _)) (by rw [Hdz.out]; kernel_rfl) (by rw [Hds.out]; exact all_oneCell_toArray (bvs_one _)) ?_; rw [alloc_all _ zs ds (by rw [Hzz.out, Hdz.out])]; have H5 := Lib.hid (H4.out.below ((Below.refl _ _).alloc (Nat.le_refl _) (.cells ds 28))))
    | (go_at_call 16; go_must (refine (Waiting_dk H5.out).mono ?_; rintro e w6 ⟨rfl, rfl⟩; rw [Hs2.out])))
  go_ret
  exact ⟨rfl, H5.out.below0⟩
end Go.Proofs.Ytdggibigfocadaa
