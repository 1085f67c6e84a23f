/- The law DiskNil. No conditions. -/
import Derived.Test.YtdggibigfocadaaDNil
import Derived.Test.YtdggibigfocadaaArgInt
import Derived.Test.YtdggibigfocadaaArgBytes
namespace Go.Proofs.Ytdggibigfocadaa
open Go.RowKit
set_option maxRecDepth 100000 in
set_option maxHeartbeats 4000000 in
theorem DiskNil_any (n : Int) (v : Value) (w : World) : Calls Try.prog 7 #[.int .i64 n, v] w fun e w' => e = .returned (.bool true) ∧ Below w.heap.size w w' := by
  obtain ⟨zs, hzs⟩ : ∃ zs : Array Value, zs = (bvs zero64).toArray := ⟨_, rfl⟩
  have hz28 : ∀ w, (zeroValue 28).run Try.prog w = .ok (.agg zs) w := fun w => by rw [hzs]; kernel_rfl
  have Hzs := Lib.hid hzs
  have hzz : zs.size = 64 := by rw [hzs]; rfl
  have Hzz := Lib.hid hzz
  have hq : ∀ w, (Op.equalIn 10000 28 (.agg zs) (.agg zs)).run Try.prog w = .ok true w := fun w => by rw [hzs, eq64 9998 _ _ rfl rfl w, beq_self_eq_true]
  have hqg : Try.prog.eqGuardType Try.prog.depth 28 = false := by kernel_rfl
  clear hzs hzz
  go_enter Try.func7, Try.ntmps7
  go_wp2_with (first
    | (go_at_call 8; go_must (refine (awake_any _).mono ?_; rintro e w0 ⟨rfl, hb0⟩))
    | (go_at_call 12; go_must (refine (SetFull_nil _ _).mono ?_; rintro e w1 ⟨rfl, rfl⟩))
    | (go_at_call 18; go_must (refine (SetFuse_nil _ _).mono ?_; rintro e w1 ⟨rfl, rfl⟩))
    | (go_at_call 15; go_must (refine (Restart_nil _ _).mono ?_; rintro e w1 ⟨rfl, rfl⟩))
    | (go_at_call 14; go_must (refine (Read_nil _ _).mono ?_; rintro e w2 ⟨rfl, hb2⟩; rw [← Hzs.out]))
    | (refine wpList_store_mid rfl _ _ _ rfl _ 0 zs rfl rfl (by rw [Hzz.out]; exact there_new _ _ _ 64 (by rw [Hzz.out]; exact Nat.le_refl _)) (by rw [Hzz.out]; kernel_rfl) (by rw [Hzs.out]; exact all_oneCell_toArray (bvs_one _)) ?_; rw [alloc_all _ zs zs rfl])
    | (refine wpList_load_want rfl _ _ rfl w2.heap.size 0 rfl zs _ (range_of (heap_alloc_new _ _)) Try.underlying28 rfl (by rw [Hzz.out]; kernel_rfl) ?_)
    | (refine buildZ_want rfl rfl ?_; rw [← Hzs.out])
    | (go_at_call 10; go_must (refine (Write_nil _ _ _).mono ?_; rintro e w3 ⟨rfl, hb3⟩))
    | (go_at_call 13; go_must (refine (Sync_nil _).mono ?_; rintro e w1 ⟨rfl, rfl⟩))
    | (go_at_call 20; go_must (refine (Sectors_nil _).mono ?_; rintro e w1 ⟨rfl, rfl⟩))
    | (go_at_call 16; go_must (refine (Waiting_nil _).mono ?_; rintro e w1 ⟨rfl, rfl⟩))
    | (go_at_call 17; go_must (refine (Down_nil _).mono ?_; rintro e w1 ⟨rfl, rfl⟩)))
  go_ret
  have h1 := hb2.trans (((Below.refl w2.heap.size w2).alloc (Nat.le_refl _) (.cells zs 28)).mono hb2.size)
  have h2 := h1.trans (hb3.mono h1.size)
  exact ⟨rfl, hb0.trans (h2.mono hb0.size)⟩
theorem DiskNil_walk (v0 v1 : Value) (n : Int) (l : List UInt8) (w : World) (a0 : ArgI v0 n) (_ : ArgB w v1 l) : Calls Try.prog 7 #[v0, v1] w fun e w' => e = .returned (.bool true) ∧ Below w.heap.size w w' := by
  rw [a0.1]
  exact DiskNil_any n v1 w
end Go.Proofs.Ytdggibigfocadaa
