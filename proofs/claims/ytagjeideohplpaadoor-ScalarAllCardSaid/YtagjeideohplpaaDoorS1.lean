/- The walk of add. No conditions. -/
import Derived.Test.YtagjeideohplpaaDoorS0
namespace Go.Proofs.YtagjeideohplpaaDoor
open Go.RowKit
set_option maxRecDepth 100000 in
set_option maxHeartbeats 1000000 in
theorem add_any (x y : W4) (hx : x.ok) (hy : y.ok) (w : World) : Calls Tryd.prog 22 #[.agg x.cs, .agg y.cs] w (AddPost x y w) := by
  have hz35 : ∀ w, (zeroValue 35).run Tryd.prog w = .ok (.agg (W4.mk 0 0 0 0).cs) w := fun w => by kernel_rfl
  have H0 : Hid (Three w (((w.alloc (.cells x.cs 35)).alloc (.cells y.cs 35)).alloc (.cells (W4.mk 0 0 0 0).cs 35)) x y ⟨0, 0, 0, 0⟩) := by
    refine ⟨(((Below.refl _ _).alloc (Nat.le_refl _) _).alloc (by simp) _).alloc (by simp; omega) _, ?_, ?_, ?_⟩
    · rw [Below.heap_alloc _ _ _ (by simp; omega), Below.heap_alloc _ _ _ (by simp)]; exact heap_alloc_new w _
    · rw [Below.heap_alloc _ _ _ (by simp)]; simpa using heap_alloc_new (w.alloc (.cells x.cs 35)) (.cells y.cs 35)
    · simpa using heap_alloc_new ((w.alloc (.cells x.cs 35)).alloc (.cells y.cs 35)) (.cells (W4.mk 0 0 0 0).cs 35)
  have Hx := Lib.hid hx
  have Hy := Lib.hid hy
  clear hx hy
  go_enter Tryd.func22, Tryd.ntmps22
  go_wp2
  go_loopw [5, 7] (fun cv i wr => ∃ (k : Nat) (d : W4) (c : Nat), k ≤ 4 ∧ i = .int .i64 k ∧ cv = .int .u64 (c : Int) ∧ c ≤ 1 ∧ Hid d.ok ∧ Hid (AddInv x y d c k) ∧ Hid (Three w wr d y ⟨0, 0, 0, 0⟩)) (fun _ i _ => 4 - (intOf i).toNat)
  case atStart => exact ⟨0, x, 0, by omega, rfl, rfl, by omega, Hx.out, ⟨rfl, rfl⟩, H0⟩
  case round =>
    obtain ⟨k, d, c, hk, rfl, rfl, hc, hd, hI, h3⟩ := hrel
    clear H0
    by_cases hlt : k < 4
    · obtain rfl | rfl | rfl | rfl : k = 0 ∨ k = 1 ∨ k = 2 ∨ k = 3 := by omega
      · go_wp2
        refine AnyZ.start [13] (by kernel_rfl) rfl ?_
        apply AnyZ.pure (i := 0) rfl (by kernel_rfl) rfl rfl
        · intro w' K hK
          go_wp2
          exact hK
        · rfl
        apply AnyZ.pure (i := 1) rfl (by kernel_rfl) rfl rfl
        · intro w' K hK
          go_wp2
          exact hK
        · rfl
        apply AnyZ.pure (i := 2) rfl (by kernel_rfl) rfl rfl
        · intro w' K hK
          go_wp2
          exact hK
        · rfl
        apply AnyZ.take (i := 3) rfl (by kernel_rfl) (by kernel_rfl) rfl
        · intro w' hC K hK
          have co := (cell4 (h3.out.below hC).2.1).1
          go_wp2
          exact hK
        · rfl
        apply AnyZ.pure (i := 4) rfl (by kernel_rfl) rfl rfl
        · intro w' K hK
          go_wp2
          exact hK
        · rfl
        apply AnyZ.pure (i := 5) rfl (by kernel_rfl) rfl rfl
        · intro w' K hK
          go_wp2
          exact hK
        · rfl
        apply AnyZ.take (i := 6) rfl (by kernel_rfl) (by kernel_rfl) rfl
        · intro w' hC K hK
          have co := (cell4 (h3.out.below hC).2.2.1).1
          go_wp2
          exact hK
        · rfl
        apply AnyZ.pure (i := 7) rfl (by kernel_rfl) rfl rfl
        · intro w' K hK
          go_wp2
          exact hK
        · rfl
        apply AnyZ.pure (i := 8) rfl (by kernel_rfl) rfl rfl
        · intro w' K hK
          have hrun := run_Add64 d.a y.a c hc w'
          go_wp2
          exact hK
        · rfl
        apply AnyZ.pure (i := 9) rfl (by kernel_rfl) rfl rfl
        · intro w' K hK
          go_wp2
          exact hK
        · rfl
        apply AnyZ.pure (i := 10) rfl (by kernel_rfl) rfl rfl
        · intro w' K hK
          go_wp2
          exact hK
        · rfl
        apply AnyZ.pure (i := 11) rfl (by kernel_rfl) rfl rfl
        · intro w' K hK
          go_wp2
          exact hK
        · rfl
        apply AnyZ.pure (i := 12) rfl (by kernel_rfl) rfl rfl
        · intro w' K hK
          go_wp2
          exact hK
        · rfl
        apply AnyZ.soloW (i := 13) rfl (by kernel_rfl)
        intro w4 hC4
        have h4 := h3.out.below hC4
        have co := (cell4 h4.2.1).1
        have hfz : w4.frozen? ⟨w.heap.size, 0, none⟩ = false := by simp [World.frozen?, h4.2.1]
        have h5 := h4.set (i := 0) (v := .int .u64 (((d.a + y.a + c) % 18446744073709551616 : Nat) : Int)) (d' := { d with a := (d.a + y.a + c) % 18446744073709551616 }) rfl
        have H5 := Lib.hid h5
        clear h5 h4
        go_wp2
        refine ⟨rfl, ?_⟩
        apply AnyW.pure (i := 14) rfl (by kernel_rfl) rfl rfl
        · intro w' K hK
          go_wp2
          exact hK
        · rfl
        apply AnyW.done (by kernel_rfl)
        go_wp2
        go_roundw
        case rel => exact ⟨1, { d with a := (d.a + y.a + c) % 18446744073709551616 }, (d.a + y.a + c) / 18446744073709551616, by omega, by go_num, rfl, (by show (d.a + y.a + c) / 18446744073709551616 ≤ 1; have h1 := hd.out; have h2 := Hy.out; unfold W4.ok at h1 h2; omega), ⟨Nat.mod_lt _ (by decide), hd.out.2.1, hd.out.2.2.1, hd.out.2.2.2⟩, AddInv.step0 hI.out, H5⟩
        case measure => simp [intOf]
      · go_wp2
        refine AnyZ.start [13] (by kernel_rfl) rfl ?_
        apply AnyZ.pure (i := 0) rfl (by kernel_rfl) rfl rfl
        · intro w' K hK
          go_wp2
          exact hK
        · rfl
        apply AnyZ.pure (i := 1) rfl (by kernel_rfl) rfl rfl
        · intro w' K hK
          go_wp2
          exact hK
        · rfl
        apply AnyZ.pure (i := 2) rfl (by kernel_rfl) rfl rfl
        · intro w' K hK
          go_wp2
          exact hK
        · rfl
        apply AnyZ.take (i := 3) rfl (by kernel_rfl) (by kernel_rfl) rfl
        · intro w' hC K hK
          have co := (cell4 (h3.out.below hC).2.1).2.1
          go_wp2
          exact hK
        · rfl
        apply AnyZ.pure (i := 4) rfl (by kernel_rfl) rfl rfl
        · intro w' K hK
          go_wp2
          exact hK
        · rfl
        apply AnyZ.pure (i := 5) rfl (by kernel_rfl) rfl rfl
        · intro w' K hK
          go_wp2
          exact hK
        · rfl
        apply AnyZ.take (i := 6) rfl (by kernel_rfl) (by kernel_rfl) rfl
        · intro w' hC K hK
          have co := (cell4 (h3.out.below hC).2.2.1).2.1
          go_wp2
          exact hK
        · rfl
        apply AnyZ.pure (i := 7) rfl (by kernel_rfl) rfl rfl
        · intro w' K hK
          go_wp2
          exact hK
        · rfl
        apply AnyZ.pure (i := 8) rfl (by kernel_rfl) rfl rfl
        · intro w' K hK
          have hrun := run_Add64 d.b y.b c hc w'
          go_wp2
          exact hK
        · rfl
        apply AnyZ.pure (i := 9) rfl (by kernel_rfl) rfl rfl
        · intro w' K hK
          go_wp2
          exact hK
        · rfl
        apply AnyZ.pure (i := 10) rfl (by kernel_rfl) rfl rfl
        · intro w' K hK
          go_wp2
          exact hK
        · rfl
        apply AnyZ.pure (i := 11) rfl (by kernel_rfl) rfl rfl
        · intro w' K hK
          go_wp2
          exact hK
        · rfl
        apply AnyZ.pure (i := 12) rfl (by kernel_rfl) rfl rfl
        · intro w' K hK
          go_wp2
          exact hK
        · rfl
        apply AnyZ.soloW (i := 13) rfl (by kernel_rfl)
        intro w4 hC4
        have h4 := h3.out.below hC4
        have co := (cell4 h4.2.1).2.1
        have hfz : w4.frozen? ⟨w.heap.size, 1, none⟩ = false := by simp [World.frozen?, h4.2.1]
        have h5 := h4.set (i := 1) (v := .int .u64 (((d.b + y.b + c) % 18446744073709551616 : Nat) : Int)) (d' := { d with b := (d.b + y.b + c) % 18446744073709551616 }) rfl
        have H5 := Lib.hid h5
        clear h5 h4
        go_wp2
        refine ⟨rfl, ?_⟩
        apply AnyW.pure (i := 14) rfl (by kernel_rfl) rfl rfl
        · intro w' K hK
          go_wp2
          exact hK
        · rfl
        apply AnyW.done (by kernel_rfl)
        go_wp2
        go_roundw
        case rel => exact ⟨2, { d with b := (d.b + y.b + c) % 18446744073709551616 }, (d.b + y.b + c) / 18446744073709551616, by omega, by go_num, rfl, (by show (d.b + y.b + c) / 18446744073709551616 ≤ 1; have h1 := hd.out; have h2 := Hy.out; unfold W4.ok at h1 h2; omega), ⟨hd.out.1, Nat.mod_lt _ (by decide), hd.out.2.2.1, hd.out.2.2.2⟩, AddInv.step1 hI.out, H5⟩
        case measure => simp [intOf]
      · go_wp2
        refine AnyZ.start [13] (by kernel_rfl) rfl ?_
        apply AnyZ.pure (i := 0) rfl (by kernel_rfl) rfl rfl
        · intro w' K hK
          go_wp2
          exact hK
        · rfl
        apply AnyZ.pure (i := 1) rfl (by kernel_rfl) rfl rfl
        · intro w' K hK
          go_wp2
          exact hK
        · rfl
        apply AnyZ.pure (i := 2) rfl (by kernel_rfl) rfl rfl
        · intro w' K hK
          go_wp2
          exact hK
        · rfl
        apply AnyZ.take (i := 3) rfl (by kernel_rfl) (by kernel_rfl) rfl
        · intro w' hC K hK
          have co := (cell4 (h3.out.below hC).2.1).2.2.1
          go_wp2
          exact hK
        · rfl
        apply AnyZ.pure (i := 4) rfl (by kernel_rfl) rfl rfl
        · intro w' K hK
          go_wp2
          exact hK
        · rfl
        apply AnyZ.pure (i := 5) rfl (by kernel_rfl) rfl rfl
        · intro w' K hK
          go_wp2
          exact hK
        · rfl
        apply AnyZ.take (i := 6) rfl (by kernel_rfl) (by kernel_rfl) rfl
        · intro w' hC K hK
          have co := (cell4 (h3.out.below hC).2.2.1).2.2.1
          go_wp2
          exact hK
        · rfl
        apply AnyZ.pure (i := 7) rfl (by kernel_rfl) rfl rfl
        · intro w' K hK
          go_wp2
          exact hK
        · rfl
        apply AnyZ.pure (i := 8) rfl (by kernel_rfl) rfl rfl
        · intro w' K hK
          have hrun := run_Add64 d.c y.c c hc w'
          go_wp2
          exact hK
        · rfl
        apply AnyZ.pure (i := 9) rfl (by kernel_rfl) rfl rfl
        · intro w' K hK
          go_wp2
          exact hK
        · rfl
        apply AnyZ.pure (i := 10) rfl (by kernel_rfl) rfl rfl
        · intro w' K hK
          go_wp2
          exact hK
        · rfl
        apply AnyZ.pure (i := 11) rfl (by kernel_rfl) rfl rfl
        · intro w' K hK
          go_wp2
          exact hK
        · rfl
        apply AnyZ.pure (i := 12) rfl (by kernel_rfl) rfl rfl
        · intro w' K hK
          go_wp2
          exact hK
        · rfl
        apply AnyZ.soloW (i := 13) rfl (by kernel_rfl)
        intro w4 hC4
        have h4 := h3.out.below hC4
        have co := (cell4 h4.2.1).2.2.1
        have hfz : w4.frozen? ⟨w.heap.size, 2, none⟩ = false := by simp [World.frozen?, h4.2.1]
        have h5 := h4.set (i := 2) (v := .int .u64 (((d.c + y.c + c) % 18446744073709551616 : Nat) : Int)) (d' := { d with c := (d.c + y.c + c) % 18446744073709551616 }) rfl
        have H5 := Lib.hid h5
        clear h5 h4
        go_wp2
        refine ⟨rfl, ?_⟩
        apply AnyW.pure (i := 14) rfl (by kernel_rfl) rfl rfl
        · intro w' K hK
          go_wp2
          exact hK
        · rfl
        apply AnyW.done (by kernel_rfl)
        go_wp2
        go_roundw
        case rel => exact ⟨3, { d with c := (d.c + y.c + c) % 18446744073709551616 }, (d.c + y.c + c) / 18446744073709551616, by omega, by go_num, rfl, (by show (d.c + y.c + c) / 18446744073709551616 ≤ 1; have h1 := hd.out; have h2 := Hy.out; unfold W4.ok at h1 h2; omega), ⟨hd.out.1, hd.out.2.1, Nat.mod_lt _ (by decide), hd.out.2.2.2⟩, AddInv.step2 hI.out, H5⟩
        case measure => simp [intOf]
      · go_wp2
        refine AnyZ.start [13] (by kernel_rfl) rfl ?_
        apply AnyZ.pure (i := 0) rfl (by kernel_rfl) rfl rfl
        · intro w' K hK
          go_wp2
          exact hK
        · rfl
        apply AnyZ.pure (i := 1) rfl (by kernel_rfl) rfl rfl
        · intro w' K hK
          go_wp2
          exact hK
        · rfl
        apply AnyZ.pure (i := 2) rfl (by kernel_rfl) rfl rfl
        · intro w' K hK
          go_wp2
          exact hK
        · rfl
        apply AnyZ.take (i := 3) rfl (by kernel_rfl) (by kernel_rfl) rfl
        · intro w' hC K hK
          have co := (cell4 (h3.out.below hC).2.1).2.2.2
          go_wp2
          exact hK
        · rfl
        apply AnyZ.pure (i := 4) rfl (by kernel_rfl) rfl rfl
        · intro w' K hK
          go_wp2
          exact hK
        · rfl
        apply AnyZ.pure (i := 5) rfl (by kernel_rfl) rfl rfl
        · intro w' K hK
          go_wp2
          exact hK
        · rfl
        apply AnyZ.take (i := 6) rfl (by kernel_rfl) (by kernel_rfl) rfl
        · intro w' hC K hK
          have co := (cell4 (h3.out.below hC).2.2.1).2.2.2
          go_wp2
          exact hK
        · rfl
        apply AnyZ.pure (i := 7) rfl (by kernel_rfl) rfl rfl
        · intro w' K hK
          go_wp2
          exact hK
        · rfl
        apply AnyZ.pure (i := 8) rfl (by kernel_rfl) rfl rfl
        · intro w' K hK
          have hrun := run_Add64 d.d y.d c hc w'
          go_wp2
          exact hK
        · rfl
        apply AnyZ.pure (i := 9) rfl (by kernel_rfl) rfl rfl
        · intro w' K hK
          go_wp2
          exact hK
        · rfl
        apply AnyZ.pure (i := 10) rfl (by kernel_rfl) rfl rfl
        · intro w' K hK
          go_wp2
          exact hK
        · rfl
        apply AnyZ.pure (i := 11) rfl (by kernel_rfl) rfl rfl
        · intro w' K hK
          go_wp2
          exact hK
        · rfl
        apply AnyZ.pure (i := 12) rfl (by kernel_rfl) rfl rfl
        · intro w' K hK
          go_wp2
          exact hK
        · rfl
        apply AnyZ.soloW (i := 13) rfl (by kernel_rfl)
        intro w4 hC4
        have h4 := h3.out.below hC4
        have co := (cell4 h4.2.1).2.2.2
        have hfz : w4.frozen? ⟨w.heap.size, 3, none⟩ = false := by simp [World.frozen?, h4.2.1]
        have h5 := h4.set (i := 3) (v := .int .u64 (((d.d + y.d + c) % 18446744073709551616 : Nat) : Int)) (d' := { d with d := (d.d + y.d + c) % 18446744073709551616 }) rfl
        have H5 := Lib.hid h5
        clear h5 h4
        go_wp2
        refine ⟨rfl, ?_⟩
        apply AnyW.pure (i := 14) rfl (by kernel_rfl) rfl rfl
        · intro w' K hK
          go_wp2
          exact hK
        · rfl
        apply AnyW.done (by kernel_rfl)
        go_wp2
        go_roundw
        case rel => exact ⟨4, { d with d := (d.d + y.d + c) % 18446744073709551616 }, (d.d + y.d + c) / 18446744073709551616, by omega, by go_num, rfl, (by show (d.d + y.d + c) / 18446744073709551616 ≤ 1; have h1 := hd.out; have h2 := Hy.out; unfold W4.ok at h1 h2; omega), ⟨hd.out.1, hd.out.2.1, hd.out.2.2.1, Nat.mod_lt _ (by decide)⟩, AddInv.step3 hI.out, H5⟩
        case measure => simp [intOf]
    · obtain rfl : k = 4 := by omega
      obtain ⟨hb, h1, h2, h4⟩ := h3.out
      obtain ⟨e0, e1, e2, e3⟩ := cell4 h1
      obtain ⟨z0, z1, z2, z3⟩ := cell4 h4
      have hfz : ∀ i, wr.frozen? ⟨w.heap.size + 1 + 1, i, none⟩ = false := fun i => by simp [World.frozen?, h4]
      have Hbl := Lib.hid hb
      have Hld := Lib.hid (ret4 (d := d) h4)
      clear hb h1 h2 h4 h3
      go_wp2
      have hld := Hld.out
      refine bodyPost_ret (v := .agg d.cs) (by simp [results, Tryd.results22, asAddr, hld]) rfl ?_
      exact ⟨d, c, rfl, hd.out, hc, hI.out, (((Hbl.out.setCell (p := ⟨w.heap.size + 1 + 1, 0, none⟩) (by simp; omega) _).setCell (p := ⟨w.heap.size + 1 + 1, 1, none⟩) (by simp; omega) _).setCell (p := ⟨w.heap.size + 1 + 1, 2, none⟩) (by simp; omega) _).setCell (p := ⟨w.heap.size + 1 + 1, 3, none⟩) (by simp; omega) _⟩
end Go.Proofs.YtagjeideohplpaaDoor
