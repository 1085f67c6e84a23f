/- The texts Sc1 Sc2 Sc3 of this work, merged by wip/merge.py. No conditions. -/
import Derived.Test.YtbcpmnnlhdgbhaaGreatDoorQG16
namespace Go.Proofs.YtbcpmnnlhdgbhaaGreatDoor.Sc
open Go.RowKit
set_option maxRecDepth 100000 in
set_option maxHeartbeats 1000000 in
theorem add_any (x y : W4) (hx : x.ok) (hy : y.ok) (w : World) : Calls Tryz.prog 182 #[.agg x.cs, .agg y.cs] w (AddPost x y w) := by
  have hz35 : ∀ w, (zeroValue 294).run Tryz.prog w = .ok (.agg (W4.mk 0 0 0 0).cs) w := fun w => by kernel_rfl
  have H0 : Hid (Three w (((w.alloc (.cells x.cs 294)).alloc (.cells y.cs 294)).alloc (.cells (W4.mk 0 0 0 0).cs 294)) x y ⟨0, 0, 0, 0⟩) := by
    refine ⟨(((Below.refl _ _).alloc (Nat.le_refl _) _).alloc (by simp) _).alloc (by simp; omega) _, ?_, ?_, ?_⟩
    · rw [Below.heap_alloc _ _ _ (by simp; omega), Below.heap_alloc _ _ _ (by simp)]; exact heap_alloc_new w _
    · rw [Below.heap_alloc _ _ _ (by simp)]; simpa using heap_alloc_new (w.alloc (.cells x.cs 294)) (.cells y.cs 294)
    · simpa using heap_alloc_new ((w.alloc (.cells x.cs 294)).alloc (.cells y.cs 294)) (.cells (W4.mk 0 0 0 0).cs 294)
  have Hx := Lib.hid hx
  have Hy := Lib.hid hy
  clear hx hy
  go_enter Tryz.func182, Tryz.ntmps182
  go_wp2
  go_loopw [5, 7] (fun cv i wr => ∃ (k : Nat) (d : W4) (c : Nat), k ≤ 4 ∧ i = .int .i64 k ∧ cv = .int .u64 (c : Int) ∧ c ≤ 1 ∧ Hid d.ok ∧ Hid (AddInv x y d c k) ∧ Hid (Three w wr d y ⟨0, 0, 0, 0⟩)) (fun _ i _ => 4 - (intOf i).toNat)
  case atStart => exact ⟨0, x, 0, by omega, rfl, rfl, by omega, Hx.out, ⟨rfl, rfl⟩, H0⟩
  case round =>
    obtain ⟨k, d, c, hk, rfl, rfl, hc, hd, hI, h3⟩ := hrel
    clear H0
    by_cases hlt : k < 4
    · obtain rfl | rfl | rfl | rfl : k = 0 ∨ k = 1 ∨ k = 2 ∨ k = 3 := by omega
      · go_wp2
        refine AnyZ.start [13] (by kernel_rfl) rfl ?_
        apply AnyZ.pure (i := 0) rfl (by kernel_rfl) rfl rfl
        · intro w' K hK
          go_wp2
          exact hK
        · rfl
        apply AnyZ.pure (i := 1) rfl (by kernel_rfl) rfl rfl
        · intro w' K hK
          go_wp2
          exact hK
        · rfl
        apply AnyZ.pure (i := 2) rfl (by kernel_rfl) rfl rfl
        · intro w' K hK
          go_wp2
          exact hK
        · rfl
        apply AnyZ.take (i := 3) rfl (by kernel_rfl) (by kernel_rfl) rfl
        · intro w' hC K hK
          have co := (cell4 (h3.out.below hC).2.1).1
          go_wp2
          exact hK
        · rfl
        apply AnyZ.pure (i := 4) rfl (by kernel_rfl) rfl rfl
        · intro w' K hK
          go_wp2
          exact hK
        · rfl
        apply AnyZ.pure (i := 5) rfl (by kernel_rfl) rfl rfl
        · intro w' K hK
          go_wp2
          exact hK
        · rfl
        apply AnyZ.take (i := 6) rfl (by kernel_rfl) (by kernel_rfl) rfl
        · intro w' hC K hK
          have co := (cell4 (h3.out.below hC).2.2.1).1
          go_wp2
          exact hK
        · rfl
        apply AnyZ.pure (i := 7) rfl (by kernel_rfl) rfl rfl
        · intro w' K hK
          go_wp2
          exact hK
        · rfl
        apply AnyZ.pure (i := 8) rfl (by kernel_rfl) rfl rfl
        · intro w' K hK
          have hrun := run_Add64 d.a y.a c hc w'
          go_wp2
          exact hK
        · rfl
        apply AnyZ.pure (i := 9) rfl (by kernel_rfl) rfl rfl
        · intro w' K hK
          go_wp2
          exact hK
        · rfl
        apply AnyZ.pure (i := 10) rfl (by kernel_rfl) rfl rfl
        · intro w' K hK
          go_wp2
          exact hK
        · rfl
        apply AnyZ.pure (i := 11) rfl (by kernel_rfl) rfl rfl
        · intro w' K hK
          go_wp2
          exact hK
        · rfl
        apply AnyZ.pure (i := 12) rfl (by kernel_rfl) rfl rfl
        · intro w' K hK
          go_wp2
          exact hK
        · rfl
        apply AnyZ.soloW (i := 13) rfl (by kernel_rfl)
        intro w4 hC4
        have h4 := h3.out.below hC4
        have co := (cell4 h4.2.1).1
        have hfz : w4.frozen? ⟨w.heap.size, 0, none⟩ = false := by simp [World.frozen?, h4.2.1]
        have h5 := h4.set (i := 0) (v := .int .u64 (((d.a + y.a + c) % 18446744073709551616 : Nat) : Int)) (d' := { d with a := (d.a + y.a + c) % 18446744073709551616 }) rfl
        have H5 := Lib.hid h5
        clear h5 h4
        go_wp2
        refine ⟨rfl, ?_⟩
        apply AnyW.pure (i := 14) rfl (by kernel_rfl) rfl rfl
        · intro w' K hK
          go_wp2
          exact hK
        · rfl
        apply AnyW.done (by kernel_rfl)
        go_wp2
        go_roundw
        case rel => exact ⟨1, { d with a := (d.a + y.a + c) % 18446744073709551616 }, (d.a + y.a + c) / 18446744073709551616, by omega, by go_num, rfl, (by show (d.a + y.a + c) / 18446744073709551616 ≤ 1; have h1 := hd.out; have h2 := Hy.out; unfold W4.ok at h1 h2; omega), ⟨Nat.mod_lt _ (by decide), hd.out.2.1, hd.out.2.2.1, hd.out.2.2.2⟩, AddInv.step0 hI.out, H5⟩
        case measure => simp [intOf]
      · go_wp2
        refine AnyZ.start [13] (by kernel_rfl) rfl ?_
        apply AnyZ.pure (i := 0) rfl (by kernel_rfl) rfl rfl
        · intro w' K hK
          go_wp2
          exact hK
        · rfl
        apply AnyZ.pure (i := 1) rfl (by kernel_rfl) rfl rfl
        · intro w' K hK
          go_wp2
          exact hK
        · rfl
        apply AnyZ.pure (i := 2) rfl (by kernel_rfl) rfl rfl
        · intro w' K hK
          go_wp2
          exact hK
        · rfl
        apply AnyZ.take (i := 3) rfl (by kernel_rfl) (by kernel_rfl) rfl
        · intro w' hC K hK
          have co := (cell4 (h3.out.below hC).2.1).2.1
          go_wp2
          exact hK
        · rfl
        apply AnyZ.pure (i := 4) rfl (by kernel_rfl) rfl rfl
        · intro w' K hK
          go_wp2
          exact hK
        · rfl
        apply AnyZ.pure (i := 5) rfl (by kernel_rfl) rfl rfl
        · intro w' K hK
          go_wp2
          exact hK
        · rfl
        apply AnyZ.take (i := 6) rfl (by kernel_rfl) (by kernel_rfl) rfl
        · intro w' hC K hK
          have co := (cell4 (h3.out.below hC).2.2.1).2.1
          go_wp2
          exact hK
        · rfl
        apply AnyZ.pure (i := 7) rfl (by kernel_rfl) rfl rfl
        · intro w' K hK
          go_wp2
          exact hK
        · rfl
        apply AnyZ.pure (i := 8) rfl (by kernel_rfl) rfl rfl
        · intro w' K hK
          have hrun := run_Add64 d.b y.b c hc w'
          go_wp2
          exact hK
        · rfl
        apply AnyZ.pure (i := 9) rfl (by kernel_rfl) rfl rfl
        · intro w' K hK
          go_wp2
          exact hK
        · rfl
        apply AnyZ.pure (i := 10) rfl (by kernel_rfl) rfl rfl
        · intro w' K hK
          go_wp2
          exact hK
        · rfl
        apply AnyZ.pure (i := 11) rfl (by kernel_rfl) rfl rfl
        · intro w' K hK
          go_wp2
          exact hK
        · rfl
        apply AnyZ.pure (i := 12) rfl (by kernel_rfl) rfl rfl
        · intro w' K hK
          go_wp2
          exact hK
        · rfl
        apply AnyZ.soloW (i := 13) rfl (by kernel_rfl)
        intro w4 hC4
        have h4 := h3.out.below hC4
        have co := (cell4 h4.2.1).2.1
        have hfz : w4.frozen? ⟨w.heap.size, 1, none⟩ = false := by simp [World.frozen?, h4.2.1]
        have h5 := h4.set (i := 1) (v := .int .u64 (((d.b + y.b + c) % 18446744073709551616 : Nat) : Int)) (d' := { d with b := (d.b + y.b + c) % 18446744073709551616 }) rfl
        have H5 := Lib.hid h5
        clear h5 h4
        go_wp2
        refine ⟨rfl, ?_⟩
        apply AnyW.pure (i := 14) rfl (by kernel_rfl) rfl rfl
        · intro w' K hK
          go_wp2
          exact hK
        · rfl
        apply AnyW.done (by kernel_rfl)
        go_wp2
        go_roundw
        case rel => exact ⟨2, { d with b := (d.b + y.b + c) % 18446744073709551616 }, (d.b + y.b + c) / 18446744073709551616, by omega, by go_num, rfl, (by show (d.b + y.b + c) / 18446744073709551616 ≤ 1; have h1 := hd.out; have h2 := Hy.out; unfold W4.ok at h1 h2; omega), ⟨hd.out.1, Nat.mod_lt _ (by decide), hd.out.2.2.1, hd.out.2.2.2⟩, AddInv.step1 hI.out, H5⟩
        case measure => simp [intOf]
      · go_wp2
        refine AnyZ.start [13] (by kernel_rfl) rfl ?_
        apply AnyZ.pure (i := 0) rfl (by kernel_rfl) rfl rfl
        · intro w' K hK
          go_wp2
          exact hK
        · rfl
        apply AnyZ.pure (i := 1) rfl (by kernel_rfl) rfl rfl
        · intro w' K hK
          go_wp2
          exact hK
        · rfl
        apply AnyZ.pure (i := 2) rfl (by kernel_rfl) rfl rfl
        · intro w' K hK
          go_wp2
          exact hK
        · rfl
        apply AnyZ.take (i := 3) rfl (by kernel_rfl) (by kernel_rfl) rfl
        · intro w' hC K hK
          have co := (cell4 (h3.out.below hC).2.1).2.2.1
          go_wp2
          exact hK
        · rfl
        apply AnyZ.pure (i := 4) rfl (by kernel_rfl) rfl rfl
        · intro w' K hK
          go_wp2
          exact hK
        · rfl
        apply AnyZ.pure (i := 5) rfl (by kernel_rfl) rfl rfl
        · intro w' K hK
          go_wp2
          exact hK
        · rfl
        apply AnyZ.take (i := 6) rfl (by kernel_rfl) (by kernel_rfl) rfl
        · intro w' hC K hK
          have co := (cell4 (h3.out.below hC).2.2.1).2.2.1
          go_wp2
          exact hK
        · rfl
        apply AnyZ.pure (i := 7) rfl (by kernel_rfl) rfl rfl
        · intro w' K hK
          go_wp2
          exact hK
        · rfl
        apply AnyZ.pure (i := 8) rfl (by kernel_rfl) rfl rfl
        · intro w' K hK
          have hrun := run_Add64 d.c y.c c hc w'
          go_wp2
          exact hK
        · rfl
        apply AnyZ.pure (i := 9) rfl (by kernel_rfl) rfl rfl
        · intro w' K hK
          go_wp2
          exact hK
        · rfl
        apply AnyZ.pure (i := 10) rfl (by kernel_rfl) rfl rfl
        · intro w' K hK
          go_wp2
          exact hK
        · rfl
        apply AnyZ.pure (i := 11) rfl (by kernel_rfl) rfl rfl
        · intro w' K hK
          go_wp2
          exact hK
        · rfl
        apply AnyZ.pure (i := 12) rfl (by kernel_rfl) rfl rfl
        · intro w' K hK
          go_wp2
          exact hK
        · rfl
        apply AnyZ.soloW (i := 13) rfl (by kernel_rfl)
        intro w4 hC4
        have h4 := h3.out.below hC4
        have co := (cell4 h4.2.1).2.2.1
        have hfz : w4.frozen? ⟨w.heap.size, 2, none⟩ = false := by simp [World.frozen?, h4.2.1]
        have h5 := h4.set (i := 2) (v := .int .u64 (((d.c + y.c + c) % 18446744073709551616 : Nat) : Int)) (d' := { d with c := (d.c + y.c + c) % 18446744073709551616 }) rfl
        have H5 := Lib.hid h5
        clear h5 h4
        go_wp2
        refine ⟨rfl, ?_⟩
        apply AnyW.pure (i := 14) rfl (by kernel_rfl) rfl rfl
        · intro w' K hK
          go_wp2
          exact hK
        · rfl
        apply AnyW.done (by kernel_rfl)
        go_wp2
        go_roundw
        case rel => exact ⟨3, { d with c := (d.c + y.c + c) % 18446744073709551616 }, (d.c + y.c + c) / 18446744073709551616, by omega, by go_num, rfl, (by show (d.c + y.c + c) / 18446744073709551616 ≤ 1; have h1 := hd.out; have h2 := Hy.out; unfold W4.ok at h1 h2; omega), ⟨hd.out.1, hd.out.2.1, Nat.mod_lt _ (by decide), hd.out.2.2.2⟩, AddInv.step2 hI.out, H5⟩
        case measure => simp [intOf]
      · go_wp2
        refine AnyZ.start [13] (by kernel_rfl) rfl ?_
        apply AnyZ.pure (i := 0) rfl (by kernel_rfl) rfl rfl
        · intro w' K hK
          go_wp2
          exact hK
        · rfl
        apply AnyZ.pure (i := 1) rfl (by kernel_rfl) rfl rfl
        · intro w' K hK
          go_wp2
          exact hK
        · rfl
        apply AnyZ.pure (i := 2) rfl (by kernel_rfl) rfl rfl
        · intro w' K hK
          go_wp2
          exact hK
        · rfl
        apply AnyZ.take (i := 3) rfl (by kernel_rfl) (by kernel_rfl) rfl
        · intro w' hC K hK
          have co := (cell4 (h3.out.below hC).2.1).2.2.2
          go_wp2
          exact hK
        · rfl
        apply AnyZ.pure (i := 4) rfl (by kernel_rfl) rfl rfl
        · intro w' K hK
          go_wp2
          exact hK
        · rfl
        apply AnyZ.pure (i := 5) rfl (by kernel_rfl) rfl rfl
        · intro w' K hK
          go_wp2
          exact hK
        · rfl
        apply AnyZ.take (i := 6) rfl (by kernel_rfl) (by kernel_rfl) rfl
        · intro w' hC K hK
          have co := (cell4 (h3.out.below hC).2.2.1).2.2.2
          go_wp2
          exact hK
        · rfl
        apply AnyZ.pure (i := 7) rfl (by kernel_rfl) rfl rfl
        · intro w' K hK
          go_wp2
          exact hK
        · rfl
        apply AnyZ.pure (i := 8) rfl (by kernel_rfl) rfl rfl
        · intro w' K hK
          have hrun := run_Add64 d.d y.d c hc w'
          go_wp2
          exact hK
        · rfl
        apply AnyZ.pure (i := 9) rfl (by kernel_rfl) rfl rfl
        · intro w' K hK
          go_wp2
          exact hK
        · rfl
        apply AnyZ.pure (i := 10) rfl (by kernel_rfl) rfl rfl
        · intro w' K hK
          go_wp2
          exact hK
        · rfl
        apply AnyZ.pure (i := 11) rfl (by kernel_rfl) rfl rfl
        · intro w' K hK
          go_wp2
          exact hK
        · rfl
        apply AnyZ.pure (i := 12) rfl (by kernel_rfl) rfl rfl
        · intro w' K hK
          go_wp2
          exact hK
        · rfl
        apply AnyZ.soloW (i := 13) rfl (by kernel_rfl)
        intro w4 hC4
        have h4 := h3.out.below hC4
        have co := (cell4 h4.2.1).2.2.2
        have hfz : w4.frozen? ⟨w.heap.size, 3, none⟩ = false := by simp [World.frozen?, h4.2.1]
        have h5 := h4.set (i := 3) (v := .int .u64 (((d.d + y.d + c) % 18446744073709551616 : Nat) : Int)) (d' := { d with d := (d.d + y.d + c) % 18446744073709551616 }) rfl
        have H5 := Lib.hid h5
        clear h5 h4
        go_wp2
        refine ⟨rfl, ?_⟩
        apply AnyW.pure (i := 14) rfl (by kernel_rfl) rfl rfl
        · intro w' K hK
          go_wp2
          exact hK
        · rfl
        apply AnyW.done (by kernel_rfl)
        go_wp2
        go_roundw
        case rel => exact ⟨4, { d with d := (d.d + y.d + c) % 18446744073709551616 }, (d.d + y.d + c) / 18446744073709551616, by omega, by go_num, rfl, (by show (d.d + y.d + c) / 18446744073709551616 ≤ 1; have h1 := hd.out; have h2 := Hy.out; unfold W4.ok at h1 h2; omega), ⟨hd.out.1, hd.out.2.1, hd.out.2.2.1, Nat.mod_lt _ (by decide)⟩, AddInv.step3 hI.out, H5⟩
        case measure => simp [intOf]
    · obtain rfl : k = 4 := by omega
      obtain ⟨hb, h1, h2, h4⟩ := h3.out
      obtain ⟨e0, e1, e2, e3⟩ := cell4 h1
      obtain ⟨z0, z1, z2, z3⟩ := cell4 h4
      have hfz : ∀ i, wr.frozen? ⟨w.heap.size + 1 + 1, i, none⟩ = false := fun i => by simp [World.frozen?, h4]
      have Hbl := Lib.hid hb
      have Hld := Lib.hid (ret4 (d := d) h4)
      clear hb h1 h2 h4 h3
      go_wp2
      have hld := Hld.out
      refine bodyPost_ret (v := .agg d.cs) (by simp [results, Tryz.results182, asAddr, hld]) rfl ?_
      exact ⟨d, c, rfl, hd.out, hc, hI.out, (((Hbl.out.setCell (p := ⟨w.heap.size + 1 + 1, 0, none⟩) (by simp; omega) _).setCell (p := ⟨w.heap.size + 1 + 1, 1, none⟩) (by simp; omega) _).setCell (p := ⟨w.heap.size + 1 + 1, 2, none⟩) (by simp; omega) _).setCell (p := ⟨w.heap.size + 1 + 1, 3, none⟩) (by simp; omega) _⟩
end Go.Proofs.YtbcpmnnlhdgbhaaGreatDoor.Sc

namespace Go.Proofs.YtbcpmnnlhdgbhaaGreatDoor.Sc
open Go.RowKit
/-- The first k words of the difference are done. -/
def SubInv (x y d : W4) (c : Nat) : Nat → Prop
  | 0 => d = x ∧ c = 0
  | 1 => x.a + c * 18446744073709551616 = d.a + y.a ∧ d.b = x.b ∧ d.c = x.c ∧ d.d = x.d
  | 2 => x.a + 18446744073709551616 * x.b + c * 340282366920938463463374607431768211456 = d.a + 18446744073709551616 * d.b + (y.a + 18446744073709551616 * y.b) ∧ d.c = x.c ∧ d.d = x.d
  | 3 => x.a + 18446744073709551616 * x.b + 340282366920938463463374607431768211456 * x.c + c * 6277101735386680763835789423207666416102355444464034512896 = d.a + 18446744073709551616 * d.b + 340282366920938463463374607431768211456 * d.c + (y.a + 18446744073709551616 * y.b + 340282366920938463463374607431768211456 * y.c) ∧ d.d = x.d
  | _ => x.val + c * 115792089237316195423570985008687907853269984665640564039457584007913129639936 = d.val + y.val
theorem sub_one {x y c : Nat} (hx : x < 18446744073709551616) (hy : y < 18446744073709551616) (hc : c ≤ 1) : x + (if x < y + c then 1 else 0) * 18446744073709551616 = (x + 18446744073709551616 - y - c) % 18446744073709551616 + y + c := by split <;> omega
theorem SubInv.step0 {x y d : W4} {c : Nat} (h : SubInv x y d c 0) (hd : d.ok) (hy : y.ok) (hc : c ≤ 1) : SubInv x y { d with a := (d.a + 18446744073709551616 - y.a - c) % 18446744073709551616 } (if d.a < y.a + c then 1 else 0) 1 := by
  have h1 := sub_one hd.1 hy.1 hc
  obtain ⟨rfl, rfl⟩ := h
  exact ⟨h1, rfl, rfl, rfl⟩
theorem SubInv.step1 {x y d : W4} {c : Nat} (h : SubInv x y d c 1) (hd : d.ok) (hy : y.ok) (hc : c ≤ 1) : SubInv x y { d with b := (d.b + 18446744073709551616 - y.b - c) % 18446744073709551616 } (if d.b < y.b + c then 1 else 0) 2 := by
  have h1 := sub_one hd.2.1 hy.2.1 hc
  obtain ⟨h, e1, e2, e3⟩ := h
  refine ⟨?_, e2, e3⟩
  show x.a + 18446744073709551616 * x.b + (if d.b < y.b + c then 1 else 0) * 340282366920938463463374607431768211456 = d.a + 18446744073709551616 * ((d.b + 18446744073709551616 - y.b - c) % 18446744073709551616) + (y.a + 18446744073709551616 * y.b)
  generalize (d.b + 18446744073709551616 - y.b - c) % 18446744073709551616 = e at *
  generalize (if d.b < y.b + c then 1 else 0) = f at *
  omega
theorem SubInv.step2 {x y d : W4} {c : Nat} (h : SubInv x y d c 2) (hd : d.ok) (hy : y.ok) (hc : c ≤ 1) : SubInv x y { d with c := (d.c + 18446744073709551616 - y.c - c) % 18446744073709551616 } (if d.c < y.c + c then 1 else 0) 3 := by
  have h1 := sub_one hd.2.2.1 hy.2.2.1 hc
  obtain ⟨h, e2, e3⟩ := h
  refine ⟨?_, e3⟩
  show x.a + 18446744073709551616 * x.b + 340282366920938463463374607431768211456 * x.c + (if d.c < y.c + c then 1 else 0) * 6277101735386680763835789423207666416102355444464034512896 = d.a + 18446744073709551616 * d.b + 340282366920938463463374607431768211456 * ((d.c + 18446744073709551616 - y.c - c) % 18446744073709551616) + (y.a + 18446744073709551616 * y.b + 340282366920938463463374607431768211456 * y.c)
  generalize (d.c + 18446744073709551616 - y.c - c) % 18446744073709551616 = e at *
  generalize (if d.c < y.c + c then 1 else 0) = f at *
  omega
theorem SubInv.step3 {x y d : W4} {c : Nat} (h : SubInv x y d c 3) (hd : d.ok) (hy : y.ok) (hc : c ≤ 1) : SubInv x y { d with d := (d.d + 18446744073709551616 - y.d - c) % 18446744073709551616 } (if d.d < y.d + c then 1 else 0) 4 := by
  have h1 := sub_one hd.2.2.2 hy.2.2.2 hc
  obtain ⟨h, e3⟩ := h
  show x.val + (if d.d < y.d + c then 1 else 0) * 115792089237316195423570985008687907853269984665640564039457584007913129639936 = d.a + 18446744073709551616 * d.b + 340282366920938463463374607431768211456 * d.c + 6277101735386680763835789423207666416102355444464034512896 * ((d.d + 18446744073709551616 - y.d - c) % 18446744073709551616) + y.val
  unfold W4.val
  generalize (d.d + 18446744073709551616 - y.d - c) % 18446744073709551616 = e at *
  generalize (if d.d < y.d + c then 1 else 0) = f at *
  omega
def SubPost (x y : W4) (w : World) (e : Ending) (w' : World) : Prop := ∃ (d : W4) (c : Nat), e = .returned (.tuple #[.agg d.cs, .int .u64 (c : Int)]) ∧ d.ok ∧ c ≤ 1 ∧ x.val + c * 115792089237316195423570985008687907853269984665640564039457584007913129639936 = d.val + y.val ∧ Below w.heap.size w w'
set_option maxRecDepth 100000 in
set_option maxHeartbeats 1000000 in
theorem sub_any (x y : W4) (hx : x.ok) (hy : y.ok) (w : World) : Calls Tryz.prog 219 #[.agg x.cs, .agg y.cs] w (SubPost x y w) := by
  have hz35 : ∀ w, (zeroValue 294).run Tryz.prog w = .ok (.agg (W4.mk 0 0 0 0).cs) w := fun w => by kernel_rfl
  have H0 : Hid (Three w (((w.alloc (.cells x.cs 294)).alloc (.cells y.cs 294)).alloc (.cells (W4.mk 0 0 0 0).cs 294)) x y ⟨0, 0, 0, 0⟩) := by
    refine ⟨(((Below.refl _ _).alloc (Nat.le_refl _) _).alloc (by simp) _).alloc (by simp; omega) _, ?_, ?_, ?_⟩
    · rw [Below.heap_alloc _ _ _ (by simp; omega), Below.heap_alloc _ _ _ (by simp)]; exact heap_alloc_new w _
    · rw [Below.heap_alloc _ _ _ (by simp)]; simpa using heap_alloc_new (w.alloc (.cells x.cs 294)) (.cells y.cs 294)
    · simpa using heap_alloc_new ((w.alloc (.cells x.cs 294)).alloc (.cells y.cs 294)) (.cells (W4.mk 0 0 0 0).cs 294)
  have Hx := Lib.hid hx
  have Hy := Lib.hid hy
  clear hx hy
  go_enter Tryz.func219, Tryz.ntmps219
  go_wp2
  go_loopw [6, 8] (fun cv i wr => ∃ (k : Nat) (d : W4) (c : Nat), k ≤ 4 ∧ i = .int .i64 k ∧ cv = .int .u64 (c : Int) ∧ c ≤ 1 ∧ Hid d.ok ∧ Hid (SubInv x y d c k) ∧ Hid (Three w wr d y ⟨0, 0, 0, 0⟩)) (fun _ i _ => 4 - (intOf i).toNat)
  case atStart => exact ⟨0, x, 0, by omega, rfl, rfl, by omega, Hx.out, ⟨rfl, rfl⟩, H0⟩
  case round =>
    obtain ⟨k, d, c, hk, rfl, rfl, hc, hd, hI, h3⟩ := hrel
    clear H0
    by_cases hlt : k < 4
    · obtain rfl | rfl | rfl | rfl : k = 0 ∨ k = 1 ∨ k = 2 ∨ k = 3 := by omega
      · obtain ⟨bw, hbw⟩ : ∃ bw : Nat, (if d.a < y.a + c then 1 else 0) = bw := ⟨_, rfl⟩
        have Hbw := Lib.hid hbw
        clear hbw
        go_wp2
        refine AnyZ.start [13] (by kernel_rfl) rfl ?_
        apply AnyZ.pure (i := 0) rfl (by kernel_rfl) rfl rfl
        · intro w' K hK
          go_wp2
          exact hK
        · rfl
        apply AnyZ.pure (i := 1) rfl (by kernel_rfl) rfl rfl
        · intro w' K hK
          go_wp2
          exact hK
        · rfl
        apply AnyZ.pure (i := 2) rfl (by kernel_rfl) rfl rfl
        · intro w' K hK
          go_wp2
          exact hK
        · rfl
        apply AnyZ.take (i := 3) rfl (by kernel_rfl) (by kernel_rfl) rfl
        · intro w' hC K hK
          have co := (cell4 (h3.out.below hC).2.1).1
          go_wp2
          exact hK
        · rfl
        apply AnyZ.pure (i := 4) rfl (by kernel_rfl) rfl rfl
        · intro w' K hK
          go_wp2
          exact hK
        · rfl
        apply AnyZ.pure (i := 5) rfl (by kernel_rfl) rfl rfl
        · intro w' K hK
          go_wp2
          exact hK
        · rfl
        apply AnyZ.take (i := 6) rfl (by kernel_rfl) (by kernel_rfl) rfl
        · intro w' hC K hK
          have co := (cell4 (h3.out.below hC).2.2.1).1
          go_wp2
          exact hK
        · rfl
        apply AnyZ.pure (i := 7) rfl (by kernel_rfl) rfl rfl
        · intro w' K hK
          go_wp2
          exact hK
        · rfl
        apply AnyZ.pure (i := 8) rfl (by kernel_rfl) rfl rfl
        · intro w' K hK
          have hrun := run_Sub64 d.a y.a c hc w'
          rw [Hbw.out] at hrun
          go_wp2
          exact hK
        · rfl
        apply AnyZ.pure (i := 9) rfl (by kernel_rfl) rfl rfl
        · intro w' K hK
          go_wp2
          exact hK
        · rfl
        apply AnyZ.pure (i := 10) rfl (by kernel_rfl) rfl rfl
        · intro w' K hK
          go_wp2
          exact hK
        · rfl
        apply AnyZ.pure (i := 11) rfl (by kernel_rfl) rfl rfl
        · intro w' K hK
          go_wp2
          exact hK
        · rfl
        apply AnyZ.pure (i := 12) rfl (by kernel_rfl) rfl rfl
        · intro w' K hK
          go_wp2
          exact hK
        · rfl
        apply AnyZ.soloW (i := 13) rfl (by kernel_rfl)
        intro w4 hC4
        have h4 := h3.out.below hC4
        have co := (cell4 h4.2.1).1
        have hfz : w4.frozen? ⟨w.heap.size, 0, none⟩ = false := by simp [World.frozen?, h4.2.1]
        have h5 := h4.set (i := 0) (v := .int .u64 (((d.a + 18446744073709551616 - y.a - c) % 18446744073709551616 : Nat) : Int)) (d' := { d with a := (d.a + 18446744073709551616 - y.a - c) % 18446744073709551616 }) rfl
        have H5 := Lib.hid h5
        clear h5 h4
        go_wp2
        refine ⟨rfl, ?_⟩
        apply AnyW.pure (i := 14) rfl (by kernel_rfl) rfl rfl
        · intro w' K hK
          go_wp2
          exact hK
        · rfl
        apply AnyW.done (by kernel_rfl)
        go_wp2
        go_roundw
        case rel => exact ⟨1, { d with a := (d.a + 18446744073709551616 - y.a - c) % 18446744073709551616 }, bw, by omega, by go_num, rfl, by rw [← Hbw.out]; split <;> omega, ⟨Nat.mod_lt _ (by decide), hd.out.2.1, hd.out.2.2.1, hd.out.2.2.2⟩, by have h_ := SubInv.step0 hI.out hd.out Hy.out hc; rw [Hbw.out] at h_; exact h_, H5⟩
        case measure => simp [intOf]
      · obtain ⟨bw, hbw⟩ : ∃ bw : Nat, (if d.b < y.b + c then 1 else 0) = bw := ⟨_, rfl⟩
        have Hbw := Lib.hid hbw
        clear hbw
        go_wp2
        refine AnyZ.start [13] (by kernel_rfl) rfl ?_
        apply AnyZ.pure (i := 0) rfl (by kernel_rfl) rfl rfl
        · intro w' K hK
          go_wp2
          exact hK
        · rfl
        apply AnyZ.pure (i := 1) rfl (by kernel_rfl) rfl rfl
        · intro w' K hK
          go_wp2
          exact hK
        · rfl
        apply AnyZ.pure (i := 2) rfl (by kernel_rfl) rfl rfl
        · intro w' K hK
          go_wp2
          exact hK
        · rfl
        apply AnyZ.take (i := 3) rfl (by kernel_rfl) (by kernel_rfl) rfl
        · intro w' hC K hK
          have co := (cell4 (h3.out.below hC).2.1).2.1
          go_wp2
          exact hK
        · rfl
        apply AnyZ.pure (i := 4) rfl (by kernel_rfl) rfl rfl
        · intro w' K hK
          go_wp2
          exact hK
        · rfl
        apply AnyZ.pure (i := 5) rfl (by kernel_rfl) rfl rfl
        · intro w' K hK
          go_wp2
          exact hK
        · rfl
        apply AnyZ.take (i := 6) rfl (by kernel_rfl) (by kernel_rfl) rfl
        · intro w' hC K hK
          have co := (cell4 (h3.out.below hC).2.2.1).2.1
          go_wp2
          exact hK
        · rfl
        apply AnyZ.pure (i := 7) rfl (by kernel_rfl) rfl rfl
        · intro w' K hK
          go_wp2
          exact hK
        · rfl
        apply AnyZ.pure (i := 8) rfl (by kernel_rfl) rfl rfl
        · intro w' K hK
          have hrun := run_Sub64 d.b y.b c hc w'
          rw [Hbw.out] at hrun
          go_wp2
          exact hK
        · rfl
        apply AnyZ.pure (i := 9) rfl (by kernel_rfl) rfl rfl
        · intro w' K hK
          go_wp2
          exact hK
        · rfl
        apply AnyZ.pure (i := 10) rfl (by kernel_rfl) rfl rfl
        · intro w' K hK
          go_wp2
          exact hK
        · rfl
        apply AnyZ.pure (i := 11) rfl (by kernel_rfl) rfl rfl
        · intro w' K hK
          go_wp2
          exact hK
        · rfl
        apply AnyZ.pure (i := 12) rfl (by kernel_rfl) rfl rfl
        · intro w' K hK
          go_wp2
          exact hK
        · rfl
        apply AnyZ.soloW (i := 13) rfl (by kernel_rfl)
        intro w4 hC4
        have h4 := h3.out.below hC4
        have co := (cell4 h4.2.1).2.1
        have hfz : w4.frozen? ⟨w.heap.size, 1, none⟩ = false := by simp [World.frozen?, h4.2.1]
        have h5 := h4.set (i := 1) (v := .int .u64 (((d.b + 18446744073709551616 - y.b - c) % 18446744073709551616 : Nat) : Int)) (d' := { d with b := (d.b + 18446744073709551616 - y.b - c) % 18446744073709551616 }) rfl
        have H5 := Lib.hid h5
        clear h5 h4
        go_wp2
        refine ⟨rfl, ?_⟩
        apply AnyW.pure (i := 14) rfl (by kernel_rfl) rfl rfl
        · intro w' K hK
          go_wp2
          exact hK
        · rfl
        apply AnyW.done (by kernel_rfl)
        go_wp2
        go_roundw
        case rel => exact ⟨2, { d with b := (d.b + 18446744073709551616 - y.b - c) % 18446744073709551616 }, bw, by omega, by go_num, rfl, by rw [← Hbw.out]; split <;> omega, ⟨hd.out.1, Nat.mod_lt _ (by decide), hd.out.2.2.1, hd.out.2.2.2⟩, by have h_ := SubInv.step1 hI.out hd.out Hy.out hc; rw [Hbw.out] at h_; exact h_, H5⟩
        case measure => simp [intOf]
      · obtain ⟨bw, hbw⟩ : ∃ bw : Nat, (if d.c < y.c + c then 1 else 0) = bw := ⟨_, rfl⟩
        have Hbw := Lib.hid hbw
        clear hbw
        go_wp2
        refine AnyZ.start [13] (by kernel_rfl) rfl ?_
        apply AnyZ.pure (i := 0) rfl (by kernel_rfl) rfl rfl
        · intro w' K hK
          go_wp2
          exact hK
        · rfl
        apply AnyZ.pure (i := 1) rfl (by kernel_rfl) rfl rfl
        · intro w' K hK
          go_wp2
          exact hK
        · rfl
        apply AnyZ.pure (i := 2) rfl (by kernel_rfl) rfl rfl
        · intro w' K hK
          go_wp2
          exact hK
        · rfl
        apply AnyZ.take (i := 3) rfl (by kernel_rfl) (by kernel_rfl) rfl
        · intro w' hC K hK
          have co := (cell4 (h3.out.below hC).2.1).2.2.1
          go_wp2
          exact hK
        · rfl
        apply AnyZ.pure (i := 4) rfl (by kernel_rfl) rfl rfl
        · intro w' K hK
          go_wp2
          exact hK
        · rfl
        apply AnyZ.pure (i := 5) rfl (by kernel_rfl) rfl rfl
        · intro w' K hK
          go_wp2
          exact hK
        · rfl
        apply AnyZ.take (i := 6) rfl (by kernel_rfl) (by kernel_rfl) rfl
        · intro w' hC K hK
          have co := (cell4 (h3.out.below hC).2.2.1).2.2.1
          go_wp2
          exact hK
        · rfl
        apply AnyZ.pure (i := 7) rfl (by kernel_rfl) rfl rfl
        · intro w' K hK
          go_wp2
          exact hK
        · rfl
        apply AnyZ.pure (i := 8) rfl (by kernel_rfl) rfl rfl
        · intro w' K hK
          have hrun := run_Sub64 d.c y.c c hc w'
          rw [Hbw.out] at hrun
          go_wp2
          exact hK
        · rfl
        apply AnyZ.pure (i := 9) rfl (by kernel_rfl) rfl rfl
        · intro w' K hK
          go_wp2
          exact hK
        · rfl
        apply AnyZ.pure (i := 10) rfl (by kernel_rfl) rfl rfl
        · intro w' K hK
          go_wp2
          exact hK
        · rfl
        apply AnyZ.pure (i := 11) rfl (by kernel_rfl) rfl rfl
        · intro w' K hK
          go_wp2
          exact hK
        · rfl
        apply AnyZ.pure (i := 12) rfl (by kernel_rfl) rfl rfl
        · intro w' K hK
          go_wp2
          exact hK
        · rfl
        apply AnyZ.soloW (i := 13) rfl (by kernel_rfl)
        intro w4 hC4
        have h4 := h3.out.below hC4
        have co := (cell4 h4.2.1).2.2.1
        have hfz : w4.frozen? ⟨w.heap.size, 2, none⟩ = false := by simp [World.frozen?, h4.2.1]
        have h5 := h4.set (i := 2) (v := .int .u64 (((d.c + 18446744073709551616 - y.c - c) % 18446744073709551616 : Nat) : Int)) (d' := { d with c := (d.c + 18446744073709551616 - y.c - c) % 18446744073709551616 }) rfl
        have H5 := Lib.hid h5
        clear h5 h4
        go_wp2
        refine ⟨rfl, ?_⟩
        apply AnyW.pure (i := 14) rfl (by kernel_rfl) rfl rfl
        · intro w' K hK
          go_wp2
          exact hK
        · rfl
        apply AnyW.done (by kernel_rfl)
        go_wp2
        go_roundw
        case rel => exact ⟨3, { d with c := (d.c + 18446744073709551616 - y.c - c) % 18446744073709551616 }, bw, by omega, by go_num, rfl, by rw [← Hbw.out]; split <;> omega, ⟨hd.out.1, hd.out.2.1, Nat.mod_lt _ (by decide), hd.out.2.2.2⟩, by have h_ := SubInv.step2 hI.out hd.out Hy.out hc; rw [Hbw.out] at h_; exact h_, H5⟩
        case measure => simp [intOf]
      · obtain ⟨bw, hbw⟩ : ∃ bw : Nat, (if d.d < y.d + c then 1 else 0) = bw := ⟨_, rfl⟩
        have Hbw := Lib.hid hbw
        clear hbw
        go_wp2
        refine AnyZ.start [13] (by kernel_rfl) rfl ?_
        apply AnyZ.pure (i := 0) rfl (by kernel_rfl) rfl rfl
        · intro w' K hK
          go_wp2
          exact hK
        · rfl
        apply AnyZ.pure (i := 1) rfl (by kernel_rfl) rfl rfl
        · intro w' K hK
          go_wp2
          exact hK
        · rfl
        apply AnyZ.pure (i := 2) rfl (by kernel_rfl) rfl rfl
        · intro w' K hK
          go_wp2
          exact hK
        · rfl
        apply AnyZ.take (i := 3) rfl (by kernel_rfl) (by kernel_rfl) rfl
        · intro w' hC K hK
          have co := (cell4 (h3.out.below hC).2.1).2.2.2
          go_wp2
          exact hK
        · rfl
        apply AnyZ.pure (i := 4) rfl (by kernel_rfl) rfl rfl
        · intro w' K hK
          go_wp2
          exact hK
        · rfl
        apply AnyZ.pure (i := 5) rfl (by kernel_rfl) rfl rfl
        · intro w' K hK
          go_wp2
          exact hK
        · rfl
        apply AnyZ.take (i := 6) rfl (by kernel_rfl) (by kernel_rfl) rfl
        · intro w' hC K hK
          have co := (cell4 (h3.out.below hC).2.2.1).2.2.2
          go_wp2
          exact hK
        · rfl
        apply AnyZ.pure (i := 7) rfl (by kernel_rfl) rfl rfl
        · intro w' K hK
          go_wp2
          exact hK
        · rfl
        apply AnyZ.pure (i := 8) rfl (by kernel_rfl) rfl rfl
        · intro w' K hK
          have hrun := run_Sub64 d.d y.d c hc w'
          rw [Hbw.out] at hrun
          go_wp2
          exact hK
        · rfl
        apply AnyZ.pure (i := 9) rfl (by kernel_rfl) rfl rfl
        · intro w' K hK
          go_wp2
          exact hK
        · rfl
        apply AnyZ.pure (i := 10) rfl (by kernel_rfl) rfl rfl
        · intro w' K hK
          go_wp2
          exact hK
        · rfl
        apply AnyZ.pure (i := 11) rfl (by kernel_rfl) rfl rfl
        · intro w' K hK
          go_wp2
          exact hK
        · rfl
        apply AnyZ.pure (i := 12) rfl (by kernel_rfl) rfl rfl
        · intro w' K hK
          go_wp2
          exact hK
        · rfl
        apply AnyZ.soloW (i := 13) rfl (by kernel_rfl)
        intro w4 hC4
        have h4 := h3.out.below hC4
        have co := (cell4 h4.2.1).2.2.2
        have hfz : w4.frozen? ⟨w.heap.size, 3, none⟩ = false := by simp [World.frozen?, h4.2.1]
        have h5 := h4.set (i := 3) (v := .int .u64 (((d.d + 18446744073709551616 - y.d - c) % 18446744073709551616 : Nat) : Int)) (d' := { d with d := (d.d + 18446744073709551616 - y.d - c) % 18446744073709551616 }) rfl
        have H5 := Lib.hid h5
        clear h5 h4
        go_wp2
        refine ⟨rfl, ?_⟩
        apply AnyW.pure (i := 14) rfl (by kernel_rfl) rfl rfl
        · intro w' K hK
          go_wp2
          exact hK
        · rfl
        apply AnyW.done (by kernel_rfl)
        go_wp2
        go_roundw
        case rel => exact ⟨4, { d with d := (d.d + 18446744073709551616 - y.d - c) % 18446744073709551616 }, bw, by omega, by go_num, rfl, by rw [← Hbw.out]; split <;> omega, ⟨hd.out.1, hd.out.2.1, hd.out.2.2.1, Nat.mod_lt _ (by decide)⟩, by have h_ := SubInv.step3 hI.out hd.out Hy.out hc; rw [Hbw.out] at h_; exact h_, H5⟩
        case measure => simp [intOf]
    · obtain rfl : k = 4 := by omega
      obtain ⟨hb, h1, h2, h4⟩ := h3.out
      obtain ⟨e0, e1, e2, e3⟩ := cell4 h1
      obtain ⟨z0, z1, z2, z3⟩ := cell4 h4
      have hfz : ∀ i, wr.frozen? ⟨w.heap.size + 1 + 1, i, none⟩ = false := fun i => by simp [World.frozen?, h4]
      have Hbl := Lib.hid hb
      have Hld := Lib.hid (ret4 (d := d) h4)
      clear hb h1 h2 h4 h3
      go_wp2
      have hld := Hld.out
      refine bodyPost_ret (v := .tuple #[.agg d.cs, .int .u64 (c : Int)]) (by simp [results, Tryz.results219, asAddr, hld]) rfl ?_
      exact ⟨d, c, rfl, hd.out, hc, hI.out, (((Hbl.out.setCell (p := ⟨w.heap.size + 1 + 1, 0, none⟩) (by simp; omega) _).setCell (p := ⟨w.heap.size + 1 + 1, 1, none⟩) (by simp; omega) _).setCell (p := ⟨w.heap.size + 1 + 1, 2, none⟩) (by simp; omega) _).setCell (p := ⟨w.heap.size + 1 + 1, 3, none⟩) (by simp; omega) _⟩
end Go.Proofs.YtbcpmnnlhdgbhaaGreatDoor.Sc

namespace Go.Proofs.YtbcpmnnlhdgbhaaGreatDoor.Sc
open Go.RowKit
def ordW : W4 := ⟨6346243789798364141, 1503914060200516822, 0, 1152921504606846976⟩
def ordN : Nat := 7237005577332262213973186563042994240857116359379907606001950938285454250989
theorem ordW_ok : ordW.ok := ⟨by decide, by decide, by decide, by decide⟩
theorem ordW_val : ordW.val = ordN := by decide
/-- The order lies where it was laid. -/
def Ord (w : World) : Prop := 2 < w.heap.size ∧ w.cell? ⟨2, 0, none⟩ = some (.int .u64 6346243789798364141) ∧ w.cell? ⟨2, 1, none⟩ = some (.int .u64 1503914060200516822) ∧ w.cell? ⟨2, 2, none⟩ = some (.int .u64 0) ∧ w.cell? ⟨2, 3, none⟩ = some (.int .u64 1152921504606846976)
theorem Ord.below {w w' : World} (h : Ord w) (hb : Below w.heap.size w w') : Ord w' := by
  obtain ⟨h0, h1, h2, h3, h4⟩ := h
  exact ⟨Nat.lt_of_lt_of_le h0 hb.size, (hb.cell (p := ⟨2, 0, none⟩) h0).trans h1, (hb.cell (p := ⟨2, 1, none⟩) h0).trans h2, (hb.cell (p := ⟨2, 2, none⟩) h0).trans h3, (hb.cell (p := ⟨2, 3, none⟩) h0).trans h4⟩
def lessN (n : Nat) : Nat := if ordN ≤ n then n - ordN else n
def NumPost (n : Nat) (w : World) (e : Ending) (w' : World) : Prop := ∃ d : W4, e = .returned (.agg d.cs) ∧ d.ok ∧ d.val = n ∧ Below w.heap.size w w'
theorem W4.val_lt {x : W4} (h : x.ok) : x.val < 115792089237316195423570985008687907853269984665640564039457584007913129639936 := by
  unfold W4.ok at h
  unfold W4.val
  omega
theorem below4 {B b : Nat} {a w : World} {v0 v1 v2 v3 : Value} (h : Below B a w) (hb : B ≤ b) : Below B a ((((w.setCell ⟨b, 0, none⟩ v0).setCell ⟨b, 1, none⟩ v1).setCell ⟨b, 2, none⟩ v2).setCell ⟨b, 3, none⟩ v3) :=
  (((h.setCell (p := ⟨b, 0, none⟩) hb _).setCell (p := ⟨b, 1, none⟩) hb _).setCell (p := ⟨b, 2, none⟩) hb _).setCell (p := ⟨b, 3, none⟩) hb _
theorem lt_of_heap {w : World} {b : Nat} {o : Obj} (h : w.heap[b]? = some o) : b < w.heap.size := by
  rcases Nat.lt_or_ge b w.heap.size with h' | h'
  · exact h'
  · rw [Array.getElem?_eq_none h'] at h; cases h
theorem lessN_of {x d : W4} {c : Nat} (hx : x.ok) (hd : d.ok) (hc : c ≤ 1) (hv : x.val + c * 115792089237316195423570985008687907853269984665640564039457584007913129639936 = d.val + ordW.val) :
    (c = 0 → d.val = lessN x.val) ∧ (c ≠ 0 → x.val = lessN x.val) := by
  have h1 := x.val_lt hx
  have h2 := d.val_lt hd
  rw [ordW_val] at hv
  unfold lessN
  unfold ordN at *
  refine ⟨fun h => ?_, fun h => ?_⟩
  · subst h
    rw [if_pos (by omega)]
    omega
  · obtain rfl : c = 1 := by omega
    rw [if_neg (by omega)]
set_option maxRecDepth 100000 in
set_option maxHeartbeats 1000000 in
theorem less_any (x : W4) (hx : x.ok) (w : World) (ho : Ord w) : Calls Tryz.prog 183 #[.agg x.cs] w (NumPost (lessN x.val) w) := by
  have hz35 : ∀ w, (zeroValue 294).run Tryz.prog w = .ok (.agg #[.int .u64 0, .int .u64 0, .int .u64 0, .int .u64 0]) w := fun w => by kernel_rfl
  have hB : Below w.heap.size w ((w.alloc (.cells x.cs 294)).alloc (.cells #[.int .u64 0, .int .u64 0, .int .u64 0, .int .u64 0] 294)) := ((Below.refl _ _).alloc (Nat.le_refl _) _).alloc (by simp) _
  obtain ⟨_, o0, o1, o2, o3⟩ := ho.below hB
  have hX : ((w.alloc (.cells x.cs 294)).alloc (.cells #[.int .u64 0, .int .u64 0, .int .u64 0, .int .u64 0] 294)).heap[w.heap.size]? = some (.cells x.cs 294 (0, 0)) := by
    rw [Below.heap_alloc _ _ _ (by simp)]; exact heap_alloc_new w _
  have hZ : ((w.alloc (.cells x.cs 294)).alloc (.cells #[.int .u64 0, .int .u64 0, .int .u64 0, .int .u64 0] 294)).heap[w.heap.size + 1]? = some (.cells (W4.mk 0 0 0 0).cs 294 (0, 0)) := by
    rw [show w.heap.size + 1 = (w.alloc (.cells x.cs 294)).heap.size from by simp]
    exact heap_alloc_new _ _
  obtain ⟨e0, e1, e2, e3⟩ := cell4 hX
  have HX := Lib.hid hX
  have HZ := Lib.hid hZ
  have HB := Lib.hid hB
  have Hx := Lib.hid hx
  clear hX hZ hB ho hx
  go_enter Tryz.func183, Tryz.ntmps183
  go_wp2_with (go_at_call 219; go_must (refine (sub_any x ordW Hx.out ordW_ok _).mono ?_; rintro e w2 ⟨d, c, rfl, hd, hc, hv, hb⟩; rw [show d.cs = #[.int .u64 d.a, .int .u64 d.b, .int .u64 d.c, .int .u64 d.d] from rfl]; have h2X := (hb.block _ (lt_of_heap HX.out)).trans HX.out; have h2Z := (hb.block _ (lt_of_heap HZ.out)).trans HZ.out; have Hd := Lib.hid hd; have Hv := Lib.hid (lessN_of Hx.out hd hc hv); have Hb2 := Lib.hid (HB.out.trans (hb.mono HB.out.size)); have H3Z := Lib.hid (((Below.heap_alloc w2 (.cells #[.int .u64 d.a, .int .u64 d.b, .int .u64 d.c, .int .u64 d.d] 294) _ (lt_of_heap h2Z))).trans h2Z); have h3X := (((Below.heap_alloc w2 (.cells #[.int .u64 d.a, .int .u64 d.b, .int .u64 d.c, .int .u64 d.d] 294) _ (lt_of_heap h2X))).trans h2X); obtain ⟨f0, f1, f2, f3⟩ := cell4 h3X; obtain ⟨z0, z1, z2, z3⟩ := cell4 H3Z.out; have hfz : ∀ i, (w2.alloc (.cells #[.int .u64 d.a, .int .u64 d.b, .int .u64 d.c, .int .u64 d.d] 294)).frozen? ⟨w.heap.size + 1, i, none⟩ = false := (fun i => by have h_ := H3Z.out; simp only [World.frozen?, h_]; rfl); clear h2X h2Z hd hv hb h3X))
  · rename_i h0
    have hld := ret4 (d := d) H3Z.out
    refine bodyPost_ret (v := .agg d.cs) (by simp [results, Tryz.results183, asAddr, hld]) rfl ?_
    exact ⟨d, rfl, Hd.out, Hv.out.1 (by simpa using h0), below4 (Hb2.out.alloc Hb2.out.size _) (by omega)⟩
  · rename_i h0
    have hld := ret4 (d := x) H3Z.out
    refine bodyPost_ret (v := .agg x.cs) (by simp [results, Tryz.results183, asAddr, hld]) rfl ?_
    exact ⟨x, rfl, Hx.out, Hv.out.2 (by simpa using h0), below4 (Hb2.out.alloc Hb2.out.size _) (by omega)⟩
end Go.Proofs.YtbcpmnnlhdgbhaaGreatDoor.Sc
