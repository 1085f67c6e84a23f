/- The reference's DecodeRoot. Printed by wip/genV6.py. No conditions. -/
import Derived.Test.YtbpgbihcihnieaaV6a
namespace Go.Proofs.Ytbpgbihcihnieaa
open Go.RowKit
set_option maxRecDepth 100000 in
set_option maxHeartbeats 4000000 in
theorem rDR_a (A : Option Addr) (c : Nat) (b : List UInt8) (w : World) (hr : Reads w w.heap.size 1 A b.length (bvs b)) (hc : b.length ≤ c) (hm : b.length ≤ 140737488355328) (hD : rootD b = none) (h1 : openV b signedW 2 = none) : Calls Try.prog 28 #[.slice A b.length c] w (RootPost b w) := by
  obtain ⟨Z, hZ⟩ : ∃ Z : Array Value, Z = rootZ.cs := ⟨_, rfl⟩
  have hz := hz47
  rw [← hZ] at hz
  have HZ := Lib.hid hZ
  have HZz : Hid (Z.size = 163) := by show _ = _; rw [hZ]; decide
  have F : Hid (Below w.heap.size w (w.alloc (.cells Z 47)) ∧ (w.alloc (.cells Z 47)).heap[w.heap.size]? = some (.cells Z 47 (0, 0))) := ⟨(Below.refl _ _).alloc (Nat.le_refl _) _, heap_alloc_new _ _⟩
  have R0 : Hid (Reads (w.alloc (.cells Z 47)) (w.alloc (.cells Z 47)).heap.size 1 A b.length (bvs b)) := (hr.keep fun _ hp => F.out.1.cell hp).more F.out.1.size
  have Hc := Lib.hid hc
  have Hm := Lib.hid hm
  clear hr hc hm hZ
  have HD := Lib.hid hD
  have H1 := Lib.hid h1
  clear hD h1
  go_enter Try.func28, Try.ntmps28
  go_wp2_with (first
    | (go_at_call 54; go_must (refine (rparts_any A c 2 b signedW 3 rfl (by decide) _ R0.out Hc.out Hm.out).mono ?_; rintro e w1 ⟨v, rfl, ho, hb⟩; rw [H1.out]; obtain ⟨A1, c1, rfl, hc1, hl1⟩ := ho.lists; have B1 := Lib.hid (F.out.1.trans (hb.mono F.out.1.size)); have ZK := Lib.hid (heap_below F.out.2 hb); rw [show (none : Option (List (List UInt8))).isSome = false from rfl]; clear ho hb hc1 hl1))
    | (refine wpList_store_row rfl _ _ _ rfl w.heap.size Z rfl rfl 47 Z (by with_reducible exact ZK.out) (by rw [HZz.out]; kernel_rfl) (by rfl) (by rw [HZ.out]; exact root_one) ?_))
  have hld := ret47r (heap_setRow (cs := Z) ZK.out) HZz.out
  refine bodyPost_ret (v := .tuple #[.agg Z, .int .i64 2]) (by simp [results, Try.results28, asAddr, hld]) rfl ⟨by rw [(root_no HD.out).1, (root_no HD.out).2, ← HZ.out], ?_⟩
  exact B1.out.trans ((Frm.setRow _ _ _).1.below B1.out.size (by simp))
set_option maxRecDepth 100000 in
set_option maxHeartbeats 4000000 in
theorem rDR_b (A : Option Addr) (c : Nat) (b : List UInt8) (w : World) (hr : Reads w w.heap.size 1 A b.length (bvs b)) (hc : b.length ≤ c) (hm : b.length ≤ 140737488355328) (x y : List UInt8) (hD : rootD b = none) (h1 : openV b signedW 2 = some [x, y]) (hy : ¬ y.length = 64) : Calls Try.prog 28 #[.slice A b.length c] w (RootPost b w) := by
  obtain ⟨Z, hZ⟩ : ∃ Z : Array Value, Z = rootZ.cs := ⟨_, rfl⟩
  have hz := hz47
  rw [← hZ] at hz
  have HZ := Lib.hid hZ
  have HZz : Hid (Z.size = 163) := by show _ = _; rw [hZ]; decide
  have F : Hid (Below w.heap.size w (w.alloc (.cells Z 47)) ∧ (w.alloc (.cells Z 47)).heap[w.heap.size]? = some (.cells Z 47 (0, 0))) := ⟨(Below.refl _ _).alloc (Nat.le_refl _) _, heap_alloc_new _ _⟩
  have R0 : Hid (Reads (w.alloc (.cells Z 47)) (w.alloc (.cells Z 47)).heap.size 1 A b.length (bvs b)) := (hr.keep fun _ hp => F.out.1.cell hp).more F.out.1.size
  have Hc := Lib.hid hc
  have Hm := Lib.hid hm
  clear hr hc hm hZ
  have HD := Lib.hid hD
  have H1 := Lib.hid h1
  have hy' : ((y.length : Int) == 64) = false := by simp; omega
  clear hD h1 hy
  go_enter Try.func28, Try.ntmps28
  go_wp2_with (first
    | (go_at_call 54; go_must (refine (rparts_any A c 2 b signedW 3 rfl (by decide) _ R0.out Hc.out Hm.out).mono ?_; rintro e w1 ⟨v, rfl, ho, hb⟩; rw [H1.out]; rw [(openV_list H1.out).1] at ho; obtain ⟨A1, c1, rfl, hc1, hl1⟩ := ho.lists; have B1 := Lib.hid (F.out.1.trans (hb.mono F.out.1.size)); have ZK := Lib.hid (heap_below F.out.2 hb); rw [show (some [x, y]).isSome = true from rfl, show ([signedW, x, y] : List (List UInt8)).length = 3 from rfl]; obtain ⟨b1, o1, rfl, hb1, hit⟩ := lists_at hl1 (by simp); obtain ⟨Ax, cx, hcx, kx⟩ : ItmAt w1 b1 (o1 + 1) x := hit 1 (by simp); obtain ⟨Ay, cy, hcy, ky⟩ : ItmAt w1 b1 (o1 + 2) y := hit 2 (by simp); have KX := Lib.hid kx; have KY := Lib.hid ky; have CX := Lib.hid hcx; have cey := (KY.out w1 (Below.refl _ _)).1; have cex := (KX.out w1 (Below.refl _ _)).1; have LB1 := Lib.hid hb1; clear ho hb hc1 hl1 hit hcx kx hcy ky hb1))
    | (refine wpList_store_row rfl _ _ _ rfl w.heap.size Z rfl rfl 47 Z (by with_reducible exact ZK.out) (by rw [HZz.out]; kernel_rfl) (by rfl) (by rw [HZ.out]; exact root_one) ?_))
  have hld := ret47r (heap_setRow (cs := Z) ZK.out) HZz.out
  refine bodyPost_ret (v := .tuple #[.agg Z, .int .i64 2]) (by simp [results, Try.results28, asAddr, hld]) rfl ⟨by rw [(root_no HD.out).1, (root_no HD.out).2, ← HZ.out], ?_⟩
  exact B1.out.trans ((Frm.setRow _ _ _).1.below B1.out.size (by simp))
set_option maxRecDepth 100000 in
set_option maxHeartbeats 4000000 in
theorem rDR_c (A : Option Addr) (c : Nat) (b : List UInt8) (w : World) (hr : Reads w w.heap.size 1 A b.length (bvs b)) (hc : b.length ≤ c) (hm : b.length ≤ 140737488355328) (x y : List UInt8) (hD : rootD b = none) (h1 : openV b signedW 2 = some [x, y]) (hy : y.length = 64) (h2 : openV x rootW 6 = none) : Calls Try.prog 28 #[.slice A b.length c] w (RootPost b w) := by
  obtain ⟨Z, hZ⟩ : ∃ Z : Array Value, Z = rootZ.cs := ⟨_, rfl⟩
  have hz := hz47
  rw [← hZ] at hz
  have HZ := Lib.hid hZ
  have HZz : Hid (Z.size = 163) := by show _ = _; rw [hZ]; decide
  have F : Hid (Below w.heap.size w (w.alloc (.cells Z 47)) ∧ (w.alloc (.cells Z 47)).heap[w.heap.size]? = some (.cells Z 47 (0, 0))) := ⟨(Below.refl _ _).alloc (Nat.le_refl _) _, heap_alloc_new _ _⟩
  have R0 : Hid (Reads (w.alloc (.cells Z 47)) (w.alloc (.cells Z 47)).heap.size 1 A b.length (bvs b)) := (hr.keep fun _ hp => F.out.1.cell hp).more F.out.1.size
  have Hc := Lib.hid hc
  have Hm := Lib.hid hm
  clear hr hc hm hZ
  have XL := Lib.hid (openV_le h1 x (by simp))
  have HD := Lib.hid hD
  have H1 := Lib.hid h1
  have H2 := Lib.hid h2
  have hy' : ((y.length : Int) == 64) = true := by simp; omega
  clear hD h1 hy h2
  have TP0 : Hid True := trivial
  go_enter Try.func28, Try.ntmps28
  go_wp2_with (first
    | (go_at_call 54; have hx_ := TP1; go_must (refine (rparts_any Ax cx 6 x rootW 7 rfl (by decide) w1 (KX.out w1 (Below.refl _ _)).2 CX.out XL.out).mono ?_; rintro e w2 ⟨v, rfl, ho, hb⟩; rw [H2.out]; obtain ⟨A2, c2, rfl, hc2, hl2⟩ := ho.lists; have B2 := Lib.hid (B1.out.trans (hb.mono B1.out.size)); have ZK2 := Lib.hid (heap_below ZK.out hb); rw [show (none : Option (List (List UInt8))).isSome = false from rfl]; clear ho hb hc2 hl2 TP1 hx_))
    | (go_at_call 54; have hx_ := TP0; go_must (refine (rparts_any A c 2 b signedW 3 rfl (by decide) _ R0.out Hc.out Hm.out).mono ?_; rintro e w1 ⟨v, rfl, ho, hb⟩; rw [H1.out]; rw [(openV_list H1.out).1] at ho; obtain ⟨A1, c1, rfl, hc1, hl1⟩ := ho.lists; have B1 := Lib.hid (F.out.1.trans (hb.mono F.out.1.size)); have ZK := Lib.hid (heap_below F.out.2 hb); rw [show (some [x, y]).isSome = true from rfl, show ([signedW, x, y] : List (List UInt8)).length = 3 from rfl]; obtain ⟨b1, o1, rfl, hb1, hit⟩ := lists_at hl1 (by simp); obtain ⟨Ax, cx, hcx, kx⟩ : ItmAt w1 b1 (o1 + 1) x := hit 1 (by simp); obtain ⟨Ay, cy, hcy, ky⟩ : ItmAt w1 b1 (o1 + 2) y := hit 2 (by simp); have KX := Lib.hid kx; have KY := Lib.hid ky; have CX := Lib.hid hcx; have cey := (KY.out w1 (Below.refl _ _)).1; have cex := (KX.out w1 (Below.refl _ _)).1; have LB1 := Lib.hid hb1; have TP1 := hx_; clear ho hb hc1 hl1 hit hcx kx hcy ky hb1 TP0 hx_))
    | (refine wpList_store_row rfl _ _ _ rfl w.heap.size Z rfl rfl 47 Z (by with_reducible exact ZK2.out) (by rw [HZz.out]; kernel_rfl) (by rfl) (by rw [HZ.out]; exact root_one) ?_))
  have hld := ret47r (heap_setRow (cs := Z) ZK2.out) HZz.out
  refine bodyPost_ret (v := .tuple #[.agg Z, .int .i64 2]) (by simp [results, Try.results28, asAddr, hld]) rfl ⟨by rw [(root_no HD.out).1, (root_no HD.out).2, ← HZ.out], ?_⟩
  exact B2.out.trans ((Frm.setRow _ _ _).1.below B2.out.size (by simp))
end Go.Proofs.Ytbpgbihcihnieaa
