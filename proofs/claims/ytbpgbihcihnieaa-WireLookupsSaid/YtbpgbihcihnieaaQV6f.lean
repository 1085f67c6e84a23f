/- The texts V6f V6g of this work, merged by wip/merge.py. No conditions. -/
import Derived.Test.YtbpgbihcihnieaaQV5
import Derived.Test.YtbpgbihcihnieaaQV6b
import Derived.Test.YtbpgbihcihnieaaQV6d
namespace Go.Proofs.Ytbpgbihcihnieaa
open Go.RowKit
set_option maxRecDepth 100000 in
set_option maxHeartbeats 4000000 in
theorem rDR_e4 (A : Option Addr) (c : Nat) (b : List UInt8) (w : World) (hr : Reads w w.heap.size 1 A b.length (bvs b)) (hc : b.length ≤ c) (hm : b.length ≤ 140737488355328) (x y f1 f2 f3 f4 f5 f6 : List UInt8) (hD : rootD b = none) (h1 : openV b signedW 2 = some [x, y]) (hy : y.length = 64) (h2 : openV x rootW 6 = some [f1, f2, f3, f4, f5, f6]) (l1 : f1.length = 8) (l2 : f2.length = 8) (l3 : f3.length = 8) (l4 : f4.length = 32) (l5 : ¬ f5.length = 32) : Calls Try.prog 28 #[.slice A b.length c] w (RootPost b w) := by
  obtain ⟨Z, hZ⟩ : ∃ Z : Array Value, Z = rootZ.cs := ⟨_, rfl⟩
  have hz := hz47
  rw [← hZ] at hz
  have HZ := Lib.hid hZ
  have HZz : Hid (Z.size = 163) := by show _ = _; rw [hZ]; decide
  have F : Hid (Below w.heap.size w (w.alloc (.cells Z 47)) ∧ (w.alloc (.cells Z 47)).heap[w.heap.size]? = some (.cells Z 47 (0, 0))) := ⟨(Below.refl _ _).alloc (Nat.le_refl _) _, heap_alloc_new _ _⟩
  have R0 : Hid (Reads (w.alloc (.cells Z 47)) (w.alloc (.cells Z 47)).heap.size 1 A b.length (bvs b)) := (hr.keep fun _ hp => F.out.1.cell hp).more F.out.1.size
  have Hc := Lib.hid hc
  have Hm := Lib.hid hm
  clear hr hc hm hZ
  have XL := Lib.hid (openV_le h1 x (by simp))
  have HD := Lib.hid hD
  have H1 := Lib.hid h1
  have H2 := Lib.hid h2
  have Hy64 := Lib.hid hy
  have hy' : ((y.length : Int) == 64) = true := by simp; omega
  obtain ⟨zs, hzs⟩ : ∃ zs : Array Value, zs = (bvs (List.replicate 32 0)).toArray := ⟨_, rfl⟩
  have hz32 := zeroRow32
  rw [← hzs] at hz32
  have ZS : Hid (zs.size = 32) := by show _ = _; rw [hzs]; simp [bvs_length]
  have FL1 := Lib.hid (openV_le h2 f1 (by simp))
  have FL2 := Lib.hid (openV_le h2 f2 (by simp))
  have FL3 := Lib.hid (openV_le h2 f3 (by simp))
  have FL4 := Lib.hid (openV_le h2 f4 (by simp))
  have FL5 := Lib.hid (openV_le h2 f5 (by simp))
  have FL6 := Lib.hid (openV_le h2 f6 (by simp))
  have L1 := Lib.hid l1
  have L2 := Lib.hid l2
  have L3 := Lib.hid l3
  have L4 := Lib.hid l4
  have L5 := Lib.hid l5
  clear hD h1 h2 hzs hy l1 l2 l3 l4 l5
  have TP0 : Hid True := trivial
  have TR0 : Hid True := trivial
  have TH0 : Hid True := trivial
  go_enter Try.func28, Try.ntmps28
  go_wp2_with (first
    | (go_at_call 54; have hx_ := TP1; go_must (refine (rparts_any Ax cx 6 x rootW 7 rfl (by decide) w1 (KX.out w1 (Below.refl _ _)).2 CX.out XL.out).mono ?_; rintro e w2 ⟨v, rfl, ho, hb⟩; rw [H2.out]; rw [(openV_list H2.out).1] at ho; obtain ⟨A2, c2, rfl, hc2, hl2⟩ := ho.lists; have B2 := Lib.hid (B1.out.trans (hb.mono B1.out.size)); have B12 := Lib.hid hb; have ZK2 := Lib.hid (heap_below ZK.out hb); rw [show (some [f1, f2, f3, f4, f5, f6]).isSome = true from rfl, show ([rootW, f1, f2, f3, f4, f5, f6] : List (List UInt8)).length = 7 from rfl]; obtain ⟨b2, o2, rfl, hb2, hit⟩ := lists_at hl2 (by simp); obtain ⟨A_1, c_1, hc_1, k_1⟩ : ItmAt w2 b2 (o2 + 1) f1 := hit 1 (by simp); have K1 := Lib.hid k_1; obtain ⟨A_2, c_2, hc_2, k_2⟩ : ItmAt w2 b2 (o2 + 2) f2 := hit 2 (by simp); have K2 := Lib.hid k_2; obtain ⟨A_3, c_3, hc_3, k_3⟩ : ItmAt w2 b2 (o2 + 3) f3 := hit 3 (by simp); have K3 := Lib.hid k_3; obtain ⟨A_4, c_4, hc_4, k_4⟩ : ItmAt w2 b2 (o2 + 4) f4 := hit 4 (by simp); have K4 := Lib.hid k_4; obtain ⟨A_5, c_5, hc_5, k_5⟩ : ItmAt w2 b2 (o2 + 5) f5 := hit 5 (by simp); have K5 := Lib.hid k_5; obtain ⟨A_6, c_6, hc_6, k_6⟩ : ItmAt w2 b2 (o2 + 6) f6 := hit 6 (by simp); have K6 := Lib.hid k_6; have D2 : Hid (Below w2.heap.size w2 (w2.alloc (.cells Z 47))) := (Below.refl _ _).alloc (Nat.le_refl _) _; have M2 : Hid ((w2.alloc (.cells Z 47)).heap[w2.heap.size]? = some (.cells Z 47 (0, 0))) := heap_alloc_new _ _; have ce1 := (K1.out _ D2.out).1; have ZK := ZK2; clear ho hb hc2 hl2 hit hb2 TP1 hx_ k_1 hc_1 k_2 hc_2 k_3 hc_3 k_4 hc_4 k_5 hc_5 k_6 hc_6))
    | (go_at_call 54; have hx_ := TP0; go_must (refine (rparts_any A c 2 b signedW 3 rfl (by decide) _ R0.out Hc.out Hm.out).mono ?_; rintro e w1 ⟨v, rfl, ho, hb⟩; rw [H1.out]; rw [(openV_list H1.out).1] at ho; obtain ⟨A1, c1, rfl, hc1, hl1⟩ := ho.lists; have B1 := Lib.hid (F.out.1.trans (hb.mono F.out.1.size)); have ZK := Lib.hid (heap_below F.out.2 hb); rw [show (some [x, y]).isSome = true from rfl, show ([signedW, x, y] : List (List UInt8)).length = 3 from rfl]; obtain ⟨b1, o1, rfl, hb1, hit⟩ := lists_at hl1 (by simp); obtain ⟨Ax, cx, hcx, kx⟩ : ItmAt w1 b1 (o1 + 1) x := hit 1 (by simp); obtain ⟨Ay, cy, hcy, ky⟩ : ItmAt w1 b1 (o1 + 2) y := hit 2 (by simp); have KX := Lib.hid kx; have KY := Lib.hid ky; have CX := Lib.hid hcx; have cey := (KY.out w1 (Below.refl _ _)).1; have cex := (KX.out w1 (Below.refl _ _)).1; have LB1 := Lib.hid hb1; have TP1 := hx_; clear ho hb hc1 hl1 hit hcx kx hcy ky hb1 TP0 hx_))
    | (go_at_call 22; have hx_ := TR2; go_must (refine (rReadNum_any A_3 c_3 _ f3 _ (K3.out _ D4.out).2 FL3.out).mono ?_; rintro e w' ⟨rfl, q, rfl⟩; rw [numE_yes L3.out]; obtain ⟨w5, hw⟩ : ∃ w5, w5 = (w4).drewN q := ⟨_, rfl⟩; rw [← hw]; have D5 : Hid (Below w2.heap.size w2 w5) := (by show Below _ _ _; rw [hw]; exact below_drewN D4.out q); have M5 : Hid (w5.heap[w2.heap.size]? = some (.cells Z 47 (0, 0))) := (by show _ = _; rw [hw]; exact M4.out); have ce4 := (K4.out w5 D5.out).1; have TR3 := hx_; clear hw TR2 hx_))
    | (go_at_call 22; have hx_ := TR1; go_must (refine (rReadNum_any A_2 c_2 _ f2 _ (K2.out _ D3.out).2 FL2.out).mono ?_; rintro e w' ⟨rfl, q, rfl⟩; rw [numE_yes L2.out]; obtain ⟨w4, hw⟩ : ∃ w4, w4 = (w3).drewN q := ⟨_, rfl⟩; rw [← hw]; have D4 : Hid (Below w2.heap.size w2 w4) := (by show Below _ _ _; rw [hw]; exact below_drewN D3.out q); have M4 : Hid (w4.heap[w2.heap.size]? = some (.cells Z 47 (0, 0))) := (by show _ = _; rw [hw]; exact M3.out); have ce3 := (K3.out w4 D4.out).1; have TR2 := hx_; clear hw TR1 hx_))
    | (go_at_call 22; have hx_ := TR0; go_must (refine (rReadNum_any A_1 c_1 _ f1 _ (K1.out _ D2.out).2 FL1.out).mono ?_; rintro e w' ⟨rfl, q, rfl⟩; rw [numE_yes L1.out]; obtain ⟨w3, hw⟩ : ∃ w3, w3 = ((w2.alloc (.cells Z 47))).drewN q := ⟨_, rfl⟩; rw [← hw]; have D3 : Hid (Below w2.heap.size w2 w3) := (by show Below _ _ _; rw [hw]; exact below_drewN D2.out q); have M3 : Hid (w3.heap[w2.heap.size]? = some (.cells Z 47 (0, 0))) := (by show _ = _; rw [hw]; exact M2.out); have ce2 := (K2.out w3 D3.out).1; have TR1 := hx_; clear hw TR0 hx_))
    | (go_at_call 55; have hx_ := TH2; go_must (refine (rHash_any A_6 _ c_6 f6 rfl _ (K6.out _ D7.out).2).mono ?_; rintro e w8 ⟨y6, hyl, hyx, rfl, hb⟩; obtain ⟨g6, hg⟩ : ∃ g6 : Bool, g6 = decide (f6.length = 32) := ⟨_, rfl⟩; rw [← hg]; clear hg; obtain ⟨s6, hs⟩ : ∃ s6, s6 = (bvs y6).toArray := ⟨_, rfl⟩; rw [← hs]; have S6 := Lib.hid (And.intro hs (And.intro hyl hyx)); have Sz6 : Hid (s6.size = 32) := (by show _ = _; rw [hs]; simp [bvs_length, hyl]); have RN6 := Lib.hid (row_new w8 zs s6 44); have D8 : Hid (Below w2.heap.size w2 ((w8.alloc (.cells zs 44)).setRow w8.heap.size s6)) := D7.out.trans ((hb.trans (RN6.out.1.mono hb.size)).mono D7.out.size); have M8 := Lib.hid (heap_below M7.out (hb.trans (RN6.out.1.mono hb.size))); have P6_8 := Lib.hid RN6.out.2.1; have P4_8 := Lib.hid (heap_below P4_7.out ((hb.trans ((row_new w8 zs s6 44).1.mono hb.size)))); have P5_8 := Lib.hid (heap_below P5_7.out ((hb.trans ((row_new w8 zs s6 44).1.mono hb.size)))); have AN6 := Lib.hid (heap_alloc_new w8 (.cells zs 44)); have ZK8 := Lib.hid (heap_below ZK.out D8.out); have TH3 := hx_; clear hs hyl hyx hb TH2 hx_))
    | (go_at_call 55; have hx_ := TH1; go_must (refine (rHash_any A_5 _ c_5 f5 rfl _ (K5.out _ D6.out).2).mono ?_; rintro e w7 ⟨y5, hyl, hyx, rfl, hb⟩; rw [decide_eq_false L5.out]; obtain ⟨s5, hs⟩ : ∃ s5, s5 = (bvs y5).toArray := ⟨_, rfl⟩; rw [← hs]; have S5 := Lib.hid (And.intro hs (And.intro hyl hyx)); have Sz5 : Hid (s5.size = 32) := (by show _ = _; rw [hs]; simp [bvs_length, hyl]); have RN5 := Lib.hid (row_new w7 zs s5 44); have D7 : Hid (Below w2.heap.size w2 ((w7.alloc (.cells zs 44)).setRow w7.heap.size s5)) := D6.out.trans ((hb.trans (RN5.out.1.mono hb.size)).mono D6.out.size); have M7 := Lib.hid (heap_below M6.out (hb.trans (RN5.out.1.mono hb.size))); have P5_7 := Lib.hid RN5.out.2.1; have P4_7 := Lib.hid (heap_below P4_6.out ((hb.trans ((row_new w7 zs s5 44).1.mono hb.size)))); have AN5 := Lib.hid (heap_alloc_new w7 (.cells zs 44)); have ce6 := (K6.out _ D7.out).1; have TH2 := hx_; clear hs hyl hyx hb TH1 hx_))
    | (go_at_call 55; have hx_ := TH0; go_must (refine (rHash_any A_4 _ c_4 f4 rfl _ (K4.out _ D5.out).2).mono ?_; rintro e w6 ⟨y4, hyl, hyx, rfl, hb⟩; rw [decide_eq_true L4.out]; obtain ⟨s4, hs⟩ : ∃ s4, s4 = (bvs y4).toArray := ⟨_, rfl⟩; rw [← hs]; have S4 := Lib.hid (And.intro hs (And.intro hyl hyx)); have Sz4 : Hid (s4.size = 32) := (by show _ = _; rw [hs]; simp [bvs_length, hyl]); have RN4 := Lib.hid (row_new w6 zs s4 44); have D6 : Hid (Below w2.heap.size w2 ((w6.alloc (.cells zs 44)).setRow w6.heap.size s4)) := D5.out.trans ((hb.trans (RN4.out.1.mono hb.size)).mono D5.out.size); have M6 := Lib.hid (heap_below M5.out (hb.trans (RN4.out.1.mono hb.size))); have P4_6 := Lib.hid RN4.out.2.1; have AN4 := Lib.hid (heap_alloc_new w6 (.cells zs 44)); have ce5 := (K5.out _ D6.out).1; have TH1 := hx_; clear hs hyl hyx hb TH0 hx_))
    | (refine wpList_store_row rfl _ _ _ rfl w6.heap.size s4 rfl rfl 44 zs (by with_reducible exact AN4.out) (by rw [Sz4.out]; kernel_rfl) (by rw [Sz4.out, ZS.out]) (by rw [S4.out.1]; exact all_oneCell_toArray (bvs_one _)) ?_)
    | (refine wpList_store_row rfl _ _ _ rfl w7.heap.size s5 rfl rfl 44 zs (by with_reducible exact AN5.out) (by rw [Sz5.out]; kernel_rfl) (by rw [Sz5.out, ZS.out]) (by rw [S5.out.1]; exact all_oneCell_toArray (bvs_one _)) ?_)
    | (refine wpList_store_row rfl _ _ _ rfl w8.heap.size s6 rfl rfl 44 zs (by with_reducible exact AN6.out) (by rw [Sz6.out]; kernel_rfl) (by rw [Sz6.out, ZS.out]) (by rw [S6.out.1]; exact all_oneCell_toArray (bvs_one _)) ?_)
    | (refine wpList_store_row rfl _ _ _ rfl w.heap.size Z rfl rfl 47 Z (by with_reducible exact ZK8.out) (by rw [HZz.out]; kernel_rfl) (by rfl) (by rw [HZ.out]; exact root_one) ?_))
  have B8 := Lib.hid (B2.out.trans (D8.out.mono B2.out.size))
  have hld := ret47r (heap_setRow (cs := Z) ZK8.out) HZz.out
  refine bodyPost_ret (v := .tuple #[.agg Z, .int .i64 2]) (by simp [results, Try.results28, asAddr, hld]) rfl ⟨by rw [(root_no HD.out).1, (root_no HD.out).2, ← HZ.out], ?_⟩
  exact B8.out.trans ((Frm.setRow _ _ _).1.below B8.out.size (by simp))
set_option maxRecDepth 100000 in
set_option maxHeartbeats 4000000 in
theorem rDR_e5 (A : Option Addr) (c : Nat) (b : List UInt8) (w : World) (hr : Reads w w.heap.size 1 A b.length (bvs b)) (hc : b.length ≤ c) (hm : b.length ≤ 140737488355328) (x y f1 f2 f3 f4 f5 f6 : List UInt8) (hD : rootD b = none) (h1 : openV b signedW 2 = some [x, y]) (hy : y.length = 64) (h2 : openV x rootW 6 = some [f1, f2, f3, f4, f5, f6]) (l1 : f1.length = 8) (l2 : f2.length = 8) (l3 : f3.length = 8) (l4 : f4.length = 32) (l5 : f5.length = 32) (l6 : ¬ f6.length = 32) : Calls Try.prog 28 #[.slice A b.length c] w (RootPost b w) := by
  obtain ⟨Z, hZ⟩ : ∃ Z : Array Value, Z = rootZ.cs := ⟨_, rfl⟩
  have hz := hz47
  rw [← hZ] at hz
  have HZ := Lib.hid hZ
  have HZz : Hid (Z.size = 163) := by show _ = _; rw [hZ]; decide
  have F : Hid (Below w.heap.size w (w.alloc (.cells Z 47)) ∧ (w.alloc (.cells Z 47)).heap[w.heap.size]? = some (.cells Z 47 (0, 0))) := ⟨(Below.refl _ _).alloc (Nat.le_refl _) _, heap_alloc_new _ _⟩
  have R0 : Hid (Reads (w.alloc (.cells Z 47)) (w.alloc (.cells Z 47)).heap.size 1 A b.length (bvs b)) := (hr.keep fun _ hp => F.out.1.cell hp).more F.out.1.size
  have Hc := Lib.hid hc
  have Hm := Lib.hid hm
  clear hr hc hm hZ
  have XL := Lib.hid (openV_le h1 x (by simp))
  have HD := Lib.hid hD
  have H1 := Lib.hid h1
  have H2 := Lib.hid h2
  have Hy64 := Lib.hid hy
  have hy' : ((y.length : Int) == 64) = true := by simp; omega
  obtain ⟨zs, hzs⟩ : ∃ zs : Array Value, zs = (bvs (List.replicate 32 0)).toArray := ⟨_, rfl⟩
  have hz32 := zeroRow32
  rw [← hzs] at hz32
  have ZS : Hid (zs.size = 32) := by show _ = _; rw [hzs]; simp [bvs_length]
  have FL1 := Lib.hid (openV_le h2 f1 (by simp))
  have FL2 := Lib.hid (openV_le h2 f2 (by simp))
  have FL3 := Lib.hid (openV_le h2 f3 (by simp))
  have FL4 := Lib.hid (openV_le h2 f4 (by simp))
  have FL5 := Lib.hid (openV_le h2 f5 (by simp))
  have FL6 := Lib.hid (openV_le h2 f6 (by simp))
  have L1 := Lib.hid l1
  have L2 := Lib.hid l2
  have L3 := Lib.hid l3
  have L4 := Lib.hid l4
  have L5 := Lib.hid l5
  have L6 := Lib.hid l6
  clear hD h1 h2 hzs hy l1 l2 l3 l4 l5 l6
  have TP0 : Hid True := trivial
  have TR0 : Hid True := trivial
  have TH0 : Hid True := trivial
  go_enter Try.func28, Try.ntmps28
  go_wp2_with (first
    | (go_at_call 54; have hx_ := TP1; go_must (refine (rparts_any Ax cx 6 x rootW 7 rfl (by decide) w1 (KX.out w1 (Below.refl _ _)).2 CX.out XL.out).mono ?_; rintro e w2 ⟨v, rfl, ho, hb⟩; rw [H2.out]; rw [(openV_list H2.out).1] at ho; obtain ⟨A2, c2, rfl, hc2, hl2⟩ := ho.lists; have B2 := Lib.hid (B1.out.trans (hb.mono B1.out.size)); have B12 := Lib.hid hb; have ZK2 := Lib.hid (heap_below ZK.out hb); rw [show (some [f1, f2, f3, f4, f5, f6]).isSome = true from rfl, show ([rootW, f1, f2, f3, f4, f5, f6] : List (List UInt8)).length = 7 from rfl]; obtain ⟨b2, o2, rfl, hb2, hit⟩ := lists_at hl2 (by simp); obtain ⟨A_1, c_1, hc_1, k_1⟩ : ItmAt w2 b2 (o2 + 1) f1 := hit 1 (by simp); have K1 := Lib.hid k_1; obtain ⟨A_2, c_2, hc_2, k_2⟩ : ItmAt w2 b2 (o2 + 2) f2 := hit 2 (by simp); have K2 := Lib.hid k_2; obtain ⟨A_3, c_3, hc_3, k_3⟩ : ItmAt w2 b2 (o2 + 3) f3 := hit 3 (by simp); have K3 := Lib.hid k_3; obtain ⟨A_4, c_4, hc_4, k_4⟩ : ItmAt w2 b2 (o2 + 4) f4 := hit 4 (by simp); have K4 := Lib.hid k_4; obtain ⟨A_5, c_5, hc_5, k_5⟩ : ItmAt w2 b2 (o2 + 5) f5 := hit 5 (by simp); have K5 := Lib.hid k_5; obtain ⟨A_6, c_6, hc_6, k_6⟩ : ItmAt w2 b2 (o2 + 6) f6 := hit 6 (by simp); have K6 := Lib.hid k_6; have D2 : Hid (Below w2.heap.size w2 (w2.alloc (.cells Z 47))) := (Below.refl _ _).alloc (Nat.le_refl _) _; have M2 : Hid ((w2.alloc (.cells Z 47)).heap[w2.heap.size]? = some (.cells Z 47 (0, 0))) := heap_alloc_new _ _; have ce1 := (K1.out _ D2.out).1; have ZK := ZK2; clear ho hb hc2 hl2 hit hb2 TP1 hx_ k_1 hc_1 k_2 hc_2 k_3 hc_3 k_4 hc_4 k_5 hc_5 k_6 hc_6))
    | (go_at_call 54; have hx_ := TP0; go_must (refine (rparts_any A c 2 b signedW 3 rfl (by decide) _ R0.out Hc.out Hm.out).mono ?_; rintro e w1 ⟨v, rfl, ho, hb⟩; rw [H1.out]; rw [(openV_list H1.out).1] at ho; obtain ⟨A1, c1, rfl, hc1, hl1⟩ := ho.lists; have B1 := Lib.hid (F.out.1.trans (hb.mono F.out.1.size)); have ZK := Lib.hid (heap_below F.out.2 hb); rw [show (some [x, y]).isSome = true from rfl, show ([signedW, x, y] : List (List UInt8)).length = 3 from rfl]; obtain ⟨b1, o1, rfl, hb1, hit⟩ := lists_at hl1 (by simp); obtain ⟨Ax, cx, hcx, kx⟩ : ItmAt w1 b1 (o1 + 1) x := hit 1 (by simp); obtain ⟨Ay, cy, hcy, ky⟩ : ItmAt w1 b1 (o1 + 2) y := hit 2 (by simp); have KX := Lib.hid kx; have KY := Lib.hid ky; have CX := Lib.hid hcx; have cey := (KY.out w1 (Below.refl _ _)).1; have cex := (KX.out w1 (Below.refl _ _)).1; have LB1 := Lib.hid hb1; have TP1 := hx_; clear ho hb hc1 hl1 hit hcx kx hcy ky hb1 TP0 hx_))
    | (go_at_call 22; have hx_ := TR2; go_must (refine (rReadNum_any A_3 c_3 _ f3 _ (K3.out _ D4.out).2 FL3.out).mono ?_; rintro e w' ⟨rfl, q, rfl⟩; rw [numE_yes L3.out]; obtain ⟨w5, hw⟩ : ∃ w5, w5 = (w4).drewN q := ⟨_, rfl⟩; rw [← hw]; have D5 : Hid (Below w2.heap.size w2 w5) := (by show Below _ _ _; rw [hw]; exact below_drewN D4.out q); have M5 : Hid (w5.heap[w2.heap.size]? = some (.cells Z 47 (0, 0))) := (by show _ = _; rw [hw]; exact M4.out); have ce4 := (K4.out w5 D5.out).1; have TR3 := hx_; clear hw TR2 hx_))
    | (go_at_call 22; have hx_ := TR1; go_must (refine (rReadNum_any A_2 c_2 _ f2 _ (K2.out _ D3.out).2 FL2.out).mono ?_; rintro e w' ⟨rfl, q, rfl⟩; rw [numE_yes L2.out]; obtain ⟨w4, hw⟩ : ∃ w4, w4 = (w3).drewN q := ⟨_, rfl⟩; rw [← hw]; have D4 : Hid (Below w2.heap.size w2 w4) := (by show Below _ _ _; rw [hw]; exact below_drewN D3.out q); have M4 : Hid (w4.heap[w2.heap.size]? = some (.cells Z 47 (0, 0))) := (by show _ = _; rw [hw]; exact M3.out); have ce3 := (K3.out w4 D4.out).1; have TR2 := hx_; clear hw TR1 hx_))
    | (go_at_call 22; have hx_ := TR0; go_must (refine (rReadNum_any A_1 c_1 _ f1 _ (K1.out _ D2.out).2 FL1.out).mono ?_; rintro e w' ⟨rfl, q, rfl⟩; rw [numE_yes L1.out]; obtain ⟨w3, hw⟩ : ∃ w3, w3 = ((w2.alloc (.cells Z 47))).drewN q := ⟨_, rfl⟩; rw [← hw]; have D3 : Hid (Below w2.heap.size w2 w3) := (by show Below _ _ _; rw [hw]; exact below_drewN D2.out q); have M3 : Hid (w3.heap[w2.heap.size]? = some (.cells Z 47 (0, 0))) := (by show _ = _; rw [hw]; exact M2.out); have ce2 := (K2.out w3 D3.out).1; have TR1 := hx_; clear hw TR0 hx_))
    | (go_at_call 55; have hx_ := TH2; go_must (refine (rHash_any A_6 _ c_6 f6 rfl _ (K6.out _ D7.out).2).mono ?_; rintro e w8 ⟨y6, hyl, hyx, rfl, hb⟩; rw [decide_eq_false L6.out]; obtain ⟨s6, hs⟩ : ∃ s6, s6 = (bvs y6).toArray := ⟨_, rfl⟩; rw [← hs]; have S6 := Lib.hid (And.intro hs (And.intro hyl hyx)); have Sz6 : Hid (s6.size = 32) := (by show _ = _; rw [hs]; simp [bvs_length, hyl]); have RN6 := Lib.hid (row_new w8 zs s6 44); have D8 : Hid (Below w2.heap.size w2 ((w8.alloc (.cells zs 44)).setRow w8.heap.size s6)) := D7.out.trans ((hb.trans (RN6.out.1.mono hb.size)).mono D7.out.size); have M8 := Lib.hid (heap_below M7.out (hb.trans (RN6.out.1.mono hb.size))); have P6_8 := Lib.hid RN6.out.2.1; have P4_8 := Lib.hid (heap_below P4_7.out ((hb.trans ((row_new w8 zs s6 44).1.mono hb.size)))); have P5_8 := Lib.hid (heap_below P5_7.out ((hb.trans ((row_new w8 zs s6 44).1.mono hb.size)))); have AN6 := Lib.hid (heap_alloc_new w8 (.cells zs 44)); have ZK8 := Lib.hid (heap_below ZK.out D8.out); have TH3 := hx_; clear hs hyl hyx hb TH2 hx_))
    | (go_at_call 55; have hx_ := TH1; go_must (refine (rHash_any A_5 _ c_5 f5 rfl _ (K5.out _ D6.out).2).mono ?_; rintro e w7 ⟨y5, hyl, hyx, rfl, hb⟩; rw [decide_eq_true L5.out]; obtain ⟨s5, hs⟩ : ∃ s5, s5 = (bvs y5).toArray := ⟨_, rfl⟩; rw [← hs]; have S5 := Lib.hid (And.intro hs (And.intro hyl hyx)); have Sz5 : Hid (s5.size = 32) := (by show _ = _; rw [hs]; simp [bvs_length, hyl]); have RN5 := Lib.hid (row_new w7 zs s5 44); have D7 : Hid (Below w2.heap.size w2 ((w7.alloc (.cells zs 44)).setRow w7.heap.size s5)) := D6.out.trans ((hb.trans (RN5.out.1.mono hb.size)).mono D6.out.size); have M7 := Lib.hid (heap_below M6.out (hb.trans (RN5.out.1.mono hb.size))); have P5_7 := Lib.hid RN5.out.2.1; have P4_7 := Lib.hid (heap_below P4_6.out ((hb.trans ((row_new w7 zs s5 44).1.mono hb.size)))); have AN5 := Lib.hid (heap_alloc_new w7 (.cells zs 44)); have ce6 := (K6.out _ D7.out).1; have TH2 := hx_; clear hs hyl hyx hb TH1 hx_))
    | (go_at_call 55; have hx_ := TH0; go_must (refine (rHash_any A_4 _ c_4 f4 rfl _ (K4.out _ D5.out).2).mono ?_; rintro e w6 ⟨y4, hyl, hyx, rfl, hb⟩; rw [decide_eq_true L4.out]; obtain ⟨s4, hs⟩ : ∃ s4, s4 = (bvs y4).toArray := ⟨_, rfl⟩; rw [← hs]; have S4 := Lib.hid (And.intro hs (And.intro hyl hyx)); have Sz4 : Hid (s4.size = 32) := (by show _ = _; rw [hs]; simp [bvs_length, hyl]); have RN4 := Lib.hid (row_new w6 zs s4 44); have D6 : Hid (Below w2.heap.size w2 ((w6.alloc (.cells zs 44)).setRow w6.heap.size s4)) := D5.out.trans ((hb.trans (RN4.out.1.mono hb.size)).mono D5.out.size); have M6 := Lib.hid (heap_below M5.out (hb.trans (RN4.out.1.mono hb.size))); have P4_6 := Lib.hid RN4.out.2.1; have AN4 := Lib.hid (heap_alloc_new w6 (.cells zs 44)); have ce5 := (K5.out _ D6.out).1; have TH1 := hx_; clear hs hyl hyx hb TH0 hx_))
    | (refine wpList_store_row rfl _ _ _ rfl w6.heap.size s4 rfl rfl 44 zs (by with_reducible exact AN4.out) (by rw [Sz4.out]; kernel_rfl) (by rw [Sz4.out, ZS.out]) (by rw [S4.out.1]; exact all_oneCell_toArray (bvs_one _)) ?_)
    | (refine wpList_store_row rfl _ _ _ rfl w7.heap.size s5 rfl rfl 44 zs (by with_reducible exact AN5.out) (by rw [Sz5.out]; kernel_rfl) (by rw [Sz5.out, ZS.out]) (by rw [S5.out.1]; exact all_oneCell_toArray (bvs_one _)) ?_)
    | (refine wpList_store_row rfl _ _ _ rfl w8.heap.size s6 rfl rfl 44 zs (by with_reducible exact AN6.out) (by rw [Sz6.out]; kernel_rfl) (by rw [Sz6.out, ZS.out]) (by rw [S6.out.1]; exact all_oneCell_toArray (bvs_one _)) ?_)
    | (refine wpList_store_row rfl _ _ _ rfl w.heap.size Z rfl rfl 47 Z (by with_reducible exact ZK8.out) (by rw [HZz.out]; kernel_rfl) (by rfl) (by rw [HZ.out]; exact root_one) ?_))
  have B8 := Lib.hid (B2.out.trans (D8.out.mono B2.out.size))
  have hld := ret47r (heap_setRow (cs := Z) ZK8.out) HZz.out
  refine bodyPost_ret (v := .tuple #[.agg Z, .int .i64 2]) (by simp [results, Try.results28, asAddr, hld]) rfl ⟨by rw [(root_no HD.out).1, (root_no HD.out).2, ← HZ.out], ?_⟩
  exact B8.out.trans ((Frm.setRow _ _ _).1.below B8.out.size (by simp))
end Go.Proofs.Ytbpgbihcihnieaa

namespace Go.Proofs.Ytbpgbihcihnieaa
open Go.RowKit
theorem two_of {ls : List (List UInt8)} (h : ls.length = 2) : ∃ x y, ls = [x, y] := by
  match ls, h with
  | [x, y], _ => exact ⟨x, y, rfl⟩
theorem six_of {ls : List (List UInt8)} (h : ls.length = 6) : ∃ a b c d e f, ls = [a, b, c, d, e, f] := by
  match ls, h with
  | [a, b, c, d, e, f], _ => exact ⟨a, b, c, d, e, f, rfl⟩
theorem rootD_a {b : List UInt8} (h : openV b signedW 2 = none) : rootD b = none := by unfold rootD; rw [h]; rfl
theorem rootD_b {b x y : List UInt8} (h : openV b signedW 2 = some [x, y]) (hy : ¬ y.length = 64) : rootD b = none := by
  unfold rootD rootO
  rw [h]
  simp only
  cases rootI (openV x rootW 6) with
  | none => rfl
  | some F => simp only; rw [if_neg hy]
theorem rootD_c {b x y : List UInt8} (h : openV b signedW 2 = some [x, y]) (h2 : openV x rootW 6 = none) : rootD b = none := by
  unfold rootD rootO
  rw [h]
  simp only
  rw [h2]
  rfl
theorem rootD_d {b x y f1 f2 f3 f4 f5 f6 : List UInt8} (h : openV b signedW 2 = some [x, y]) (hy : y.length = 64) (h2 : openV x rootW 6 = some [f1, f2, f3, f4, f5, f6]) (hi : innerOK f1 f2 f3 f4 f5 f6 = true) : rootD b = some ⟨numV f1, numV f2, numV f3, f4, f5, f6, y⟩ := by
  unfold rootD rootO
  rw [h]
  simp only
  rw [h2]
  unfold rootI
  simp only
  rw [if_pos hi]
  simp only
  rw [if_pos hy]
theorem rootD_e {b x y f1 f2 f3 f4 f5 f6 : List UInt8} (h : openV b signedW 2 = some [x, y]) (h2 : openV x rootW 6 = some [f1, f2, f3, f4, f5, f6]) (hi : innerOK f1 f2 f3 f4 f5 f6 = false) : rootD b = none := by
  unfold rootD rootO
  rw [h]
  simp only
  rw [h2]
  unfold rootI
  simp only
  rw [if_neg (by rw [hi]; decide)]
theorem rDecodeRoot_any (A : Option Addr) (c : Nat) (b : List UInt8) (w : World) (hr : Reads w w.heap.size 1 A b.length (bvs b)) (hc : b.length ≤ c) (hm : b.length ≤ 140737488355328) : Calls Try.prog 28 #[.slice A b.length c] w (RootPost b w) := by
  cases h1 : openV b signedW 2 with
  | none => exact rDR_a A c b w hr hc hm (rootD_a h1) h1
  | some ls =>
    obtain ⟨x, y, rfl⟩ := two_of (openV_length h1)
    by_cases hy : y.length = 64
    · cases h2 : openV x rootW 6 with
      | none => exact rDR_c A c b w hr hc hm x y (rootD_c h1 h2) h1 hy h2
      | some ms =>
        obtain ⟨f1, f2, f3, f4, f5, f6, rfl⟩ := six_of (openV_length h2)
        by_cases l1 : f1.length = 8
        · by_cases l2 : f2.length = 8
          · by_cases l3 : f3.length = 8
            · by_cases l4 : f4.length = 32
              · by_cases l5 : f5.length = 32
                · by_cases l6 : f6.length = 32
                  · exact rDR_d A c b w hr hc hm x y f1 f2 f3 f4 f5 f6 (rootD_d h1 hy h2 (by simp [innerOK, l1, l2, l3, l4, l5, l6])) h1 hy h2 l1 l2 l3 l4 l5 l6
                  · exact rDR_e5 A c b w hr hc hm x y f1 f2 f3 f4 f5 f6 (rootD_e h1 h2 (by simp [innerOK, l6])) h1 hy h2 l1 l2 l3 l4 l5 l6
                · exact rDR_e4 A c b w hr hc hm x y f1 f2 f3 f4 f5 f6 (rootD_e h1 h2 (by simp [innerOK, l5])) h1 hy h2 l1 l2 l3 l4 l5
              · exact rDR_e3 A c b w hr hc hm x y f1 f2 f3 f4 f5 f6 (rootD_e h1 h2 (by simp [innerOK, l4])) h1 hy h2 l1 l2 l3 l4
            · exact rDR_e2 A c b w hr hc hm x y f1 f2 f3 f4 f5 f6 (rootD_e h1 h2 (by simp [innerOK, l3])) h1 hy h2 l1 l2 l3
          · exact rDR_e1 A c b w hr hc hm x y f1 f2 f3 f4 f5 f6 (rootD_e h1 h2 (by simp [innerOK, l2])) h1 hy h2 l1 l2
        · exact rDR_e0 A c b w hr hc hm x y f1 f2 f3 f4 f5 f6 (rootD_e h1 h2 (by simp [innerOK, l1])) h1 hy h2 l1
    · exact rDR_b A c b w hr hc hm x y (rootD_b h1 hy) h1 hy
end Go.Proofs.Ytbpgbihcihnieaa
