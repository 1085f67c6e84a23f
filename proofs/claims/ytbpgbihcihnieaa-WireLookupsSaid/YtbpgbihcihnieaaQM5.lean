/- The texts M5a M5b M5c of this work, merged by wip/merge.py. No conditions. -/
import Derived.Test.YtbpgbihcihnieaaQM3
namespace Go.Proofs.Ytbpgbihcihnieaa
open Go.RowKit
/-- A lookup's row under way, in a block of its own behind w7's. -/
structure LB (w7 v : World) (C : Array Value) : Prop where
  below : Below w7.heap.size w7 v
  row : v.heap[w7.heap.size]? = some (.cells C 57 (0, 0))
theorem LB.below_ {w7 v v' : World} {C : Array Value} (h : LB w7 v C) (hb : Below v.heap.size v v') : LB w7 v' C := ⟨h.below.trans (hb.mono h.below.size), heap_below h.row hb⟩
set_option maxRecDepth 100000 in
set_option maxHeartbeats 4000000 in
theorem rDL_ok (A : Option Addr) (c : Nat) (b : List UInt8) (w : World) (hr : Reads w w.heap.size 1 A b.length (bvs b)) (hc : b.length ≤ c) (hm : b.length ≤ 140737488355328) (x a v0 d p n s m : List UInt8) (h1 : openV b lookW 8 = some [x, a, v0, d, p, n, s, m]) (hp : p.length = 80) (hs : s.length = 80) (r : RootV) (hx : rootD x = some r) (hv : v0.length = 8) (hd : d.length % 32 = 0) (hn : nodesOK n = true) (hmm : nodesOK m = true) : Calls Try.prog 36 #[.slice A b.length c] w (LDP b w) := by
  obtain ⟨Z, hZ⟩ : ∃ Z : Array Value, Z = lookZ := ⟨_, rfl⟩
  have hz := hz57
  rw [← hZ] at hz
  have HZ := Lib.hid hZ
  have HZz : Hid (Z.size = 328) := by show _ = _; rw [hZ]; exact lookC_size rootZ_ok z80_len z80_len
  have HZo : Hid ((Z.all fun x => x.oneCell') = true) := by show _ = _; rw [hZ]; exact look_one
  obtain ⟨Y, hY⟩ : ∃ Y : Array Value, Y = rootZ.cs := ⟨_, rfl⟩
  have hy := hz47
  rw [← hY] at hy
  have HYz : Hid (Y.size = 163) := by show _ = _; rw [hY]; decide
  have F : Hid (Below w.heap.size w (w.alloc (.cells Z 57)) ∧ (w.alloc (.cells Z 57)).heap[w.heap.size]? = some (.cells Z 57 (0, 0))) := ⟨(Below.refl _ _).alloc (Nat.le_refl _) _, heap_alloc_new _ _⟩
  have R0 : Hid (Reads (w.alloc (.cells Z 57)) (w.alloc (.cells Z 57)).heap.size 1 A b.length (bvs b)) := (hr.keep fun _ hp => F.out.1.cell hp).more F.out.1.size
  have Hc := Lib.hid hc
  have Hm := Lib.hid hm
  clear hr hc hm hZ hY
  have H1 := Lib.hid h1
  have L1 := Lib.hid (openV_le2 h1 x (by simp))
  have L2 := Lib.hid (openV_le2 h1 a (by simp))
  have L3 := Lib.hid (openV_le2 h1 v0 (by simp))
  have L4 := Lib.hid (openV_le2 h1 d (by simp))
  have L5 := Lib.hid (openV_le2 h1 p (by simp))
  have L6 := Lib.hid (openV_le2 h1 n (by simp))
  have L7 := Lib.hid (openV_le2 h1 s (by simp))
  have L8 := Lib.hid (openV_le2 h1 m (by simp))
  have HP8 := Lib.hid hp
  have HS8 := Lib.hid hs
  have hpb : ((p.length : Int) != 80) = false := by simp; omega
  have hsb : ((s.length : Int) != 80) = false := by simp; omega
  have HX := Lib.hid (root_yes hx)
  have RXok : Hid (r.ok) := (root_enc_dec hx).2
  obtain ⟨X, hX⟩ : ∃ X : Array Value, X = r.cs := ⟨_, rfl⟩
  have HXX := Lib.hid hX
  have XZ : Hid (X.size = 163) := by show _ = _; rw [hX]; exact root_size RXok.out
  have HRX := Lib.hid hx
  have HV : Hid (numE v0 = 0) := by show _ = _; unfold numE; rw [if_pos hv]
  have HV8 := Lib.hid hv
  have NV : Hid (numV v0 < 18446744073709551616) := numV_lt v0
  obtain ⟨nv, hnv⟩ : ∃ z : Nat, z = numV v0 := ⟨_, rfl⟩
  have HNV : Hid (numV v0 = nv) := hnv.symm
  clear hnv
  have HDD : Hid (decide (d.length % 32 = 0) = true) := by show _ = _; simp [hd]
  have HD32 := Lib.hid hd
  have HN := Lib.hid hn
  have HM2 := Lib.hid hmm
  clear h1 hx hX hp hs hv hd hn hmm
  have T0 : Hid True := trivial
  go_enter Try.func36, Try.ntmps36
  go_wp2_with (first
    | (go_at_call 54; go_must (refine (rparts_any A c 8 b lookW 9 rfl (by decide) _ R0.out Hc.out Hm.out).mono ?_; rintro e w1 ⟨v, rfl, ho, hb⟩; rw [H1.out]; rw [(openV_list H1.out).1] at ho; obtain ⟨A1, c1, rfl, hc1, hl1⟩ := ho.lists; have B1 := Lib.hid (F.out.1.trans (hb.mono F.out.1.size)); have ZK := Lib.hid (heap_below F.out.2 hb); rw [show (some [x, a, v0, d, p, n, s, m]).isSome = true from rfl, show ([lookW, x, a, v0, d, p, n, s, m] : List (List UInt8)).length = 9 from rfl]; obtain ⟨b1, o1, rfl, hb1, hit⟩ := lists_at hl1 (by simp); obtain ⟨A_1, c_1, hc_1, k_1⟩ : ItmAt w1 b1 (o1 + 1) x := hit 1 (by simp); have K1 := Lib.hid k_1; have C1 := Lib.hid hc_1; obtain ⟨A_2, c_2, hc_2, k_2⟩ : ItmAt w1 b1 (o1 + 2) a := hit 2 (by simp); have K2 := Lib.hid k_2; have C2 := Lib.hid hc_2; obtain ⟨A_3, c_3, hc_3, k_3⟩ : ItmAt w1 b1 (o1 + 3) v0 := hit 3 (by simp); have K3 := Lib.hid k_3; have C3 := Lib.hid hc_3; obtain ⟨A_4, c_4, hc_4, k_4⟩ : ItmAt w1 b1 (o1 + 4) d := hit 4 (by simp); have K4 := Lib.hid k_4; have C4 := Lib.hid hc_4; obtain ⟨A_5, c_5, hc_5, k_5⟩ : ItmAt w1 b1 (o1 + 5) p := hit 5 (by simp); have K5 := Lib.hid k_5; have C5 := Lib.hid hc_5; obtain ⟨A_6, c_6, hc_6, k_6⟩ : ItmAt w1 b1 (o1 + 6) n := hit 6 (by simp); have K6 := Lib.hid k_6; have C6 := Lib.hid hc_6; obtain ⟨A_7, c_7, hc_7, k_7⟩ : ItmAt w1 b1 (o1 + 7) s := hit 7 (by simp); have K7 := Lib.hid k_7; have C7 := Lib.hid hc_7; obtain ⟨A_8, c_8, hc_8, k_8⟩ : ItmAt w1 b1 (o1 + 8) m := hit 8 (by simp); have K8 := Lib.hid k_8; have C8 := Lib.hid hc_8; have ce5 := (K5.out w1 (Below.refl _ _)).1; have ce7 := (K7.out w1 (Below.refl _ _)).1; have ce1 := (K1.out w1 (Below.refl _ _)).1; clear ho hb hc1 hl1 hit hb1 k_1 hc_1 k_2 hc_2 k_3 hc_3 k_4 hc_4 k_5 hc_5 k_6 hc_6 k_7 hc_7 k_8 hc_8))
    | (go_at_call 28; go_must (refine (rDecodeRoot_any A_1 c_1 x w1 (K1.out w1 (Below.refl _ _)).2 C1.out (by have h_ := L1.out; omega)).mono ?_; rintro e w2 ⟨rfl, hb⟩; rw [HX.out.1, HX.out.2, ← HXX.out]; have RN := Lib.hid (row_new w2 Y X 47); have AN := Lib.hid (heap_alloc_new w2 (.cells Y 47)); have D2 : Hid (Below w1.heap.size w1 ((w2.alloc (.cells Y 47)).setRow w2.heap.size X)) := hb.trans (RN.out.1.mono hb.size); have P2 := Lib.hid RN.out.2.1; have ce3 := (K3.out _ D2.out).1; clear hb RN))
    | (go_at_call 22; go_must (refine (rReadNum_any A_3 c_3 _ v0 _ (K3.out _ D2.out).2 (by have h_ := L3.out; omega)).mono ?_; rintro e w3 ⟨rfl, q_, hq⟩; have hb : Below ((w2.alloc (.cells Y 47)).setRow w2.heap.size X).heap.size ((w2.alloc (.cells Y 47)).setRow w2.heap.size X) w3 := (by rw [hq]; exact ⟨rfl, rfl, rfl, Nat.le_refl _, fun _ _ => rfl⟩); rw [HV.out, HNV.out]; have D3 := Lib.hid (D2.out.trans (hb.mono D2.out.size)); have P3 := Lib.hid (heap_below P2.out hb); have ce4 := (K4.out _ D3.out).1; clear hq hb))
    | (go_at_call 65; go_must (refine (rHash1_any A_4 c_4 d w3 (K4.out _ D3.out).2 C4.out (by have h_ := L4.out; omega)).mono ?_; rintro e w4 ⟨v, nh, rfl, ho, hb⟩; rw [HDD.out]; rw [if_pos HD32.out] at ho; obtain ⟨Ah, ch, rfl, hch, hrh⟩ := ownR_form ho; have OH4 := Lib.hid (ownR_base ho D3.out.size); have D4 := Lib.hid (D3.out.trans (hb.mono D3.out.size)); have P4 := Lib.hid (heap_below P3.out hb); have ce6 := (K6.out _ D4.out).1; clear ho hb hch hrh))
    | (go_at_call 66; have hx_ := T1; go_must (refine (rreadNodes_any A_8 c_8 m w5 (K8.out _ D5.out).2 C8.out (by have h_ := L8.out; omega)).mono ?_; rintro e w6 ⟨v, rfl, ho, hb⟩; rw [HM2.out]; obtain ⟨Am, cm, rfl, hcm, hrm⟩ := ownR_form ho; have OM6 := Lib.hid (ownR_base ho D5.out.size); have D6 := Lib.hid (D5.out.trans (hb.mono D5.out.size)); have P6 := Lib.hid (heap_below P5.out hb); have OH6 := Lib.hid (ownR_below OH5.out hb); have ON6 := Lib.hid (ownR_below ON5.out hb); have B6 := Lib.hid (B1.out.trans ((D5.out.trans (hb.mono D5.out.size)).mono B1.out.size)); have ZK6 := Lib.hid (heap_below (heap_below ZK.out D5.out) hb); clear T1 hx_ ho hb hcm hrm))
    | (go_at_call 66; have hx_ := T0; go_must (refine (rreadNodes_any A_6 c_6 n w4 (K6.out _ D4.out).2 C6.out (by have h_ := L6.out; omega)).mono ?_; rintro e w5 ⟨v, rfl, ho, hb⟩; rw [HN.out]; obtain ⟨An, cn, rfl, hcn, hrn⟩ := ownR_form ho; have ON5 := Lib.hid (ownR_base ho D4.out.size); have D5 := Lib.hid (D4.out.trans (hb.mono D4.out.size)); have P5 := Lib.hid (heap_below P4.out hb); have OH5 := Lib.hid (ownR_below OH4.out hb); have ce8 := (K8.out _ D5.out).1; have T1 := hx_; clear T0 hx_ ho hb hcn hrn))
    | (refine wpList_store_row rfl _ _ _ rfl w2.heap.size X rfl rfl 47 Y (by with_reducible exact AN.out) (by rw [XZ.out]; kernel_rfl) (by rw [XZ.out, HYz.out]) (by rw [HXX.out]; exact root_one) ?_))
  refine AnyC.startB (fun w' => Below w6.heap.size w6 w') (by kernel_rfl) rfl ?_
  intro w7 hb7 hs7
  clear hs7 ce1 ce3 ce4 ce5 ce6 ce7 ce8 hpb hsb
  have D7 := Lib.hid hb7
  have OH7 := Lib.hid (ownR_below OH6.out hb7)
  have ON7 := Lib.hid (ownR_below ON6.out hb7)
  have OM7 := Lib.hid (ownR_below OM6.out hb7)
  have ZK7 := Lib.hid (heap_below ZK6.out hb7)
  have B7 := Lib.hid (B6.out.trans (hb7.mono B6.out.size))
  have D17 := Lib.hid (D6.out.trans (hb7.mono D6.out.size))
  clear hb7
  have D16 := Lib.hid (fun w' (h : Below w6.heap.size w6 w') => D6.out.trans (h.mono D6.out.size))
  obtain ⟨S0, hS0⟩ : ∃ S0 : Array Value, S0 = lookC r a nv (.slice Ah nh ch) z80 (.slice none 0 0) z80 (.slice none 0 0) := ⟨_, rfl⟩
  have HBU : Hid ((Try.prog).built 57 [(0, .agg X), (1, .string ⟨a.toArray⟩), (2, .int .u64 (nv : Int)), (3, .slice Ah nh ch)] = some S0) := by
    show _ = _
    rw [HXX.out, hS0]
    exact built_look RXok.out
  have S0Z : Hid (S0.size = 328) := by show _ = _; rw [hS0]; exact lookC_size RXok.out z80_len z80_len
  have S0O : Hid ((S0.all fun x => x.oneCell') = true) := by show _ = _; rw [hS0]; exact look_one
  have HS0 := Lib.hid hS0
  clear hS0
  apply AnyC.take (i := 0) rfl (by kernel_rfl) rfl
  · intro w' hC K hK
    refine wpList_load_arr rfl _ _ rfl w2.heap.size 0 rfl X _ (range_row (heap_below P6.out hC)) Try.underlying47 rfl (by rw [XZ.out]; kernel_rfl) ?_
    go_wp2
    exact hK
  · rfl
  apply AnyC.take (i := 1) rfl (by kernel_rfl) rfl
  · intro w' hC K hK
    go_wp2
    exact hK
  · rfl
  apply AnyC.take (i := 2) rfl (by kernel_rfl) rfl
  · intro w' hC K hK
    go_wp2
    exact hK
  · rfl
  apply AnyC.take (i := 3) rfl (by kernel_rfl) rfl
  · intro w' hC K hK
    have cc := (K2.out w' (D16.out w' hC)).1
    go_wp2
    exact hK
  · rfl
  apply AnyC.take (i := 4) rfl (by kernel_rfl) rfl
  · intro w' hC K hK
    have hs_ := run_str8 (K2.out w' (D16.out w' hC)).2 c_2
    go_wp2
    exact hK
  · rfl
  apply AnyC.take (i := 5) rfl (by kernel_rfl) rfl
  · intro w' hC K hK
    go_wp2
    exact hK
  · rfl
  apply AnyC.take (i := 6) rfl (by kernel_rfl) rfl
  · intro w' hC K hK
    go_wp2
    exact hK
  · rfl
  apply AnyC.take (i := 7) rfl (by kernel_rfl) rfl
  · intro w' hC K hK
    refine wpList_build_to rfl _ _ rfl [(0, .agg X), (1, .string ⟨a.toArray⟩), (2, .int .u64 (nv : Int)), (3, .slice Ah nh ch)] rfl S0 (by with_reducible exact HBU.out) ?_
    go_wp2
    exact hK
  · rfl
  apply AnyC.solo (i := 8) rfl (by kernel_rfl) D7.out
  go_wp2
  refine ⟨rfl, ?_⟩
  apply AnyC.solo (i := 9) rfl (by kernel_rfl) (D7.out.alloc D7.out.size _)
  refine wpList_store_row rfl _ _ _ rfl w7.heap.size S0 rfl rfl 57 Z (heap_alloc_new w7 _) (by rw [S0Z.out]; kernel_rfl) (by rw [S0Z.out, HZz.out]) (by exact S0O.out) ?_
  go_wp2
  refine ⟨rfl, ?_⟩
  have RN := row_new w7 Z S0 57
  obtain ⟨w8, hw8⟩ : ∃ w8, w8 = (w7.alloc (.cells Z 57)).setRow w7.heap.size S0 := ⟨_, rfl⟩
  rw [← hw8]
  rw [← hw8] at RN
  have L8_ : Hid (LB w7 w8 (lookC r a nv (.slice Ah nh ch) z80 (.slice none 0 0) z80 (.slice none 0 0))) := ⟨RN.1, by rw [← HS0.out]; exact RN.2.1⟩
  have D8 := Lib.hid (D7.out.trans (RN.1.mono D7.out.size))
  clear hw8 RN
  refine AnyC.done D8.out (by kernel_rfl) ?_
  go_wp2
  refine AnyC.startB (fun w' => Below w7.heap.size w7 w') (by kernel_rfl) rfl ?_
  intro w9 hb9 hs9
  clear hs9
  have L9_ := Lib.hid (L8_.out.below_ hb9)
  clear hb9
  have D1_ := Lib.hid (fun w' (h : Below w7.heap.size w7 w') => D17.out.trans (h.mono D17.out.size))
  apply AnyC.take (i := 0) rfl (by kernel_rfl) rfl
  · intro w' hC K hK
    go_wp2
    exact hK
  · rfl
  apply AnyC.take (i := 1) rfl (by kernel_rfl) rfl
  · intro w' hC K hK
    go_wp2
    exact hK
  · rfl
  apply AnyC.take (i := 2) rfl (by kernel_rfl) rfl
  · intro w' hC K hK
    go_wp2
    exact hK
  · rfl
  apply AnyC.take (i := 3) rfl (by kernel_rfl) rfl
  · intro w' hC K hK
    go_wp2
    exact hK
  · rfl
  apply AnyC.take (i := 4) rfl (by kernel_rfl) rfl
  · intro w' hC K hK
    go_wp2
    exact hK
  · rfl
  apply AnyC.take (i := 5) rfl (by kernel_rfl) rfl
  · intro w' hC K hK
    have cc := (K5.out w' (D1_.out w' hC)).1
    go_wp2
    exact hK
  · rfl
  obtain ⟨w10, hcp, hw10, hfr, hsz⟩ := copy_row (off := 166) (n := 80) (c := 80) (c2 := c_5) L9_.out.row (K5.out w9 (D1_.out w9 L9_.out.below)).2 rfl (by rw [lookC_size RXok.out z80_len z80_len]; decide)
  rw [lookC_fp RXok.out z80_len, put80_all HP8.out z80_len] at hw10
  have L10_ : Hid (LB w7 w10 (lookC r a nv (.slice Ah nh ch) p (.slice none 0 0) z80 (.slice none 0 0))) := ⟨L9_.out.below.trans (hfr.below L9_.out.below.size (by simp)), hw10⟩
  clear hw10 hfr hsz D1_
  apply AnyC.solo (i := 6) rfl (by kernel_rfl) L9_.out.below
  go_wp2
  refine ⟨rfl, ?_⟩
  clear hcp
  refine AnyC.done L10_.out.below (by kernel_rfl) ?_
  go_wp2
  refine AnyC.startB (fun w' => Below w7.heap.size w7 w') (by kernel_rfl) rfl ?_
  intro w11 hb11 hs11
  clear hs11
  have L11_ := Lib.hid (L10_.out.below_ hb11)
  clear hb11
  have D1_ := Lib.hid (fun w' (h : Below w7.heap.size w7 w') => D17.out.trans (h.mono D17.out.size))
  apply AnyC.take (i := 0) rfl (by kernel_rfl) rfl
  · intro w' hC K hK
    go_wp2
    exact hK
  · rfl
  apply AnyC.take (i := 1) rfl (by kernel_rfl) rfl
  · intro w' hC K hK
    go_wp2
    exact hK
  · rfl
  apply AnyC.take (i := 2) rfl (by kernel_rfl) rfl
  · intro w' hC K hK
    go_wp2
    exact hK
  · rfl
  apply AnyC.take (i := 3) rfl (by kernel_rfl) rfl
  · intro w' hC K hK
    go_wp2
    exact hK
  · rfl
  apply AnyC.take (i := 4) rfl (by kernel_rfl) rfl
  · intro w' hC K hK
    go_wp2
    exact hK
  · rfl
  apply AnyC.take (i := 5) rfl (by kernel_rfl) rfl
  · intro w' hC K hK
    have cc := (K7.out w' (D1_.out w' hC)).1
    go_wp2
    exact hK
  · rfl
  obtain ⟨w12, hcp, hw12, hfr, hsz⟩ := copy_row (off := 247) (n := 80) (c := 80) (c2 := c_7) L11_.out.row (K7.out w11 (D1_.out w11 L11_.out.below)).2 rfl (by rw [lookC_size RXok.out HP8.out z80_len]; decide)
  rw [lookC_sp RXok.out HP8.out z80_len, put80_all HS8.out z80_len] at hw12
  have L12_ : Hid (LB w7 w12 (lookC r a nv (.slice Ah nh ch) p (.slice none 0 0) s (.slice none 0 0))) := ⟨L11_.out.below.trans (hfr.below L11_.out.below.size (by simp)), hw12⟩
  clear hw12 hfr hsz D1_
  apply AnyC.solo (i := 6) rfl (by kernel_rfl) L11_.out.below
  go_wp2
  refine ⟨rfl, ?_⟩
  clear hcp
  refine AnyC.done L12_.out.below (by kernel_rfl) ?_
  skip
  have A2 := lookC_at (s := a) (v := nv) (D := .slice Ah nh ch) (F := .slice none 0 0) (S := .slice none 0 0) RXok.out HP8.out HS8.out
  have e246 : w12.cell? ⟨w7.heap.size, 246, none⟩ = some (.slice none 0 0) := by rw [cell_of_row _ _ _ _ _ _ L12_.out.row]; exact A2.2.2.2.1
  have f246 := frozen_row L12_.out.row 246
  have L13_ : Hid (LB w7 (w12.setCell ⟨w7.heap.size, 246, none⟩ (.slice An (nodesOf n).length cn)) (lookC r a nv (.slice Ah nh ch) p (.slice An (nodesOf n).length cn) s (.slice none 0 0))) := ⟨L12_.out.below.trans ((Frm.setCell _ _ _ _).below L12_.out.below.size (by simp)), by
    have h_ := heap_setCell_same w12 w7.heap.size 246 _ _ (.slice An (nodesOf n).length cn) L12_.out.row
    rw [(lookC_set (s' := a) (v' := nv) (D' := .slice Ah nh ch) (F' := (.slice An (nodesOf n).length cn)) (S' := (.slice Am (nodesOf m).length cm)) RXok.out HP8.out HS8.out).2.2.2.1] at h_
    exact h_⟩
  have A3 := lookC_at (s := a) (v := nv) (D := .slice Ah nh ch) (F := (.slice An (nodesOf n).length cn)) (S := .slice none 0 0) RXok.out HP8.out HS8.out
  have e327 : (w12.setCell ⟨w7.heap.size, 246, none⟩ (.slice An (nodesOf n).length cn)).cell? ⟨w7.heap.size, 327, none⟩ = some (.slice none 0 0) := by rw [cell_of_row _ _ _ _ _ _ L13_.out.row]; exact A3.2.2.2.2
  have f327 := frozen_row L13_.out.row 327
  have L14_ : Hid (LB w7 ((w12.setCell ⟨w7.heap.size, 246, none⟩ (.slice An (nodesOf n).length cn)).setCell ⟨w7.heap.size, 327, none⟩ (.slice Am (nodesOf m).length cm)) (lookC r a nv (.slice Ah nh ch) p (.slice An (nodesOf n).length cn) s (.slice Am (nodesOf m).length cm))) := ⟨L13_.out.below.trans ((Frm.setCell _ _ _ _).below L13_.out.below.size (by simp)), by
    have h_ := heap_setCell_same (w12.setCell ⟨w7.heap.size, 246, none⟩ (.slice An (nodesOf n).length cn)) w7.heap.size 327 _ _ (.slice Am (nodesOf m).length cm) L13_.out.row
    rw [(lookC_set (s' := a) (v' := nv) (D' := .slice Ah nh ch) (F' := (.slice An (nodesOf n).length cn)) (S' := (.slice Am (nodesOf m).length cm)) RXok.out HP8.out HS8.out).2.2.2.2] at h_
    exact h_⟩
  have ZK14 := Lib.hid (heap_below ZK7.out L14_.out.below)
  have B14 := Lib.hid (B7.out.trans (L14_.out.below.mono B7.out.size))
  have OH14 := Lib.hid (ownR_below OH7.out L14_.out.below)
  have ON14 := Lib.hid (ownR_below ON7.out L14_.out.below)
  have OM14 := Lib.hid (ownR_below OM7.out L14_.out.below)
  obtain ⟨S4, hS4⟩ : ∃ S4 : Array Value, S4 = lookC r a nv (.slice Ah nh ch) p (.slice An (nodesOf n).length cn) s (.slice Am (nodesOf m).length cm) := ⟨_, rfl⟩
  have P14 : Hid (((w12.setCell ⟨w7.heap.size, 246, none⟩ (.slice An (nodesOf n).length cn)).setCell ⟨w7.heap.size, 327, none⟩ (.slice Am (nodesOf m).length cm)).heap[w7.heap.size]? = some (.cells S4 57 (0, 0))) := by show _ = _; rw [hS4]; exact L14_.out.row
  have S4Z : Hid (S4.size = 328) := by show _ = _; rw [hS4]; exact lookC_size RXok.out HP8.out HS8.out
  have S4O : Hid ((S4.all fun x => x.oneCell') = true) := by show _ = _; rw [hS4]; exact look_one
  have HS4 := Lib.hid hS4
  clear hS4 A2 A3
  go_wp2_with (first
    | (refine wpList_load_arr rfl _ _ rfl w7.heap.size 0 rfl S4 _ (by with_reducible exact range_row P14.out) Try.underlying57 rfl (by rw [S4Z.out]; kernel_rfl) ?_)
    | (refine wpList_store_row rfl _ _ _ rfl w.heap.size S4 rfl rfl 57 Z (by with_reducible exact ZK14.out) (by rw [S4Z.out]; kernel_rfl) (by rw [S4Z.out, HZz.out]) (by exact S4O.out) ?_))
  have hld := ret57r (heap_setRow (cs := S4) ZK14.out) S4Z.out
  have hlt0 : w.heap.size < w1.heap.size := lt_of_heap ZK.out
  have hfr := (Frm.setRow ((w12.setCell ⟨w7.heap.size, 246, none⟩ (.slice An (nodesOf n).length cn)).setCell ⟨w7.heap.size, 327, none⟩ (.slice Am (nodesOf m).length cm)) w.heap.size S4).1
  have hk2 : ∀ {e : TypeId} {s_ n_ : Nat} {v : Value} {xs : List Value}, ((w12.setCell ⟨w7.heap.size, 246, none⟩ (.slice An (nodesOf n).length cn)).setCell ⟨w7.heap.size, 327, none⟩ (.slice Am (nodesOf m).length cm)).ownsRow w1.heap.size e s_ v n_ xs → (((w12.setCell ⟨w7.heap.size, 246, none⟩ (.slice An (nodesOf n).length cn)).setCell ⟨w7.heap.size, 327, none⟩ (.slice Am (nodesOf m).length cm)).setRow w.heap.size S4).ownsRow w1.heap.size e s_ v n_ xs := fun h => ownR_frms h hfr (fun q hq => .inl (by rw [List.mem_singleton.1 hq]; exact hlt0))
  refine bodyPost_ret (v := .tuple #[.agg S4, .int .i64 0]) (by simp [results, Try.results36, asAddr, hld]) rfl (LDP.yes (q := ⟨r, a, nv, d, p, nodesOf n, s, nodesOf m⟩) ?_ (by rw [HS4.out]) (hk2 OH14.out) (hk2 ON14.out) (hk2 OM14.out) (B14.out.trans (hfr.below B14.out.size (by simp))))
  unfold lookD
  rw [H1.out]
  simp only [lookO, HRX.out]
  rw [if_pos (by simp [lookOK, HV8.out, HP8.out, HS8.out, HD32.out, HN.out, HM2.out]), HNV.out]
end Go.Proofs.Ytbpgbihcihnieaa

namespace Go.Proofs.Ytbpgbihcihnieaa
open Go.RowKit
set_option maxRecDepth 100000 in
set_option maxHeartbeats 4000000 in
theorem rDL_a (A : Option Addr) (c : Nat) (b : List UInt8) (w : World) (hr : Reads w w.heap.size 1 A b.length (bvs b)) (hc : b.length ≤ c) (hm : b.length ≤ 140737488355328) (hD : lookD b = none) (h1 : openV b lookW 8 = none) : Calls Try.prog 36 #[.slice A b.length c] w (LDP b w) := by
  obtain ⟨Z, hZ⟩ : ∃ Z : Array Value, Z = lookZ := ⟨_, rfl⟩
  have hz := hz57
  rw [← hZ] at hz
  have HZ := Lib.hid hZ
  have HZz : Hid (Z.size = 328) := by show _ = _; rw [hZ]; exact lookC_size rootZ_ok z80_len z80_len
  have HZo : Hid ((Z.all fun x => x.oneCell') = true) := by show _ = _; rw [hZ]; exact look_one
  obtain ⟨Y, hY⟩ : ∃ Y : Array Value, Y = rootZ.cs := ⟨_, rfl⟩
  have hy := hz47
  rw [← hY] at hy
  have HYz : Hid (Y.size = 163) := by show _ = _; rw [hY]; decide
  have F : Hid (Below w.heap.size w (w.alloc (.cells Z 57)) ∧ (w.alloc (.cells Z 57)).heap[w.heap.size]? = some (.cells Z 57 (0, 0))) := ⟨(Below.refl _ _).alloc (Nat.le_refl _) _, heap_alloc_new _ _⟩
  have R0 : Hid (Reads (w.alloc (.cells Z 57)) (w.alloc (.cells Z 57)).heap.size 1 A b.length (bvs b)) := (hr.keep fun _ hp => F.out.1.cell hp).more F.out.1.size
  have Hc := Lib.hid hc
  have Hm := Lib.hid hm
  clear hr hc hm hZ hY
  have HD := Lib.hid hD
  have H1 := Lib.hid h1
  clear hD h1
  go_enter Try.func36, Try.ntmps36
  go_wp2_with (first
    | (go_at_call 54; go_must (refine (rparts_any A c 8 b lookW 9 rfl (by decide) _ R0.out Hc.out Hm.out).mono ?_; rintro e w1 ⟨v, rfl, ho, hb⟩; rw [H1.out]; obtain ⟨A1, c1, rfl, hc1, hl1⟩ := ho.lists; have B1 := Lib.hid (F.out.1.trans (hb.mono F.out.1.size)); have ZK := Lib.hid (heap_below F.out.2 hb); rw [show (none : Option (List (List UInt8))).isSome = false from rfl]; clear ho hb hc1 hl1))
    | (refine wpList_store_row rfl _ _ _ rfl w.heap.size Z rfl rfl 57 Z (by with_reducible exact ZK.out) (by rw [HZz.out]; kernel_rfl) (by rfl) (by exact HZo.out) ?_))
  have hld := ret57r (heap_setRow (cs := Z) ZK.out) HZz.out
  refine bodyPost_ret (v := .tuple #[.agg Z, .int .i64 2]) (by simp [results, Try.results36, asAddr, hld]) rfl (LDP.no HD.out (by rw [← HZ.out]) ?_)
  exact B1.out.trans ((Frm.setRow _ _ _).1.below B1.out.size (by simp))
set_option maxRecDepth 100000 in
set_option maxHeartbeats 4000000 in
theorem rDL_p (A : Option Addr) (c : Nat) (b : List UInt8) (w : World) (hr : Reads w w.heap.size 1 A b.length (bvs b)) (hc : b.length ≤ c) (hm : b.length ≤ 140737488355328) (x a v0 d p n s m : List UInt8) (h1 : openV b lookW 8 = some [x, a, v0, d, p, n, s, m]) (hD : lookD b = none) (hp : ¬ p.length = 80) : Calls Try.prog 36 #[.slice A b.length c] w (LDP b w) := by
  obtain ⟨Z, hZ⟩ : ∃ Z : Array Value, Z = lookZ := ⟨_, rfl⟩
  have hz := hz57
  rw [← hZ] at hz
  have HZ := Lib.hid hZ
  have HZz : Hid (Z.size = 328) := by show _ = _; rw [hZ]; exact lookC_size rootZ_ok z80_len z80_len
  have HZo : Hid ((Z.all fun x => x.oneCell') = true) := by show _ = _; rw [hZ]; exact look_one
  obtain ⟨Y, hY⟩ : ∃ Y : Array Value, Y = rootZ.cs := ⟨_, rfl⟩
  have hy := hz47
  rw [← hY] at hy
  have HYz : Hid (Y.size = 163) := by show _ = _; rw [hY]; decide
  have F : Hid (Below w.heap.size w (w.alloc (.cells Z 57)) ∧ (w.alloc (.cells Z 57)).heap[w.heap.size]? = some (.cells Z 57 (0, 0))) := ⟨(Below.refl _ _).alloc (Nat.le_refl _) _, heap_alloc_new _ _⟩
  have R0 : Hid (Reads (w.alloc (.cells Z 57)) (w.alloc (.cells Z 57)).heap.size 1 A b.length (bvs b)) := (hr.keep fun _ hp => F.out.1.cell hp).more F.out.1.size
  have Hc := Lib.hid hc
  have Hm := Lib.hid hm
  clear hr hc hm hZ hY
  have H1 := Lib.hid h1
  have L1 := Lib.hid (openV_le2 h1 x (by simp))
  have L2 := Lib.hid (openV_le2 h1 a (by simp))
  have L3 := Lib.hid (openV_le2 h1 v0 (by simp))
  have L4 := Lib.hid (openV_le2 h1 d (by simp))
  have L5 := Lib.hid (openV_le2 h1 p (by simp))
  have L6 := Lib.hid (openV_le2 h1 n (by simp))
  have L7 := Lib.hid (openV_le2 h1 s (by simp))
  have L8 := Lib.hid (openV_le2 h1 m (by simp))
  have HD := Lib.hid hD
  have hpb : ((p.length : Int) != 80) = true := by simp; omega
  clear h1 hD hp
  go_enter Try.func36, Try.ntmps36
  go_wp2_with (first
    | (go_at_call 54; go_must (refine (rparts_any A c 8 b lookW 9 rfl (by decide) _ R0.out Hc.out Hm.out).mono ?_; rintro e w1 ⟨v, rfl, ho, hb⟩; rw [H1.out]; rw [(openV_list H1.out).1] at ho; obtain ⟨A1, c1, rfl, hc1, hl1⟩ := ho.lists; have B1 := Lib.hid (F.out.1.trans (hb.mono F.out.1.size)); have ZK := Lib.hid (heap_below F.out.2 hb); rw [show (some [x, a, v0, d, p, n, s, m]).isSome = true from rfl, show ([lookW, x, a, v0, d, p, n, s, m] : List (List UInt8)).length = 9 from rfl]; obtain ⟨b1, o1, rfl, hb1, hit⟩ := lists_at hl1 (by simp); obtain ⟨A_1, c_1, hc_1, k_1⟩ : ItmAt w1 b1 (o1 + 1) x := hit 1 (by simp); have K1 := Lib.hid k_1; have C1 := Lib.hid hc_1; obtain ⟨A_2, c_2, hc_2, k_2⟩ : ItmAt w1 b1 (o1 + 2) a := hit 2 (by simp); have K2 := Lib.hid k_2; have C2 := Lib.hid hc_2; obtain ⟨A_3, c_3, hc_3, k_3⟩ : ItmAt w1 b1 (o1 + 3) v0 := hit 3 (by simp); have K3 := Lib.hid k_3; have C3 := Lib.hid hc_3; obtain ⟨A_4, c_4, hc_4, k_4⟩ : ItmAt w1 b1 (o1 + 4) d := hit 4 (by simp); have K4 := Lib.hid k_4; have C4 := Lib.hid hc_4; obtain ⟨A_5, c_5, hc_5, k_5⟩ : ItmAt w1 b1 (o1 + 5) p := hit 5 (by simp); have K5 := Lib.hid k_5; have C5 := Lib.hid hc_5; obtain ⟨A_6, c_6, hc_6, k_6⟩ : ItmAt w1 b1 (o1 + 6) n := hit 6 (by simp); have K6 := Lib.hid k_6; have C6 := Lib.hid hc_6; obtain ⟨A_7, c_7, hc_7, k_7⟩ : ItmAt w1 b1 (o1 + 7) s := hit 7 (by simp); have K7 := Lib.hid k_7; have C7 := Lib.hid hc_7; obtain ⟨A_8, c_8, hc_8, k_8⟩ : ItmAt w1 b1 (o1 + 8) m := hit 8 (by simp); have K8 := Lib.hid k_8; have C8 := Lib.hid hc_8; have ce5 := (K5.out w1 (Below.refl _ _)).1; have ce7 := (K7.out w1 (Below.refl _ _)).1; clear ho hb hc1 hl1 hit hb1 k_1 hc_1 k_2 hc_2 k_3 hc_3 k_4 hc_4 k_5 hc_5 k_6 hc_6 k_7 hc_7 k_8 hc_8))
    | (refine wpList_store_row rfl _ _ _ rfl w.heap.size Z rfl rfl 57 Z (by with_reducible exact ZK.out) (by rw [HZz.out]; kernel_rfl) (by rfl) (by exact HZo.out) ?_))
  have hld := ret57r (heap_setRow (cs := Z) ZK.out) HZz.out
  refine bodyPost_ret (v := .tuple #[.agg Z, .int .i64 2]) (by simp [results, Try.results36, asAddr, hld]) rfl (LDP.no HD.out (by rw [← HZ.out]) ?_)
  exact B1.out.trans ((Frm.setRow _ _ _).1.below B1.out.size (by simp))
set_option maxRecDepth 100000 in
set_option maxHeartbeats 4000000 in
theorem rDL_s (A : Option Addr) (c : Nat) (b : List UInt8) (w : World) (hr : Reads w w.heap.size 1 A b.length (bvs b)) (hc : b.length ≤ c) (hm : b.length ≤ 140737488355328) (x a v0 d p n s m : List UInt8) (h1 : openV b lookW 8 = some [x, a, v0, d, p, n, s, m]) (hD : lookD b = none) (hp : p.length = 80) (hs : ¬ s.length = 80) : Calls Try.prog 36 #[.slice A b.length c] w (LDP b w) := by
  obtain ⟨Z, hZ⟩ : ∃ Z : Array Value, Z = lookZ := ⟨_, rfl⟩
  have hz := hz57
  rw [← hZ] at hz
  have HZ := Lib.hid hZ
  have HZz : Hid (Z.size = 328) := by show _ = _; rw [hZ]; exact lookC_size rootZ_ok z80_len z80_len
  have HZo : Hid ((Z.all fun x => x.oneCell') = true) := by show _ = _; rw [hZ]; exact look_one
  obtain ⟨Y, hY⟩ : ∃ Y : Array Value, Y = rootZ.cs := ⟨_, rfl⟩
  have hy := hz47
  rw [← hY] at hy
  have HYz : Hid (Y.size = 163) := by show _ = _; rw [hY]; decide
  have F : Hid (Below w.heap.size w (w.alloc (.cells Z 57)) ∧ (w.alloc (.cells Z 57)).heap[w.heap.size]? = some (.cells Z 57 (0, 0))) := ⟨(Below.refl _ _).alloc (Nat.le_refl _) _, heap_alloc_new _ _⟩
  have R0 : Hid (Reads (w.alloc (.cells Z 57)) (w.alloc (.cells Z 57)).heap.size 1 A b.length (bvs b)) := (hr.keep fun _ hp => F.out.1.cell hp).more F.out.1.size
  have Hc := Lib.hid hc
  have Hm := Lib.hid hm
  clear hr hc hm hZ hY
  have H1 := Lib.hid h1
  have L1 := Lib.hid (openV_le2 h1 x (by simp))
  have L2 := Lib.hid (openV_le2 h1 a (by simp))
  have L3 := Lib.hid (openV_le2 h1 v0 (by simp))
  have L4 := Lib.hid (openV_le2 h1 d (by simp))
  have L5 := Lib.hid (openV_le2 h1 p (by simp))
  have L6 := Lib.hid (openV_le2 h1 n (by simp))
  have L7 := Lib.hid (openV_le2 h1 s (by simp))
  have L8 := Lib.hid (openV_le2 h1 m (by simp))
  have HD := Lib.hid hD
  have hpb : ((p.length : Int) != 80) = false := by simp; omega
  have hsb : ((s.length : Int) != 80) = true := by simp; omega
  clear h1 hD hp hs
  go_enter Try.func36, Try.ntmps36
  go_wp2_with (first
    | (go_at_call 54; go_must (refine (rparts_any A c 8 b lookW 9 rfl (by decide) _ R0.out Hc.out Hm.out).mono ?_; rintro e w1 ⟨v, rfl, ho, hb⟩; rw [H1.out]; rw [(openV_list H1.out).1] at ho; obtain ⟨A1, c1, rfl, hc1, hl1⟩ := ho.lists; have B1 := Lib.hid (F.out.1.trans (hb.mono F.out.1.size)); have ZK := Lib.hid (heap_below F.out.2 hb); rw [show (some [x, a, v0, d, p, n, s, m]).isSome = true from rfl, show ([lookW, x, a, v0, d, p, n, s, m] : List (List UInt8)).length = 9 from rfl]; obtain ⟨b1, o1, rfl, hb1, hit⟩ := lists_at hl1 (by simp); obtain ⟨A_1, c_1, hc_1, k_1⟩ : ItmAt w1 b1 (o1 + 1) x := hit 1 (by simp); have K1 := Lib.hid k_1; have C1 := Lib.hid hc_1; obtain ⟨A_2, c_2, hc_2, k_2⟩ : ItmAt w1 b1 (o1 + 2) a := hit 2 (by simp); have K2 := Lib.hid k_2; have C2 := Lib.hid hc_2; obtain ⟨A_3, c_3, hc_3, k_3⟩ : ItmAt w1 b1 (o1 + 3) v0 := hit 3 (by simp); have K3 := Lib.hid k_3; have C3 := Lib.hid hc_3; obtain ⟨A_4, c_4, hc_4, k_4⟩ : ItmAt w1 b1 (o1 + 4) d := hit 4 (by simp); have K4 := Lib.hid k_4; have C4 := Lib.hid hc_4; obtain ⟨A_5, c_5, hc_5, k_5⟩ : ItmAt w1 b1 (o1 + 5) p := hit 5 (by simp); have K5 := Lib.hid k_5; have C5 := Lib.hid hc_5; obtain ⟨A_6, c_6, hc_6, k_6⟩ : ItmAt w1 b1 (o1 + 6) n := hit 6 (by simp); have K6 := Lib.hid k_6; have C6 := Lib.hid hc_6; obtain ⟨A_7, c_7, hc_7, k_7⟩ : ItmAt w1 b1 (o1 + 7) s := hit 7 (by simp); have K7 := Lib.hid k_7; have C7 := Lib.hid hc_7; obtain ⟨A_8, c_8, hc_8, k_8⟩ : ItmAt w1 b1 (o1 + 8) m := hit 8 (by simp); have K8 := Lib.hid k_8; have C8 := Lib.hid hc_8; have ce5 := (K5.out w1 (Below.refl _ _)).1; have ce7 := (K7.out w1 (Below.refl _ _)).1; clear ho hb hc1 hl1 hit hb1 k_1 hc_1 k_2 hc_2 k_3 hc_3 k_4 hc_4 k_5 hc_5 k_6 hc_6 k_7 hc_7 k_8 hc_8))
    | (refine wpList_store_row rfl _ _ _ rfl w.heap.size Z rfl rfl 57 Z (by with_reducible exact ZK.out) (by rw [HZz.out]; kernel_rfl) (by rfl) (by exact HZo.out) ?_))
  have hld := ret57r (heap_setRow (cs := Z) ZK.out) HZz.out
  refine bodyPost_ret (v := .tuple #[.agg Z, .int .i64 2]) (by simp [results, Try.results36, asAddr, hld]) rfl (LDP.no HD.out (by rw [← HZ.out]) ?_)
  exact B1.out.trans ((Frm.setRow _ _ _).1.below B1.out.size (by simp))
set_option maxRecDepth 100000 in
set_option maxHeartbeats 4000000 in
theorem rDL_e0 (A : Option Addr) (c : Nat) (b : List UInt8) (w : World) (hr : Reads w w.heap.size 1 A b.length (bvs b)) (hc : b.length ≤ c) (hm : b.length ≤ 140737488355328) (x a v0 d p n s m : List UInt8) (h1 : openV b lookW 8 = some [x, a, v0, d, p, n, s, m]) (hD : lookD b = none) (hp : p.length = 80) (hs : s.length = 80) (hx : rootD x = none) : Calls Try.prog 36 #[.slice A b.length c] w (LDP b w) := by
  obtain ⟨Z, hZ⟩ : ∃ Z : Array Value, Z = lookZ := ⟨_, rfl⟩
  have hz := hz57
  rw [← hZ] at hz
  have HZ := Lib.hid hZ
  have HZz : Hid (Z.size = 328) := by show _ = _; rw [hZ]; exact lookC_size rootZ_ok z80_len z80_len
  have HZo : Hid ((Z.all fun x => x.oneCell') = true) := by show _ = _; rw [hZ]; exact look_one
  obtain ⟨Y, hY⟩ : ∃ Y : Array Value, Y = rootZ.cs := ⟨_, rfl⟩
  have hy := hz47
  rw [← hY] at hy
  have HYz : Hid (Y.size = 163) := by show _ = _; rw [hY]; decide
  have F : Hid (Below w.heap.size w (w.alloc (.cells Z 57)) ∧ (w.alloc (.cells Z 57)).heap[w.heap.size]? = some (.cells Z 57 (0, 0))) := ⟨(Below.refl _ _).alloc (Nat.le_refl _) _, heap_alloc_new _ _⟩
  have R0 : Hid (Reads (w.alloc (.cells Z 57)) (w.alloc (.cells Z 57)).heap.size 1 A b.length (bvs b)) := (hr.keep fun _ hp => F.out.1.cell hp).more F.out.1.size
  have Hc := Lib.hid hc
  have Hm := Lib.hid hm
  clear hr hc hm hZ hY
  have H1 := Lib.hid h1
  have L1 := Lib.hid (openV_le2 h1 x (by simp))
  have L2 := Lib.hid (openV_le2 h1 a (by simp))
  have L3 := Lib.hid (openV_le2 h1 v0 (by simp))
  have L4 := Lib.hid (openV_le2 h1 d (by simp))
  have L5 := Lib.hid (openV_le2 h1 p (by simp))
  have L6 := Lib.hid (openV_le2 h1 n (by simp))
  have L7 := Lib.hid (openV_le2 h1 s (by simp))
  have L8 := Lib.hid (openV_le2 h1 m (by simp))
  have HD := Lib.hid hD
  have HP8 := Lib.hid hp
  have HS8 := Lib.hid hs
  have hpb : ((p.length : Int) != 80) = false := by simp; omega
  have hsb : ((s.length : Int) != 80) = false := by simp; omega
  have HX := Lib.hid (root_no hx)
  have RXok : Hid (rootZ.ok) := rootZ_ok
  obtain ⟨X, hX⟩ : ∃ X : Array Value, X = rootZ.cs := ⟨_, rfl⟩
  have HXX := Lib.hid hX
  have XZ : Hid (X.size = 163) := by show _ = _; rw [hX]; exact root_size RXok.out
  obtain ⟨zv, hzv⟩ : ∃ z : Int, z = numE v0 := ⟨_, rfl⟩
  have HV : Hid (numE v0 = zv) := hzv.symm
  clear hzv
  have NV : Hid (numV v0 < 18446744073709551616) := numV_lt v0
  obtain ⟨nv, hnv⟩ : ∃ z : Nat, z = numV v0 := ⟨_, rfl⟩
  have HNV : Hid (numV v0 = nv) := hnv.symm
  clear hnv
  obtain ⟨gd, hgd⟩ : ∃ z : Bool, z = decide (d.length % 32 = 0) := ⟨_, rfl⟩
  have HDD : Hid (decide (d.length % 32 = 0) = gd) := hgd.symm
  clear hgd
  obtain ⟨gn, hgn⟩ : ∃ z : Bool, z = nodesOK n := ⟨_, rfl⟩
  have HN : Hid (nodesOK n = gn) := hgn.symm
  clear hgn
  obtain ⟨gm, hgm⟩ : ∃ z : Bool, z = nodesOK m := ⟨_, rfl⟩
  have HM2 : Hid (nodesOK m = gm) := hgm.symm
  clear hgm
  clear h1 hx hX hp hs hD
  have T0 : Hid True := trivial
  go_enter Try.func36, Try.ntmps36
  go_wp2_with (first
    | (go_at_call 54; go_must (refine (rparts_any A c 8 b lookW 9 rfl (by decide) _ R0.out Hc.out Hm.out).mono ?_; rintro e w1 ⟨v, rfl, ho, hb⟩; rw [H1.out]; rw [(openV_list H1.out).1] at ho; obtain ⟨A1, c1, rfl, hc1, hl1⟩ := ho.lists; have B1 := Lib.hid (F.out.1.trans (hb.mono F.out.1.size)); have ZK := Lib.hid (heap_below F.out.2 hb); rw [show (some [x, a, v0, d, p, n, s, m]).isSome = true from rfl, show ([lookW, x, a, v0, d, p, n, s, m] : List (List UInt8)).length = 9 from rfl]; obtain ⟨b1, o1, rfl, hb1, hit⟩ := lists_at hl1 (by simp); obtain ⟨A_1, c_1, hc_1, k_1⟩ : ItmAt w1 b1 (o1 + 1) x := hit 1 (by simp); have K1 := Lib.hid k_1; have C1 := Lib.hid hc_1; obtain ⟨A_2, c_2, hc_2, k_2⟩ : ItmAt w1 b1 (o1 + 2) a := hit 2 (by simp); have K2 := Lib.hid k_2; have C2 := Lib.hid hc_2; obtain ⟨A_3, c_3, hc_3, k_3⟩ : ItmAt w1 b1 (o1 + 3) v0 := hit 3 (by simp); have K3 := Lib.hid k_3; have C3 := Lib.hid hc_3; obtain ⟨A_4, c_4, hc_4, k_4⟩ : ItmAt w1 b1 (o1 + 4) d := hit 4 (by simp); have K4 := Lib.hid k_4; have C4 := Lib.hid hc_4; obtain ⟨A_5, c_5, hc_5, k_5⟩ : ItmAt w1 b1 (o1 + 5) p := hit 5 (by simp); have K5 := Lib.hid k_5; have C5 := Lib.hid hc_5; obtain ⟨A_6, c_6, hc_6, k_6⟩ : ItmAt w1 b1 (o1 + 6) n := hit 6 (by simp); have K6 := Lib.hid k_6; have C6 := Lib.hid hc_6; obtain ⟨A_7, c_7, hc_7, k_7⟩ : ItmAt w1 b1 (o1 + 7) s := hit 7 (by simp); have K7 := Lib.hid k_7; have C7 := Lib.hid hc_7; obtain ⟨A_8, c_8, hc_8, k_8⟩ : ItmAt w1 b1 (o1 + 8) m := hit 8 (by simp); have K8 := Lib.hid k_8; have C8 := Lib.hid hc_8; have ce5 := (K5.out w1 (Below.refl _ _)).1; have ce7 := (K7.out w1 (Below.refl _ _)).1; have ce1 := (K1.out w1 (Below.refl _ _)).1; clear ho hb hc1 hl1 hit hb1 k_1 hc_1 k_2 hc_2 k_3 hc_3 k_4 hc_4 k_5 hc_5 k_6 hc_6 k_7 hc_7 k_8 hc_8))
    | (go_at_call 28; go_must (refine (rDecodeRoot_any A_1 c_1 x w1 (K1.out w1 (Below.refl _ _)).2 C1.out (by have h_ := L1.out; omega)).mono ?_; rintro e w2 ⟨rfl, hb⟩; rw [HX.out.1, HX.out.2, ← HXX.out]; have RN := Lib.hid (row_new w2 Y X 47); have AN := Lib.hid (heap_alloc_new w2 (.cells Y 47)); have D2 : Hid (Below w1.heap.size w1 ((w2.alloc (.cells Y 47)).setRow w2.heap.size X)) := hb.trans (RN.out.1.mono hb.size); have P2 := Lib.hid RN.out.2.1; have ce3 := (K3.out _ D2.out).1; clear hb RN))
    | (go_at_call 22; go_must (refine (rReadNum_any A_3 c_3 _ v0 _ (K3.out _ D2.out).2 (by have h_ := L3.out; omega)).mono ?_; rintro e w3 ⟨rfl, q_, hq⟩; have hb : Below ((w2.alloc (.cells Y 47)).setRow w2.heap.size X).heap.size ((w2.alloc (.cells Y 47)).setRow w2.heap.size X) w3 := (by rw [hq]; exact ⟨rfl, rfl, rfl, Nat.le_refl _, fun _ _ => rfl⟩); rw [HV.out, HNV.out]; have D3 := Lib.hid (D2.out.trans (hb.mono D2.out.size)); have P3 := Lib.hid (heap_below P2.out hb); have ce4 := (K4.out _ D3.out).1; clear hq hb))
    | (go_at_call 65; go_must (refine (rHash1_any A_4 c_4 d w3 (K4.out _ D3.out).2 C4.out (by have h_ := L4.out; omega)).mono ?_; rintro e w4 ⟨v, nh, rfl, ho, hb⟩; rw [HDD.out]; obtain ⟨Ah, ch, rfl, hch, hrh⟩ := ownR_form ho; have OH4 := Lib.hid (ownR_base ho D3.out.size); have D4 := Lib.hid (D3.out.trans (hb.mono D3.out.size)); have P4 := Lib.hid (heap_below P3.out hb); have ce6 := (K6.out _ D4.out).1; clear ho hb hch hrh))
    | (go_at_call 66; have hx_ := T1; go_must (refine (rreadNodes_any A_8 c_8 m w5 (K8.out _ D5.out).2 C8.out (by have h_ := L8.out; omega)).mono ?_; rintro e w6 ⟨v, rfl, ho, hb⟩; rw [HM2.out]; obtain ⟨Am, cm, rfl, hcm, hrm⟩ := ownR_form ho; have OM6 := Lib.hid (ownR_base ho D5.out.size); have D6 := Lib.hid (D5.out.trans (hb.mono D5.out.size)); have P6 := Lib.hid (heap_below P5.out hb); have OH6 := Lib.hid (ownR_below OH5.out hb); have ON6 := Lib.hid (ownR_below ON5.out hb); have B6 := Lib.hid (B1.out.trans ((D5.out.trans (hb.mono D5.out.size)).mono B1.out.size)); have ZK6 := Lib.hid (heap_below (heap_below ZK.out D5.out) hb); clear T1 hx_ ho hb hcm hrm))
    | (go_at_call 66; have hx_ := T0; go_must (refine (rreadNodes_any A_6 c_6 n w4 (K6.out _ D4.out).2 C6.out (by have h_ := L6.out; omega)).mono ?_; rintro e w5 ⟨v, rfl, ho, hb⟩; rw [HN.out]; obtain ⟨An, cn, rfl, hcn, hrn⟩ := ownR_form ho; have ON5 := Lib.hid (ownR_base ho D4.out.size); have D5 := Lib.hid (D4.out.trans (hb.mono D4.out.size)); have P5 := Lib.hid (heap_below P4.out hb); have OH5 := Lib.hid (ownR_below OH4.out hb); have ce8 := (K8.out _ D5.out).1; have T1 := hx_; clear T0 hx_ ho hb hcn hrn))
    | (refine wpList_store_row rfl _ _ _ rfl w2.heap.size X rfl rfl 47 Y (by with_reducible exact AN.out) (by rw [XZ.out]; kernel_rfl) (by rw [XZ.out, HYz.out]) (by rw [HXX.out]; exact root_one) ?_)
    | (refine wpList_store_row rfl _ _ _ rfl w.heap.size Z rfl rfl 57 Z (by with_reducible exact ZK6.out) (by rw [HZz.out]; kernel_rfl) (by rfl) (by exact HZo.out) ?_))
  have hld := ret57r (heap_setRow (cs := Z) ZK6.out) HZz.out
  refine bodyPost_ret (v := .tuple #[.agg Z, .int .i64 2]) (by simp [results, Try.results36, asAddr, hld]) rfl (LDP.no HD.out (by rw [← HZ.out]) ?_)
  exact B6.out.trans ((Frm.setRow _ _ _).1.below B6.out.size (by simp))
set_option maxRecDepth 100000 in
set_option maxHeartbeats 4000000 in
theorem rDL_e1 (A : Option Addr) (c : Nat) (b : List UInt8) (w : World) (hr : Reads w w.heap.size 1 A b.length (bvs b)) (hc : b.length ≤ c) (hm : b.length ≤ 140737488355328) (x a v0 d p n s m : List UInt8) (h1 : openV b lookW 8 = some [x, a, v0, d, p, n, s, m]) (hD : lookD b = none) (hp : p.length = 80) (hs : s.length = 80) (r : RootV) (hx : rootD x = some r) (hv : ¬ v0.length = 8) : Calls Try.prog 36 #[.slice A b.length c] w (LDP b w) := by
  obtain ⟨Z, hZ⟩ : ∃ Z : Array Value, Z = lookZ := ⟨_, rfl⟩
  have hz := hz57
  rw [← hZ] at hz
  have HZ := Lib.hid hZ
  have HZz : Hid (Z.size = 328) := by show _ = _; rw [hZ]; exact lookC_size rootZ_ok z80_len z80_len
  have HZo : Hid ((Z.all fun x => x.oneCell') = true) := by show _ = _; rw [hZ]; exact look_one
  obtain ⟨Y, hY⟩ : ∃ Y : Array Value, Y = rootZ.cs := ⟨_, rfl⟩
  have hy := hz47
  rw [← hY] at hy
  have HYz : Hid (Y.size = 163) := by show _ = _; rw [hY]; decide
  have F : Hid (Below w.heap.size w (w.alloc (.cells Z 57)) ∧ (w.alloc (.cells Z 57)).heap[w.heap.size]? = some (.cells Z 57 (0, 0))) := ⟨(Below.refl _ _).alloc (Nat.le_refl _) _, heap_alloc_new _ _⟩
  have R0 : Hid (Reads (w.alloc (.cells Z 57)) (w.alloc (.cells Z 57)).heap.size 1 A b.length (bvs b)) := (hr.keep fun _ hp => F.out.1.cell hp).more F.out.1.size
  have Hc := Lib.hid hc
  have Hm := Lib.hid hm
  clear hr hc hm hZ hY
  have H1 := Lib.hid h1
  have L1 := Lib.hid (openV_le2 h1 x (by simp))
  have L2 := Lib.hid (openV_le2 h1 a (by simp))
  have L3 := Lib.hid (openV_le2 h1 v0 (by simp))
  have L4 := Lib.hid (openV_le2 h1 d (by simp))
  have L5 := Lib.hid (openV_le2 h1 p (by simp))
  have L6 := Lib.hid (openV_le2 h1 n (by simp))
  have L7 := Lib.hid (openV_le2 h1 s (by simp))
  have L8 := Lib.hid (openV_le2 h1 m (by simp))
  have HD := Lib.hid hD
  have HP8 := Lib.hid hp
  have HS8 := Lib.hid hs
  have hpb : ((p.length : Int) != 80) = false := by simp; omega
  have hsb : ((s.length : Int) != 80) = false := by simp; omega
  have HX := Lib.hid (root_yes hx)
  have RXok : Hid (r.ok) := (root_enc_dec hx).2
  obtain ⟨X, hX⟩ : ∃ X : Array Value, X = r.cs := ⟨_, rfl⟩
  have HXX := Lib.hid hX
  have XZ : Hid (X.size = 163) := by show _ = _; rw [hX]; exact root_size RXok.out
  have HV : Hid (numE v0 = 2) := by show _ = _; unfold numE; rw [if_neg hv]
  have NV : Hid (numV v0 < 18446744073709551616) := numV_lt v0
  obtain ⟨nv, hnv⟩ : ∃ z : Nat, z = numV v0 := ⟨_, rfl⟩
  have HNV : Hid (numV v0 = nv) := hnv.symm
  clear hnv
  obtain ⟨gd, hgd⟩ : ∃ z : Bool, z = decide (d.length % 32 = 0) := ⟨_, rfl⟩
  have HDD : Hid (decide (d.length % 32 = 0) = gd) := hgd.symm
  clear hgd
  obtain ⟨gn, hgn⟩ : ∃ z : Bool, z = nodesOK n := ⟨_, rfl⟩
  have HN : Hid (nodesOK n = gn) := hgn.symm
  clear hgn
  obtain ⟨gm, hgm⟩ : ∃ z : Bool, z = nodesOK m := ⟨_, rfl⟩
  have HM2 : Hid (nodesOK m = gm) := hgm.symm
  clear hgm
  clear h1 hx hX hp hs hD hv
  have T0 : Hid True := trivial
  go_enter Try.func36, Try.ntmps36
  go_wp2_with (first
    | (go_at_call 54; go_must (refine (rparts_any A c 8 b lookW 9 rfl (by decide) _ R0.out Hc.out Hm.out).mono ?_; rintro e w1 ⟨v, rfl, ho, hb⟩; rw [H1.out]; rw [(openV_list H1.out).1] at ho; obtain ⟨A1, c1, rfl, hc1, hl1⟩ := ho.lists; have B1 := Lib.hid (F.out.1.trans (hb.mono F.out.1.size)); have ZK := Lib.hid (heap_below F.out.2 hb); rw [show (some [x, a, v0, d, p, n, s, m]).isSome = true from rfl, show ([lookW, x, a, v0, d, p, n, s, m] : List (List UInt8)).length = 9 from rfl]; obtain ⟨b1, o1, rfl, hb1, hit⟩ := lists_at hl1 (by simp); obtain ⟨A_1, c_1, hc_1, k_1⟩ : ItmAt w1 b1 (o1 + 1) x := hit 1 (by simp); have K1 := Lib.hid k_1; have C1 := Lib.hid hc_1; obtain ⟨A_2, c_2, hc_2, k_2⟩ : ItmAt w1 b1 (o1 + 2) a := hit 2 (by simp); have K2 := Lib.hid k_2; have C2 := Lib.hid hc_2; obtain ⟨A_3, c_3, hc_3, k_3⟩ : ItmAt w1 b1 (o1 + 3) v0 := hit 3 (by simp); have K3 := Lib.hid k_3; have C3 := Lib.hid hc_3; obtain ⟨A_4, c_4, hc_4, k_4⟩ : ItmAt w1 b1 (o1 + 4) d := hit 4 (by simp); have K4 := Lib.hid k_4; have C4 := Lib.hid hc_4; obtain ⟨A_5, c_5, hc_5, k_5⟩ : ItmAt w1 b1 (o1 + 5) p := hit 5 (by simp); have K5 := Lib.hid k_5; have C5 := Lib.hid hc_5; obtain ⟨A_6, c_6, hc_6, k_6⟩ : ItmAt w1 b1 (o1 + 6) n := hit 6 (by simp); have K6 := Lib.hid k_6; have C6 := Lib.hid hc_6; obtain ⟨A_7, c_7, hc_7, k_7⟩ : ItmAt w1 b1 (o1 + 7) s := hit 7 (by simp); have K7 := Lib.hid k_7; have C7 := Lib.hid hc_7; obtain ⟨A_8, c_8, hc_8, k_8⟩ : ItmAt w1 b1 (o1 + 8) m := hit 8 (by simp); have K8 := Lib.hid k_8; have C8 := Lib.hid hc_8; have ce5 := (K5.out w1 (Below.refl _ _)).1; have ce7 := (K7.out w1 (Below.refl _ _)).1; have ce1 := (K1.out w1 (Below.refl _ _)).1; clear ho hb hc1 hl1 hit hb1 k_1 hc_1 k_2 hc_2 k_3 hc_3 k_4 hc_4 k_5 hc_5 k_6 hc_6 k_7 hc_7 k_8 hc_8))
    | (go_at_call 28; go_must (refine (rDecodeRoot_any A_1 c_1 x w1 (K1.out w1 (Below.refl _ _)).2 C1.out (by have h_ := L1.out; omega)).mono ?_; rintro e w2 ⟨rfl, hb⟩; rw [HX.out.1, HX.out.2, ← HXX.out]; have RN := Lib.hid (row_new w2 Y X 47); have AN := Lib.hid (heap_alloc_new w2 (.cells Y 47)); have D2 : Hid (Below w1.heap.size w1 ((w2.alloc (.cells Y 47)).setRow w2.heap.size X)) := hb.trans (RN.out.1.mono hb.size); have P2 := Lib.hid RN.out.2.1; have ce3 := (K3.out _ D2.out).1; clear hb RN))
    | (go_at_call 22; go_must (refine (rReadNum_any A_3 c_3 _ v0 _ (K3.out _ D2.out).2 (by have h_ := L3.out; omega)).mono ?_; rintro e w3 ⟨rfl, q_, hq⟩; have hb : Below ((w2.alloc (.cells Y 47)).setRow w2.heap.size X).heap.size ((w2.alloc (.cells Y 47)).setRow w2.heap.size X) w3 := (by rw [hq]; exact ⟨rfl, rfl, rfl, Nat.le_refl _, fun _ _ => rfl⟩); rw [HV.out, HNV.out]; have D3 := Lib.hid (D2.out.trans (hb.mono D2.out.size)); have P3 := Lib.hid (heap_below P2.out hb); have ce4 := (K4.out _ D3.out).1; clear hq hb))
    | (go_at_call 65; go_must (refine (rHash1_any A_4 c_4 d w3 (K4.out _ D3.out).2 C4.out (by have h_ := L4.out; omega)).mono ?_; rintro e w4 ⟨v, nh, rfl, ho, hb⟩; rw [HDD.out]; obtain ⟨Ah, ch, rfl, hch, hrh⟩ := ownR_form ho; have OH4 := Lib.hid (ownR_base ho D3.out.size); have D4 := Lib.hid (D3.out.trans (hb.mono D3.out.size)); have P4 := Lib.hid (heap_below P3.out hb); have ce6 := (K6.out _ D4.out).1; clear ho hb hch hrh))
    | (go_at_call 66; have hx_ := T1; go_must (refine (rreadNodes_any A_8 c_8 m w5 (K8.out _ D5.out).2 C8.out (by have h_ := L8.out; omega)).mono ?_; rintro e w6 ⟨v, rfl, ho, hb⟩; rw [HM2.out]; obtain ⟨Am, cm, rfl, hcm, hrm⟩ := ownR_form ho; have OM6 := Lib.hid (ownR_base ho D5.out.size); have D6 := Lib.hid (D5.out.trans (hb.mono D5.out.size)); have P6 := Lib.hid (heap_below P5.out hb); have OH6 := Lib.hid (ownR_below OH5.out hb); have ON6 := Lib.hid (ownR_below ON5.out hb); have B6 := Lib.hid (B1.out.trans ((D5.out.trans (hb.mono D5.out.size)).mono B1.out.size)); have ZK6 := Lib.hid (heap_below (heap_below ZK.out D5.out) hb); clear T1 hx_ ho hb hcm hrm))
    | (go_at_call 66; have hx_ := T0; go_must (refine (rreadNodes_any A_6 c_6 n w4 (K6.out _ D4.out).2 C6.out (by have h_ := L6.out; omega)).mono ?_; rintro e w5 ⟨v, rfl, ho, hb⟩; rw [HN.out]; obtain ⟨An, cn, rfl, hcn, hrn⟩ := ownR_form ho; have ON5 := Lib.hid (ownR_base ho D4.out.size); have D5 := Lib.hid (D4.out.trans (hb.mono D4.out.size)); have P5 := Lib.hid (heap_below P4.out hb); have OH5 := Lib.hid (ownR_below OH4.out hb); have ce8 := (K8.out _ D5.out).1; have T1 := hx_; clear T0 hx_ ho hb hcn hrn))
    | (refine wpList_store_row rfl _ _ _ rfl w2.heap.size X rfl rfl 47 Y (by with_reducible exact AN.out) (by rw [XZ.out]; kernel_rfl) (by rw [XZ.out, HYz.out]) (by rw [HXX.out]; exact root_one) ?_)
    | (refine wpList_store_row rfl _ _ _ rfl w.heap.size Z rfl rfl 57 Z (by with_reducible exact ZK6.out) (by rw [HZz.out]; kernel_rfl) (by rfl) (by exact HZo.out) ?_))
  have hld := ret57r (heap_setRow (cs := Z) ZK6.out) HZz.out
  refine bodyPost_ret (v := .tuple #[.agg Z, .int .i64 2]) (by simp [results, Try.results36, asAddr, hld]) rfl (LDP.no HD.out (by rw [← HZ.out]) ?_)
  exact B6.out.trans ((Frm.setRow _ _ _).1.below B6.out.size (by simp))
set_option maxRecDepth 100000 in
set_option maxHeartbeats 4000000 in
theorem rDL_e2 (A : Option Addr) (c : Nat) (b : List UInt8) (w : World) (hr : Reads w w.heap.size 1 A b.length (bvs b)) (hc : b.length ≤ c) (hm : b.length ≤ 140737488355328) (x a v0 d p n s m : List UInt8) (h1 : openV b lookW 8 = some [x, a, v0, d, p, n, s, m]) (hD : lookD b = none) (hp : p.length = 80) (hs : s.length = 80) (r : RootV) (hx : rootD x = some r) (hv : v0.length = 8) (hd : ¬ d.length % 32 = 0) : Calls Try.prog 36 #[.slice A b.length c] w (LDP b w) := by
  obtain ⟨Z, hZ⟩ : ∃ Z : Array Value, Z = lookZ := ⟨_, rfl⟩
  have hz := hz57
  rw [← hZ] at hz
  have HZ := Lib.hid hZ
  have HZz : Hid (Z.size = 328) := by show _ = _; rw [hZ]; exact lookC_size rootZ_ok z80_len z80_len
  have HZo : Hid ((Z.all fun x => x.oneCell') = true) := by show _ = _; rw [hZ]; exact look_one
  obtain ⟨Y, hY⟩ : ∃ Y : Array Value, Y = rootZ.cs := ⟨_, rfl⟩
  have hy := hz47
  rw [← hY] at hy
  have HYz : Hid (Y.size = 163) := by show _ = _; rw [hY]; decide
  have F : Hid (Below w.heap.size w (w.alloc (.cells Z 57)) ∧ (w.alloc (.cells Z 57)).heap[w.heap.size]? = some (.cells Z 57 (0, 0))) := ⟨(Below.refl _ _).alloc (Nat.le_refl _) _, heap_alloc_new _ _⟩
  have R0 : Hid (Reads (w.alloc (.cells Z 57)) (w.alloc (.cells Z 57)).heap.size 1 A b.length (bvs b)) := (hr.keep fun _ hp => F.out.1.cell hp).more F.out.1.size
  have Hc := Lib.hid hc
  have Hm := Lib.hid hm
  clear hr hc hm hZ hY
  have H1 := Lib.hid h1
  have L1 := Lib.hid (openV_le2 h1 x (by simp))
  have L2 := Lib.hid (openV_le2 h1 a (by simp))
  have L3 := Lib.hid (openV_le2 h1 v0 (by simp))
  have L4 := Lib.hid (openV_le2 h1 d (by simp))
  have L5 := Lib.hid (openV_le2 h1 p (by simp))
  have L6 := Lib.hid (openV_le2 h1 n (by simp))
  have L7 := Lib.hid (openV_le2 h1 s (by simp))
  have L8 := Lib.hid (openV_le2 h1 m (by simp))
  have HD := Lib.hid hD
  have HP8 := Lib.hid hp
  have HS8 := Lib.hid hs
  have hpb : ((p.length : Int) != 80) = false := by simp; omega
  have hsb : ((s.length : Int) != 80) = false := by simp; omega
  have HX := Lib.hid (root_yes hx)
  have RXok : Hid (r.ok) := (root_enc_dec hx).2
  obtain ⟨X, hX⟩ : ∃ X : Array Value, X = r.cs := ⟨_, rfl⟩
  have HXX := Lib.hid hX
  have XZ : Hid (X.size = 163) := by show _ = _; rw [hX]; exact root_size RXok.out
  have HV : Hid (numE v0 = 0) := by show _ = _; unfold numE; rw [if_pos hv]
  have NV : Hid (numV v0 < 18446744073709551616) := numV_lt v0
  obtain ⟨nv, hnv⟩ : ∃ z : Nat, z = numV v0 := ⟨_, rfl⟩
  have HNV : Hid (numV v0 = nv) := hnv.symm
  clear hnv
  have HDD : Hid (decide (d.length % 32 = 0) = false) := by show _ = _; simp [hd]
  obtain ⟨gn, hgn⟩ : ∃ z : Bool, z = nodesOK n := ⟨_, rfl⟩
  have HN : Hid (nodesOK n = gn) := hgn.symm
  clear hgn
  obtain ⟨gm, hgm⟩ : ∃ z : Bool, z = nodesOK m := ⟨_, rfl⟩
  have HM2 : Hid (nodesOK m = gm) := hgm.symm
  clear hgm
  clear h1 hx hX hp hs hD hv hd
  have T0 : Hid True := trivial
  go_enter Try.func36, Try.ntmps36
  go_wp2_with (first
    | (go_at_call 54; go_must (refine (rparts_any A c 8 b lookW 9 rfl (by decide) _ R0.out Hc.out Hm.out).mono ?_; rintro e w1 ⟨v, rfl, ho, hb⟩; rw [H1.out]; rw [(openV_list H1.out).1] at ho; obtain ⟨A1, c1, rfl, hc1, hl1⟩ := ho.lists; have B1 := Lib.hid (F.out.1.trans (hb.mono F.out.1.size)); have ZK := Lib.hid (heap_below F.out.2 hb); rw [show (some [x, a, v0, d, p, n, s, m]).isSome = true from rfl, show ([lookW, x, a, v0, d, p, n, s, m] : List (List UInt8)).length = 9 from rfl]; obtain ⟨b1, o1, rfl, hb1, hit⟩ := lists_at hl1 (by simp); obtain ⟨A_1, c_1, hc_1, k_1⟩ : ItmAt w1 b1 (o1 + 1) x := hit 1 (by simp); have K1 := Lib.hid k_1; have C1 := Lib.hid hc_1; obtain ⟨A_2, c_2, hc_2, k_2⟩ : ItmAt w1 b1 (o1 + 2) a := hit 2 (by simp); have K2 := Lib.hid k_2; have C2 := Lib.hid hc_2; obtain ⟨A_3, c_3, hc_3, k_3⟩ : ItmAt w1 b1 (o1 + 3) v0 := hit 3 (by simp); have K3 := Lib.hid k_3; have C3 := Lib.hid hc_3; obtain ⟨A_4, c_4, hc_4, k_4⟩ : ItmAt w1 b1 (o1 + 4) d := hit 4 (by simp); have K4 := Lib.hid k_4; have C4 := Lib.hid hc_4; obtain ⟨A_5, c_5, hc_5, k_5⟩ : ItmAt w1 b1 (o1 + 5) p := hit 5 (by simp); have K5 := Lib.hid k_5; have C5 := Lib.hid hc_5; obtain ⟨A_6, c_6, hc_6, k_6⟩ : ItmAt w1 b1 (o1 + 6) n := hit 6 (by simp); have K6 := Lib.hid k_6; have C6 := Lib.hid hc_6; obtain ⟨A_7, c_7, hc_7, k_7⟩ : ItmAt w1 b1 (o1 + 7) s := hit 7 (by simp); have K7 := Lib.hid k_7; have C7 := Lib.hid hc_7; obtain ⟨A_8, c_8, hc_8, k_8⟩ : ItmAt w1 b1 (o1 + 8) m := hit 8 (by simp); have K8 := Lib.hid k_8; have C8 := Lib.hid hc_8; have ce5 := (K5.out w1 (Below.refl _ _)).1; have ce7 := (K7.out w1 (Below.refl _ _)).1; have ce1 := (K1.out w1 (Below.refl _ _)).1; clear ho hb hc1 hl1 hit hb1 k_1 hc_1 k_2 hc_2 k_3 hc_3 k_4 hc_4 k_5 hc_5 k_6 hc_6 k_7 hc_7 k_8 hc_8))
    | (go_at_call 28; go_must (refine (rDecodeRoot_any A_1 c_1 x w1 (K1.out w1 (Below.refl _ _)).2 C1.out (by have h_ := L1.out; omega)).mono ?_; rintro e w2 ⟨rfl, hb⟩; rw [HX.out.1, HX.out.2, ← HXX.out]; have RN := Lib.hid (row_new w2 Y X 47); have AN := Lib.hid (heap_alloc_new w2 (.cells Y 47)); have D2 : Hid (Below w1.heap.size w1 ((w2.alloc (.cells Y 47)).setRow w2.heap.size X)) := hb.trans (RN.out.1.mono hb.size); have P2 := Lib.hid RN.out.2.1; have ce3 := (K3.out _ D2.out).1; clear hb RN))
    | (go_at_call 22; go_must (refine (rReadNum_any A_3 c_3 _ v0 _ (K3.out _ D2.out).2 (by have h_ := L3.out; omega)).mono ?_; rintro e w3 ⟨rfl, q_, hq⟩; have hb : Below ((w2.alloc (.cells Y 47)).setRow w2.heap.size X).heap.size ((w2.alloc (.cells Y 47)).setRow w2.heap.size X) w3 := (by rw [hq]; exact ⟨rfl, rfl, rfl, Nat.le_refl _, fun _ _ => rfl⟩); rw [HV.out, HNV.out]; have D3 := Lib.hid (D2.out.trans (hb.mono D2.out.size)); have P3 := Lib.hid (heap_below P2.out hb); have ce4 := (K4.out _ D3.out).1; clear hq hb))
    | (go_at_call 65; go_must (refine (rHash1_any A_4 c_4 d w3 (K4.out _ D3.out).2 C4.out (by have h_ := L4.out; omega)).mono ?_; rintro e w4 ⟨v, nh, rfl, ho, hb⟩; rw [HDD.out]; obtain ⟨Ah, ch, rfl, hch, hrh⟩ := ownR_form ho; have OH4 := Lib.hid (ownR_base ho D3.out.size); have D4 := Lib.hid (D3.out.trans (hb.mono D3.out.size)); have P4 := Lib.hid (heap_below P3.out hb); have ce6 := (K6.out _ D4.out).1; clear ho hb hch hrh))
    | (go_at_call 66; have hx_ := T1; go_must (refine (rreadNodes_any A_8 c_8 m w5 (K8.out _ D5.out).2 C8.out (by have h_ := L8.out; omega)).mono ?_; rintro e w6 ⟨v, rfl, ho, hb⟩; rw [HM2.out]; obtain ⟨Am, cm, rfl, hcm, hrm⟩ := ownR_form ho; have OM6 := Lib.hid (ownR_base ho D5.out.size); have D6 := Lib.hid (D5.out.trans (hb.mono D5.out.size)); have P6 := Lib.hid (heap_below P5.out hb); have OH6 := Lib.hid (ownR_below OH5.out hb); have ON6 := Lib.hid (ownR_below ON5.out hb); have B6 := Lib.hid (B1.out.trans ((D5.out.trans (hb.mono D5.out.size)).mono B1.out.size)); have ZK6 := Lib.hid (heap_below (heap_below ZK.out D5.out) hb); clear T1 hx_ ho hb hcm hrm))
    | (go_at_call 66; have hx_ := T0; go_must (refine (rreadNodes_any A_6 c_6 n w4 (K6.out _ D4.out).2 C6.out (by have h_ := L6.out; omega)).mono ?_; rintro e w5 ⟨v, rfl, ho, hb⟩; rw [HN.out]; obtain ⟨An, cn, rfl, hcn, hrn⟩ := ownR_form ho; have ON5 := Lib.hid (ownR_base ho D4.out.size); have D5 := Lib.hid (D4.out.trans (hb.mono D4.out.size)); have P5 := Lib.hid (heap_below P4.out hb); have OH5 := Lib.hid (ownR_below OH4.out hb); have ce8 := (K8.out _ D5.out).1; have T1 := hx_; clear T0 hx_ ho hb hcn hrn))
    | (refine wpList_store_row rfl _ _ _ rfl w2.heap.size X rfl rfl 47 Y (by with_reducible exact AN.out) (by rw [XZ.out]; kernel_rfl) (by rw [XZ.out, HYz.out]) (by rw [HXX.out]; exact root_one) ?_)
    | (refine wpList_store_row rfl _ _ _ rfl w.heap.size Z rfl rfl 57 Z (by with_reducible exact ZK6.out) (by rw [HZz.out]; kernel_rfl) (by rfl) (by exact HZo.out) ?_))
  have hld := ret57r (heap_setRow (cs := Z) ZK6.out) HZz.out
  refine bodyPost_ret (v := .tuple #[.agg Z, .int .i64 2]) (by simp [results, Try.results36, asAddr, hld]) rfl (LDP.no HD.out (by rw [← HZ.out]) ?_)
  exact B6.out.trans ((Frm.setRow _ _ _).1.below B6.out.size (by simp))
set_option maxRecDepth 100000 in
set_option maxHeartbeats 4000000 in
theorem rDL_e3 (A : Option Addr) (c : Nat) (b : List UInt8) (w : World) (hr : Reads w w.heap.size 1 A b.length (bvs b)) (hc : b.length ≤ c) (hm : b.length ≤ 140737488355328) (x a v0 d p n s m : List UInt8) (h1 : openV b lookW 8 = some [x, a, v0, d, p, n, s, m]) (hD : lookD b = none) (hp : p.length = 80) (hs : s.length = 80) (r : RootV) (hx : rootD x = some r) (hv : v0.length = 8) (hd : d.length % 32 = 0) (hn : nodesOK n = false) : Calls Try.prog 36 #[.slice A b.length c] w (LDP b w) := by
  obtain ⟨Z, hZ⟩ : ∃ Z : Array Value, Z = lookZ := ⟨_, rfl⟩
  have hz := hz57
  rw [← hZ] at hz
  have HZ := Lib.hid hZ
  have HZz : Hid (Z.size = 328) := by show _ = _; rw [hZ]; exact lookC_size rootZ_ok z80_len z80_len
  have HZo : Hid ((Z.all fun x => x.oneCell') = true) := by show _ = _; rw [hZ]; exact look_one
  obtain ⟨Y, hY⟩ : ∃ Y : Array Value, Y = rootZ.cs := ⟨_, rfl⟩
  have hy := hz47
  rw [← hY] at hy
  have HYz : Hid (Y.size = 163) := by show _ = _; rw [hY]; decide
  have F : Hid (Below w.heap.size w (w.alloc (.cells Z 57)) ∧ (w.alloc (.cells Z 57)).heap[w.heap.size]? = some (.cells Z 57 (0, 0))) := ⟨(Below.refl _ _).alloc (Nat.le_refl _) _, heap_alloc_new _ _⟩
  have R0 : Hid (Reads (w.alloc (.cells Z 57)) (w.alloc (.cells Z 57)).heap.size 1 A b.length (bvs b)) := (hr.keep fun _ hp => F.out.1.cell hp).more F.out.1.size
  have Hc := Lib.hid hc
  have Hm := Lib.hid hm
  clear hr hc hm hZ hY
  have H1 := Lib.hid h1
  have L1 := Lib.hid (openV_le2 h1 x (by simp))
  have L2 := Lib.hid (openV_le2 h1 a (by simp))
  have L3 := Lib.hid (openV_le2 h1 v0 (by simp))
  have L4 := Lib.hid (openV_le2 h1 d (by simp))
  have L5 := Lib.hid (openV_le2 h1 p (by simp))
  have L6 := Lib.hid (openV_le2 h1 n (by simp))
  have L7 := Lib.hid (openV_le2 h1 s (by simp))
  have L8 := Lib.hid (openV_le2 h1 m (by simp))
  have HD := Lib.hid hD
  have HP8 := Lib.hid hp
  have HS8 := Lib.hid hs
  have hpb : ((p.length : Int) != 80) = false := by simp; omega
  have hsb : ((s.length : Int) != 80) = false := by simp; omega
  have HX := Lib.hid (root_yes hx)
  have RXok : Hid (r.ok) := (root_enc_dec hx).2
  obtain ⟨X, hX⟩ : ∃ X : Array Value, X = r.cs := ⟨_, rfl⟩
  have HXX := Lib.hid hX
  have XZ : Hid (X.size = 163) := by show _ = _; rw [hX]; exact root_size RXok.out
  have HV : Hid (numE v0 = 0) := by show _ = _; unfold numE; rw [if_pos hv]
  have NV : Hid (numV v0 < 18446744073709551616) := numV_lt v0
  obtain ⟨nv, hnv⟩ : ∃ z : Nat, z = numV v0 := ⟨_, rfl⟩
  have HNV : Hid (numV v0 = nv) := hnv.symm
  clear hnv
  have HDD : Hid (decide (d.length % 32 = 0) = true) := by show _ = _; simp [hd]
  have HN := Lib.hid hn
  obtain ⟨gm, hgm⟩ : ∃ z : Bool, z = nodesOK m := ⟨_, rfl⟩
  have HM2 : Hid (nodesOK m = gm) := hgm.symm
  clear hgm
  clear h1 hx hX hp hs hD hv hd hn
  have T0 : Hid True := trivial
  go_enter Try.func36, Try.ntmps36
  go_wp2_with (first
    | (go_at_call 54; go_must (refine (rparts_any A c 8 b lookW 9 rfl (by decide) _ R0.out Hc.out Hm.out).mono ?_; rintro e w1 ⟨v, rfl, ho, hb⟩; rw [H1.out]; rw [(openV_list H1.out).1] at ho; obtain ⟨A1, c1, rfl, hc1, hl1⟩ := ho.lists; have B1 := Lib.hid (F.out.1.trans (hb.mono F.out.1.size)); have ZK := Lib.hid (heap_below F.out.2 hb); rw [show (some [x, a, v0, d, p, n, s, m]).isSome = true from rfl, show ([lookW, x, a, v0, d, p, n, s, m] : List (List UInt8)).length = 9 from rfl]; obtain ⟨b1, o1, rfl, hb1, hit⟩ := lists_at hl1 (by simp); obtain ⟨A_1, c_1, hc_1, k_1⟩ : ItmAt w1 b1 (o1 + 1) x := hit 1 (by simp); have K1 := Lib.hid k_1; have C1 := Lib.hid hc_1; obtain ⟨A_2, c_2, hc_2, k_2⟩ : ItmAt w1 b1 (o1 + 2) a := hit 2 (by simp); have K2 := Lib.hid k_2; have C2 := Lib.hid hc_2; obtain ⟨A_3, c_3, hc_3, k_3⟩ : ItmAt w1 b1 (o1 + 3) v0 := hit 3 (by simp); have K3 := Lib.hid k_3; have C3 := Lib.hid hc_3; obtain ⟨A_4, c_4, hc_4, k_4⟩ : ItmAt w1 b1 (o1 + 4) d := hit 4 (by simp); have K4 := Lib.hid k_4; have C4 := Lib.hid hc_4; obtain ⟨A_5, c_5, hc_5, k_5⟩ : ItmAt w1 b1 (o1 + 5) p := hit 5 (by simp); have K5 := Lib.hid k_5; have C5 := Lib.hid hc_5; obtain ⟨A_6, c_6, hc_6, k_6⟩ : ItmAt w1 b1 (o1 + 6) n := hit 6 (by simp); have K6 := Lib.hid k_6; have C6 := Lib.hid hc_6; obtain ⟨A_7, c_7, hc_7, k_7⟩ : ItmAt w1 b1 (o1 + 7) s := hit 7 (by simp); have K7 := Lib.hid k_7; have C7 := Lib.hid hc_7; obtain ⟨A_8, c_8, hc_8, k_8⟩ : ItmAt w1 b1 (o1 + 8) m := hit 8 (by simp); have K8 := Lib.hid k_8; have C8 := Lib.hid hc_8; have ce5 := (K5.out w1 (Below.refl _ _)).1; have ce7 := (K7.out w1 (Below.refl _ _)).1; have ce1 := (K1.out w1 (Below.refl _ _)).1; clear ho hb hc1 hl1 hit hb1 k_1 hc_1 k_2 hc_2 k_3 hc_3 k_4 hc_4 k_5 hc_5 k_6 hc_6 k_7 hc_7 k_8 hc_8))
    | (go_at_call 28; go_must (refine (rDecodeRoot_any A_1 c_1 x w1 (K1.out w1 (Below.refl _ _)).2 C1.out (by have h_ := L1.out; omega)).mono ?_; rintro e w2 ⟨rfl, hb⟩; rw [HX.out.1, HX.out.2, ← HXX.out]; have RN := Lib.hid (row_new w2 Y X 47); have AN := Lib.hid (heap_alloc_new w2 (.cells Y 47)); have D2 : Hid (Below w1.heap.size w1 ((w2.alloc (.cells Y 47)).setRow w2.heap.size X)) := hb.trans (RN.out.1.mono hb.size); have P2 := Lib.hid RN.out.2.1; have ce3 := (K3.out _ D2.out).1; clear hb RN))
    | (go_at_call 22; go_must (refine (rReadNum_any A_3 c_3 _ v0 _ (K3.out _ D2.out).2 (by have h_ := L3.out; omega)).mono ?_; rintro e w3 ⟨rfl, q_, hq⟩; have hb : Below ((w2.alloc (.cells Y 47)).setRow w2.heap.size X).heap.size ((w2.alloc (.cells Y 47)).setRow w2.heap.size X) w3 := (by rw [hq]; exact ⟨rfl, rfl, rfl, Nat.le_refl _, fun _ _ => rfl⟩); rw [HV.out, HNV.out]; have D3 := Lib.hid (D2.out.trans (hb.mono D2.out.size)); have P3 := Lib.hid (heap_below P2.out hb); have ce4 := (K4.out _ D3.out).1; clear hq hb))
    | (go_at_call 65; go_must (refine (rHash1_any A_4 c_4 d w3 (K4.out _ D3.out).2 C4.out (by have h_ := L4.out; omega)).mono ?_; rintro e w4 ⟨v, nh, rfl, ho, hb⟩; rw [HDD.out]; obtain ⟨Ah, ch, rfl, hch, hrh⟩ := ownR_form ho; have OH4 := Lib.hid (ownR_base ho D3.out.size); have D4 := Lib.hid (D3.out.trans (hb.mono D3.out.size)); have P4 := Lib.hid (heap_below P3.out hb); have ce6 := (K6.out _ D4.out).1; clear ho hb hch hrh))
    | (go_at_call 66; have hx_ := T1; go_must (refine (rreadNodes_any A_8 c_8 m w5 (K8.out _ D5.out).2 C8.out (by have h_ := L8.out; omega)).mono ?_; rintro e w6 ⟨v, rfl, ho, hb⟩; rw [HM2.out]; obtain ⟨Am, cm, rfl, hcm, hrm⟩ := ownR_form ho; have OM6 := Lib.hid (ownR_base ho D5.out.size); have D6 := Lib.hid (D5.out.trans (hb.mono D5.out.size)); have P6 := Lib.hid (heap_below P5.out hb); have OH6 := Lib.hid (ownR_below OH5.out hb); have ON6 := Lib.hid (ownR_below ON5.out hb); have B6 := Lib.hid (B1.out.trans ((D5.out.trans (hb.mono D5.out.size)).mono B1.out.size)); have ZK6 := Lib.hid (heap_below (heap_below ZK.out D5.out) hb); clear T1 hx_ ho hb hcm hrm))
    | (go_at_call 66; have hx_ := T0; go_must (refine (rreadNodes_any A_6 c_6 n w4 (K6.out _ D4.out).2 C6.out (by have h_ := L6.out; omega)).mono ?_; rintro e w5 ⟨v, rfl, ho, hb⟩; rw [HN.out]; obtain ⟨An, cn, rfl, hcn, hrn⟩ := ownR_form ho; have ON5 := Lib.hid (ownR_base ho D4.out.size); have D5 := Lib.hid (D4.out.trans (hb.mono D4.out.size)); have P5 := Lib.hid (heap_below P4.out hb); have OH5 := Lib.hid (ownR_below OH4.out hb); have ce8 := (K8.out _ D5.out).1; have T1 := hx_; clear T0 hx_ ho hb hcn hrn))
    | (refine wpList_store_row rfl _ _ _ rfl w2.heap.size X rfl rfl 47 Y (by with_reducible exact AN.out) (by rw [XZ.out]; kernel_rfl) (by rw [XZ.out, HYz.out]) (by rw [HXX.out]; exact root_one) ?_)
    | (refine wpList_store_row rfl _ _ _ rfl w.heap.size Z rfl rfl 57 Z (by with_reducible exact ZK6.out) (by rw [HZz.out]; kernel_rfl) (by rfl) (by exact HZo.out) ?_))
  have hld := ret57r (heap_setRow (cs := Z) ZK6.out) HZz.out
  refine bodyPost_ret (v := .tuple #[.agg Z, .int .i64 2]) (by simp [results, Try.results36, asAddr, hld]) rfl (LDP.no HD.out (by rw [← HZ.out]) ?_)
  exact B6.out.trans ((Frm.setRow _ _ _).1.below B6.out.size (by simp))
set_option maxRecDepth 100000 in
set_option maxHeartbeats 4000000 in
theorem rDL_e4 (A : Option Addr) (c : Nat) (b : List UInt8) (w : World) (hr : Reads w w.heap.size 1 A b.length (bvs b)) (hc : b.length ≤ c) (hm : b.length ≤ 140737488355328) (x a v0 d p n s m : List UInt8) (h1 : openV b lookW 8 = some [x, a, v0, d, p, n, s, m]) (hD : lookD b = none) (hp : p.length = 80) (hs : s.length = 80) (r : RootV) (hx : rootD x = some r) (hv : v0.length = 8) (hd : d.length % 32 = 0) (hn : nodesOK n = true) (hmm : nodesOK m = false) : Calls Try.prog 36 #[.slice A b.length c] w (LDP b w) := by
  obtain ⟨Z, hZ⟩ : ∃ Z : Array Value, Z = lookZ := ⟨_, rfl⟩
  have hz := hz57
  rw [← hZ] at hz
  have HZ := Lib.hid hZ
  have HZz : Hid (Z.size = 328) := by show _ = _; rw [hZ]; exact lookC_size rootZ_ok z80_len z80_len
  have HZo : Hid ((Z.all fun x => x.oneCell') = true) := by show _ = _; rw [hZ]; exact look_one
  obtain ⟨Y, hY⟩ : ∃ Y : Array Value, Y = rootZ.cs := ⟨_, rfl⟩
  have hy := hz47
  rw [← hY] at hy
  have HYz : Hid (Y.size = 163) := by show _ = _; rw [hY]; decide
  have F : Hid (Below w.heap.size w (w.alloc (.cells Z 57)) ∧ (w.alloc (.cells Z 57)).heap[w.heap.size]? = some (.cells Z 57 (0, 0))) := ⟨(Below.refl _ _).alloc (Nat.le_refl _) _, heap_alloc_new _ _⟩
  have R0 : Hid (Reads (w.alloc (.cells Z 57)) (w.alloc (.cells Z 57)).heap.size 1 A b.length (bvs b)) := (hr.keep fun _ hp => F.out.1.cell hp).more F.out.1.size
  have Hc := Lib.hid hc
  have Hm := Lib.hid hm
  clear hr hc hm hZ hY
  have H1 := Lib.hid h1
  have L1 := Lib.hid (openV_le2 h1 x (by simp))
  have L2 := Lib.hid (openV_le2 h1 a (by simp))
  have L3 := Lib.hid (openV_le2 h1 v0 (by simp))
  have L4 := Lib.hid (openV_le2 h1 d (by simp))
  have L5 := Lib.hid (openV_le2 h1 p (by simp))
  have L6 := Lib.hid (openV_le2 h1 n (by simp))
  have L7 := Lib.hid (openV_le2 h1 s (by simp))
  have L8 := Lib.hid (openV_le2 h1 m (by simp))
  have HD := Lib.hid hD
  have HP8 := Lib.hid hp
  have HS8 := Lib.hid hs
  have hpb : ((p.length : Int) != 80) = false := by simp; omega
  have hsb : ((s.length : Int) != 80) = false := by simp; omega
  have HX := Lib.hid (root_yes hx)
  have RXok : Hid (r.ok) := (root_enc_dec hx).2
  obtain ⟨X, hX⟩ : ∃ X : Array Value, X = r.cs := ⟨_, rfl⟩
  have HXX := Lib.hid hX
  have XZ : Hid (X.size = 163) := by show _ = _; rw [hX]; exact root_size RXok.out
  have HV : Hid (numE v0 = 0) := by show _ = _; unfold numE; rw [if_pos hv]
  have NV : Hid (numV v0 < 18446744073709551616) := numV_lt v0
  obtain ⟨nv, hnv⟩ : ∃ z : Nat, z = numV v0 := ⟨_, rfl⟩
  have HNV : Hid (numV v0 = nv) := hnv.symm
  clear hnv
  have HDD : Hid (decide (d.length % 32 = 0) = true) := by show _ = _; simp [hd]
  have HN := Lib.hid hn
  have HM2 := Lib.hid hmm
  clear h1 hx hX hp hs hD hv hd hn hmm
  have T0 : Hid True := trivial
  go_enter Try.func36, Try.ntmps36
  go_wp2_with (first
    | (go_at_call 54; go_must (refine (rparts_any A c 8 b lookW 9 rfl (by decide) _ R0.out Hc.out Hm.out).mono ?_; rintro e w1 ⟨v, rfl, ho, hb⟩; rw [H1.out]; rw [(openV_list H1.out).1] at ho; obtain ⟨A1, c1, rfl, hc1, hl1⟩ := ho.lists; have B1 := Lib.hid (F.out.1.trans (hb.mono F.out.1.size)); have ZK := Lib.hid (heap_below F.out.2 hb); rw [show (some [x, a, v0, d, p, n, s, m]).isSome = true from rfl, show ([lookW, x, a, v0, d, p, n, s, m] : List (List UInt8)).length = 9 from rfl]; obtain ⟨b1, o1, rfl, hb1, hit⟩ := lists_at hl1 (by simp); obtain ⟨A_1, c_1, hc_1, k_1⟩ : ItmAt w1 b1 (o1 + 1) x := hit 1 (by simp); have K1 := Lib.hid k_1; have C1 := Lib.hid hc_1; obtain ⟨A_2, c_2, hc_2, k_2⟩ : ItmAt w1 b1 (o1 + 2) a := hit 2 (by simp); have K2 := Lib.hid k_2; have C2 := Lib.hid hc_2; obtain ⟨A_3, c_3, hc_3, k_3⟩ : ItmAt w1 b1 (o1 + 3) v0 := hit 3 (by simp); have K3 := Lib.hid k_3; have C3 := Lib.hid hc_3; obtain ⟨A_4, c_4, hc_4, k_4⟩ : ItmAt w1 b1 (o1 + 4) d := hit 4 (by simp); have K4 := Lib.hid k_4; have C4 := Lib.hid hc_4; obtain ⟨A_5, c_5, hc_5, k_5⟩ : ItmAt w1 b1 (o1 + 5) p := hit 5 (by simp); have K5 := Lib.hid k_5; have C5 := Lib.hid hc_5; obtain ⟨A_6, c_6, hc_6, k_6⟩ : ItmAt w1 b1 (o1 + 6) n := hit 6 (by simp); have K6 := Lib.hid k_6; have C6 := Lib.hid hc_6; obtain ⟨A_7, c_7, hc_7, k_7⟩ : ItmAt w1 b1 (o1 + 7) s := hit 7 (by simp); have K7 := Lib.hid k_7; have C7 := Lib.hid hc_7; obtain ⟨A_8, c_8, hc_8, k_8⟩ : ItmAt w1 b1 (o1 + 8) m := hit 8 (by simp); have K8 := Lib.hid k_8; have C8 := Lib.hid hc_8; have ce5 := (K5.out w1 (Below.refl _ _)).1; have ce7 := (K7.out w1 (Below.refl _ _)).1; have ce1 := (K1.out w1 (Below.refl _ _)).1; clear ho hb hc1 hl1 hit hb1 k_1 hc_1 k_2 hc_2 k_3 hc_3 k_4 hc_4 k_5 hc_5 k_6 hc_6 k_7 hc_7 k_8 hc_8))
    | (go_at_call 28; go_must (refine (rDecodeRoot_any A_1 c_1 x w1 (K1.out w1 (Below.refl _ _)).2 C1.out (by have h_ := L1.out; omega)).mono ?_; rintro e w2 ⟨rfl, hb⟩; rw [HX.out.1, HX.out.2, ← HXX.out]; have RN := Lib.hid (row_new w2 Y X 47); have AN := Lib.hid (heap_alloc_new w2 (.cells Y 47)); have D2 : Hid (Below w1.heap.size w1 ((w2.alloc (.cells Y 47)).setRow w2.heap.size X)) := hb.trans (RN.out.1.mono hb.size); have P2 := Lib.hid RN.out.2.1; have ce3 := (K3.out _ D2.out).1; clear hb RN))
    | (go_at_call 22; go_must (refine (rReadNum_any A_3 c_3 _ v0 _ (K3.out _ D2.out).2 (by have h_ := L3.out; omega)).mono ?_; rintro e w3 ⟨rfl, q_, hq⟩; have hb : Below ((w2.alloc (.cells Y 47)).setRow w2.heap.size X).heap.size ((w2.alloc (.cells Y 47)).setRow w2.heap.size X) w3 := (by rw [hq]; exact ⟨rfl, rfl, rfl, Nat.le_refl _, fun _ _ => rfl⟩); rw [HV.out, HNV.out]; have D3 := Lib.hid (D2.out.trans (hb.mono D2.out.size)); have P3 := Lib.hid (heap_below P2.out hb); have ce4 := (K4.out _ D3.out).1; clear hq hb))
    | (go_at_call 65; go_must (refine (rHash1_any A_4 c_4 d w3 (K4.out _ D3.out).2 C4.out (by have h_ := L4.out; omega)).mono ?_; rintro e w4 ⟨v, nh, rfl, ho, hb⟩; rw [HDD.out]; obtain ⟨Ah, ch, rfl, hch, hrh⟩ := ownR_form ho; have OH4 := Lib.hid (ownR_base ho D3.out.size); have D4 := Lib.hid (D3.out.trans (hb.mono D3.out.size)); have P4 := Lib.hid (heap_below P3.out hb); have ce6 := (K6.out _ D4.out).1; clear ho hb hch hrh))
    | (go_at_call 66; have hx_ := T1; go_must (refine (rreadNodes_any A_8 c_8 m w5 (K8.out _ D5.out).2 C8.out (by have h_ := L8.out; omega)).mono ?_; rintro e w6 ⟨v, rfl, ho, hb⟩; rw [HM2.out]; obtain ⟨Am, cm, rfl, hcm, hrm⟩ := ownR_form ho; have OM6 := Lib.hid (ownR_base ho D5.out.size); have D6 := Lib.hid (D5.out.trans (hb.mono D5.out.size)); have P6 := Lib.hid (heap_below P5.out hb); have OH6 := Lib.hid (ownR_below OH5.out hb); have ON6 := Lib.hid (ownR_below ON5.out hb); have B6 := Lib.hid (B1.out.trans ((D5.out.trans (hb.mono D5.out.size)).mono B1.out.size)); have ZK6 := Lib.hid (heap_below (heap_below ZK.out D5.out) hb); clear T1 hx_ ho hb hcm hrm))
    | (go_at_call 66; have hx_ := T0; go_must (refine (rreadNodes_any A_6 c_6 n w4 (K6.out _ D4.out).2 C6.out (by have h_ := L6.out; omega)).mono ?_; rintro e w5 ⟨v, rfl, ho, hb⟩; rw [HN.out]; obtain ⟨An, cn, rfl, hcn, hrn⟩ := ownR_form ho; have ON5 := Lib.hid (ownR_base ho D4.out.size); have D5 := Lib.hid (D4.out.trans (hb.mono D4.out.size)); have P5 := Lib.hid (heap_below P4.out hb); have OH5 := Lib.hid (ownR_below OH4.out hb); have ce8 := (K8.out _ D5.out).1; have T1 := hx_; clear T0 hx_ ho hb hcn hrn))
    | (refine wpList_store_row rfl _ _ _ rfl w2.heap.size X rfl rfl 47 Y (by with_reducible exact AN.out) (by rw [XZ.out]; kernel_rfl) (by rw [XZ.out, HYz.out]) (by rw [HXX.out]; exact root_one) ?_)
    | (refine wpList_store_row rfl _ _ _ rfl w.heap.size Z rfl rfl 57 Z (by with_reducible exact ZK6.out) (by rw [HZz.out]; kernel_rfl) (by rfl) (by exact HZo.out) ?_))
  have hld := ret57r (heap_setRow (cs := Z) ZK6.out) HZz.out
  refine bodyPost_ret (v := .tuple #[.agg Z, .int .i64 2]) (by simp [results, Try.results36, asAddr, hld]) rfl (LDP.no HD.out (by rw [← HZ.out]) ?_)
  exact B6.out.trans ((Frm.setRow _ _ _).1.below B6.out.size (by simp))
end Go.Proofs.Ytbpgbihcihnieaa

namespace Go.Proofs.Ytbpgbihcihnieaa
open Go.RowKit
theorem lookO_no {x a v d p n s m : List UInt8} (h : (rootD x).isSome = false ∨ lookOK v p s d n m = false) : lookO (some [x, a, v, d, p, n, s, m]) = none := by
  simp only [lookO]
  cases hx : rootD x with
  | none => rfl
  | some r =>
    simp only
    rw [if_neg]
    intro h2
    rcases h with h | h
    · rw [hx] at h; cases h
    · rw [h2] at h; cases h
theorem rDecodeLookup_any (A : Option Addr) (c : Nat) (b : List UInt8) (w : World) (hr : Reads w w.heap.size 1 A b.length (bvs b)) (hc : b.length ≤ c) (hm : b.length ≤ 140737488355328) : Calls Try.prog 36 #[.slice A b.length c] w (LDP b w) := by
  cases h1 : openV b lookW 8 with
  | none => exact rDL_a A c b w hr hc hm (by unfold lookD; rw [h1]; rfl) h1
  | some ls =>
    obtain ⟨x, a, v, d, p, n, s, m, rfl⟩ := eight_of (openV_length h1)
    have no : ((rootD x).isSome = false ∨ lookOK v p s d n m = false) → lookD b = none := fun h => by unfold lookD; rw [h1]; exact lookO_no h
    by_cases hp : p.length = 80
    · by_cases hs : s.length = 80
      · cases hx : rootD x with
        | none => exact rDL_e0 A c b w hr hc hm x a v d p n s m h1 (no (.inl (by rw [hx]; rfl))) hp hs hx
        | some r =>
          by_cases hv : v.length = 8
          · by_cases hd : d.length % 32 = 0
            · cases hn : nodesOK n with
              | false => exact rDL_e3 A c b w hr hc hm x a v d p n s m h1 (no (.inr (by simp [lookOK, hn]))) hp hs r hx hv hd hn
              | true =>
                cases hmm : nodesOK m with
                | false => exact rDL_e4 A c b w hr hc hm x a v d p n s m h1 (no (.inr (by simp [lookOK, hmm]))) hp hs r hx hv hd hn hmm
                | true => exact rDL_ok A c b w hr hc hm x a v d p n s m h1 hp hs r hx hv hd hn hmm
            · exact rDL_e2 A c b w hr hc hm x a v d p n s m h1 (no (.inr (by simp [lookOK, hd]))) hp hs r hx hv hd
          · exact rDL_e1 A c b w hr hc hm x a v d p n s m h1 (no (.inr (by simp [lookOK, hv]))) hp hs r hx hv
      · exact rDL_s A c b w hr hc hm x a v d p n s m h1 (no (.inr (by simp [lookOK, hs]))) hp hs
    · exact rDL_p A c b w hr hc hm x a v d p n s m h1 (no (.inr (by simp [lookOK, hp]))) hp
end Go.Proofs.Ytbpgbihcihnieaa
