/- The texts N6c of this work, merged by wip/merge.py. No conditions. -/
import Derived.Test.YtbpgbihcihnieaaQN6b
namespace Go.Proofs.Ytbpgbihcihnieaa
open Go.RowKit
def IT2 (w : World) (a : Value) (l : List UInt8) (b : Value) (m : List UInt8) : Prop := Itm w a l ∧ Itm w b m
theorem IT2.below {w w' : World} {a b : Value} {l m : List UInt8} (h : IT2 w a l b m) (hb : Below w.heap.size w w') : IT2 w' a l b m := ⟨h.1.below hb, h.2.below hb⟩
theorem IT2.cells {w w' : World} {a b : Value} {l m : List UInt8} (h : IT2 w a l b m) (hc : ∀ x, w'.cell? x = w.cell? x) (hs : w'.heap.size = w.heap.size) : IT2 w' a l b m := ⟨h.1.cells hc hs, h.2.cells hc hs⟩
def WJs (w : World) (cs : Array Value) (r : RootV) (ns : List NodeV) (ad lk : List UInt8) (An Aa Al : Option Addr) (cn na ca nl cl : Nat) (v4 v6 u8 u23 u24 u25 u26 u27 u28 u29 u30 u31 u32 : Value) (d : Nat → Bool) (a : Act) (w' : World) : Prop :=
  ∃ x33 x34 x37 x42 : Value, a = { tmps := #[.agg cs, .pointer (some ⟨w.heap.size, 0, none⟩), .slice none 0 0, .int .i64 0, v4, .int .i64 0, v6, undef, u8, .tuple #[v4, .int .i64 0], .pointer (some ⟨w.heap.size, 163, none⟩), .slice An ns.length cn, .tuple #[v4, .int .i64 0], v4, .int .i64 0, .int .i64 0, .bool false, undef, .pointer (some ⟨w.heap.size, 164, none⟩), .slice Aa na ca, .int .i64 (na : Int), .int .i64 (na : Int), .bool false, u23, u24, u25, u26, u27, u28, u29, u30, u31, u32, x33, x34, .pointer (some ⟨w.heap.size, 0, none⟩), .agg r.cs, x37, v4, v6, .pointer (some ⟨w.heap.size, 165, none⟩), .slice Al nl cl, x42, undef, undef, undef, undef], defers := [] } ∧
    Hid (Below w.heap.size w w' ∧ w'.heap[w.heap.size]? = some (.cells cs 66 (0, 0)) ∧ IT2 w' v4 (nodesB ns) v6 ad ∧ WJ d 0 1 w.heap.size x33 x34 #[.int .u8 115, .int .u8 116, .int .u8 101, .int .u8 112] 4 stepW w' ∧ IJ d 4 x37 (signB r) w' ∧ IJ d 9 x42 lk w')
set_option maxRecDepth 100000 in
set_option maxHeartbeats 4000000 in
theorem EncodeStep_no (w : World) (cs : Array Value) (r : RootV) (ns : List NodeV) (ad lk : List UInt8) (An Aa Al : Option Addr) (cn na ca nl cl : Nat) (hs : StepIn w cs r ns ad lk An Aa Al cn na ca nl cl) (hg : nodesG ns = false) : Calls Try.prog 38 #[.agg cs] w (StepPost r ns ad lk w) := by
  have hsz := hs.size
  have F : Hid (Below w.heap.size w (w.alloc (.cells cs 66)) ∧ (w.alloc (.cells cs 66)).heap[w.heap.size]? = some (.cells cs 66 (0, 0))) := ⟨(Below.refl _ _).alloc (Nat.le_refl _) _, heap_alloc_new w _⟩
  have HS := Lib.hid hs
  have HZ := Lib.hid hsz
  obtain ⟨e163, e164, e165, er⟩ := hs.at_ F.out.2
  clear hs hsz er e164 e165
  have HG := Lib.hid hg
  have HE := Lib.hid (nodesE_no hg)
  clear hg
  go_enter Try.func38, Try.ntmps38
  go_wp2_with (go_at_call 57; go_must (refine (nodes_any An ns.length cn ns _ ⟨HS.out.hns.1, (HS.out.hns.2.keep fun _ hp => F.out.1.cell hp).more F.out.1.size⟩ rfl HS.out.hnl).mono ?_; rintro e w1 ⟨v, rfl, ho, hb⟩; rw [HE.out]; obtain ⟨A1, c1, rfl, hc1, hr1⟩ := own8_form ho; have I1 := Lib.hid (Itm.own ho); have B1 := Lib.hid (F.out.1.trans (hb.mono F.out.1.size)); have R1 := Lib.hid (heap_below F.out.2 hb); have e164' := (HS.out.at_ R1.out).2.1; clear ho hb hc1 hr1))
  go_ret2
  exact ⟨.slice none 0 0, by unfold stepE; rw [HG.out]; rfl, by unfold stepB; rw [HG.out]; exact own8_nil _ _, B1.out⟩
set_option maxRecDepth 100000 in
set_option maxHeartbeats 4000000 in
theorem EncodeStep_yes (w : World) (cs : Array Value) (r : RootV) (ns : List NodeV) (ad lk : List UInt8) (An Aa Al : Option Addr) (cn na ca nl cl : Nat) (hs : StepIn w cs r ns ad lk An Aa Al cn na ca nl cl) (hg : nodesG ns = true) : Calls Try.prog 38 #[.agg cs] w (StepPost r ns ad lk w) := by
  have hsz := hs.size
  have F : Hid (Below w.heap.size w (w.alloc (.cells cs 66)) ∧ (w.alloc (.cells cs 66)).heap[w.heap.size]? = some (.cells cs 66 (0, 0))) := ⟨(Below.refl _ _).alloc (Nat.le_refl _) _, heap_alloc_new w _⟩
  have HS := Lib.hid hs
  have HZ := Lib.hid hsz
  obtain ⟨e163, e164, e165, er⟩ := hs.at_ F.out.2
  clear hs hsz er e164 e165
  have HG := Lib.hid hg
  have HE := Lib.hid (nodesE_yes hg)
  clear hg
  obtain ⟨zs, hzz, hzl⟩ := zeroLeaf
  have ZS := Lib.hid hzz
  have HL : Hid (ad.length = na * 64) := by have h_ := HS.out.had.1; rwa [bvs_length] at h_
  have hnb : (na : Int) ≤ 140737488355328 := by have h_ := HL.out; have h2_ := HS.out.hal; omega
  clear hzz
  go_enter Try.func38, Try.ntmps38
  go_wp2_with (go_at_call 57; go_must (refine (nodes_any An ns.length cn ns _ ⟨HS.out.hns.1, (HS.out.hns.2.keep fun _ hp => F.out.1.cell hp).more F.out.1.size⟩ rfl HS.out.hnl).mono ?_; rintro e w1 ⟨v, rfl, ho, hb⟩; rw [HE.out]; obtain ⟨A1, c1, rfl, hc1, hr1⟩ := own8_form ho; have I1 := Lib.hid (Itm.own ho); have B1 := Lib.hid (F.out.1.trans (hb.mono F.out.1.size)); have R1 := Lib.hid (heap_below F.out.2 hb); have e164' := (HS.out.at_ R1.out).2.1; clear ho hb hc1 hr1))
  go_loopw [6, 21] (fun v i wr => ∃ k : Nat, k ≤ na ∧ i = .int .i64 (k : Int) ∧ Hid (Own8 wr w1.heap.size v (ad.take (k * 64)) ∧ Below w1.heap.size w1 wr)) (fun _ i _ => na - (intOf i).toNat)
  case atStart => exact ⟨0, Nat.zero_le _, rfl, by rw [Nat.zero_mul]; exact own8_nil _ _, Below.refl _ _⟩
  case round =>
    obtain ⟨k, hk, rfl, hO⟩ := hrel
    have BW := Lib.hid (B1.out.trans (hO.out.2.mono B1.out.size))
    by_cases hlt : k < na
    · have hlt' : (k : Int) < (na : Int) := by omega
      have hk0 : (0 : Int) ≤ (k : Int) := by omega
      obtain ⟨b, off, hA, hb, hall⟩ := flat_open HS.out.had (by omega) (by decide)
      subst hA
      have hks : k * 64 + 64 ≤ ad.length := by have h_ := HL.out; omega
      have HK := Lib.hid hks
      obtain ⟨pc, hpc⟩ : ∃ pc : Array Value, pc = (bvs (piece ad 64 k)).toArray := ⟨_, rfl⟩
      have HP := Lib.hid hpc
      have PZ : Hid (pc.size = 64) := by show _ = _; rw [hpc]; simp [bvs_length, piece_length HL.out hlt]
      have RG : Hid (wr.rangeAt b (off + k * 64) pc.toList) := by show World.rangeAt _ _ _ _; rw [hpc]; exact flat_range HL.out hlt (hall wr BW.out)
      have RN := Lib.hid (row_new wr zs pc 108)
      have AN := Lib.hid (heap_alloc_new wr (.cells zs 108))
      have O0 := Lib.hid (own8_below hO.out.1 RN.out.1)
      have B0 := Lib.hid (hO.out.2.trans (RN.out.1.mono hO.out.2.size))
      have P0 := Lib.hid RN.out.2.1
      have NE0 := Lib.hid (own_ne_new hO.out.1)
      clear hpc hall hb hks
      go_wp2_with (first
        | (refine wpList_load_arr rfl _ _ rfl b (off + k * 64) rfl pc _ (by with_reducible exact RG.out) Try.underlying108 rfl (by rw [PZ.out]; kernel_rfl) ?_)
        | (refine wpList_store_row rfl _ _ _ rfl wr.heap.size pc rfl rfl 108 zs (by with_reducible exact AN.out) (by rw [PZ.out]; kernel_rfl) (by rw [PZ.out, ZS.out]) (by rw [HP.out]; exact all_oneCell_toArray (bvs_one _)) ?_))
      refine AnyC.startB (fun _ => True) (by kernel_rfl) rfl ?_
      intro w0 hb0 hs0
      clear hs0
      have O1 := Lib.hid (own8_below O0.out hb0)
      have B1_ := Lib.hid (B0.out.trans (hb0.mono B0.out.size))
      have P1 := Lib.hid (heap_below P0.out hb0)
      clear hb0
      apply AnyC.take (i := 0) rfl (by kernel_rfl) rfl
      · intro w' hC K hK
        go_wp2
        exact hK
      · rfl
      apply AnyC.take (i := 1) rfl (by kernel_rfl) rfl
      · intro w' hC K hK
        go_wp2
        exact hK
      · rfl
      apply AnyC.take (i := 2) rfl (by kernel_rfl) rfl
      · intro w' hC K hK
        go_wp2
        exact hK
      · rfl
      apply AnyC.take (i := 4) rfl (by kernel_rfl) rfl
      · intro w' hC K hK
        go_wp2
        exact hK
      · rfl
      apply AnyC.take (i := 5) rfl (by kernel_rfl) rfl
      · intro w' hC K hK
        go_wp2
        exact hK
      · rfl
      apply AnyC.solo (i := 3) rfl (by kernel_rfl) trivial
      refine app8 (l := ad.take (k * 64)) rfl rfl rfl rfl O1.out (seg_block (p := 0) (q := k * 64) P1.out HP.out (by decide) HK.out (by omega)) (by have h_ := HS.out.hal; have h2_ := HK.out; simp; omega) B1_.out.size ?_
      intro v2 w2 hown hg hx
      have P2 := Lib.hid (own_other P1.out hg NE0.out)
      have B2 := Lib.hid (below_own8 B1_.out O1.out hg)
      rw [seg_next' ad (q := k * 64 + 32) (by omega)] at hown
      have O2 := Lib.hid hown
      clear hown hg hx
      go_wp2
      refine ⟨rfl, ?_⟩
      apply AnyC.solo (i := 6) rfl (by kernel_rfl) trivial
      refine app8 (l := ad.take (k * 64 + 32)) rfl rfl rfl rfl O2.out (seg_block (p := 32) (q := k * 64 + 32) P2.out HP.out (by decide) HK.out (by omega)) (by have h_ := HS.out.hal; have h2_ := HK.out; simp; omega) B2.out.size ?_
      intro v3 w3 hown hg hx
      have B3 := Lib.hid (below_own8 B2.out O2.out hg)
      rw [seg_next' ad (q := (k + 1) * 64) (by omega)] at hown
      have O3 := Lib.hid hown
      clear hown hg hx
      go_wp2
      refine ⟨rfl, ?_⟩
      apply AnyC.take (i := 7) rfl (by kernel_rfl) rfl
      · intro w' hC K hK
        go_wp2
        exact hK
      · rfl
      refine AnyC.done trivial (by kernel_rfl) ?_
      go_wp2
      go_roundw
      case rel => exact ⟨k + 1, hlt, by go_num, O3.out, B3.out⟩
      case measure => simp [intOf]; omega
    · obtain rfl : k = na := by omega
      go_wp2
      have O6 : Hid (Own8 wr w1.heap.size u6 ad) := by
        have h1 := hO.out.1
        rw [List.take_of_length_le (by rw [HL.out]; exact Nat.le_refl _)] at h1
        exact h1
      have D6 := Lib.hid (Itm.own O6.out)
      obtain ⟨A6, c6, rfl, hc6, hr6⟩ := own8_form O6.out
      have IN := Lib.hid (I1.out.below hO.out.2)
      have RW := Lib.hid (heap_below R1.out hO.out.2)
      clear hc6 hr6 O6 hO e163 e164' hk hlt
      refine AnyC.startB (fun w' => w'.heap[w.heap.size]? = some (.cells cs 66 (0, 0))) (by kernel_rfl) rfl ?_
      intro w4 hb4 hs4
      clear hs4
      have B4 := Lib.hid (BW.out.trans (hb4.mono BW.out.size))
      have R4 := Lib.hid (heap_below RW.out hb4)
      have I4 : Hid (IT2 w4 (.slice A1 (nodesB ns).length c1) (nodesB ns) (.slice A6 ad.length c6) ad) := ⟨IN.out.below hb4, D6.out.below hb4⟩
      clear hb4
      apply AnyC.take (i := 2) rfl (by kernel_rfl) rfl
      · intro w' hC K hK
        go_wp2
        exact hK
      · rfl
      apply AnyC.take (i := 3) rfl (by kernel_rfl) rfl
      · intro w' hC K hK
        refine wpList_load_arr rfl _ _ rfl w.heap.size 0 rfl r.cs _ (HS.out.at_ hC).2.2.2 Try.underlying47 rfl (by rw [root_size HS.out.hok]; kernel_rfl) ?_
        go_wp2
        exact hK
      · rfl
      apply AnyC.take (i := 5) rfl (by kernel_rfl) rfl
      · intro w' hC K hK
        go_wp2
        exact hK
      · rfl
      apply AnyC.take (i := 6) rfl (by kernel_rfl) rfl
      · intro w' hC K hK
        go_wp2
        exact hK
      · rfl
      apply AnyC.take (i := 7) rfl (by kernel_rfl) rfl
      · intro w' hC K hK
        go_wp2
        exact hK
      · rfl
      apply AnyC.take (i := 8) rfl (by kernel_rfl) rfl
      · intro w' hC K hK
        obtain ⟨_, _, e165, _⟩ := HS.out.at_ hC
        go_wp2
        exact hK
      · rfl
      refine AnyC.bunch [0, 1, 4, 9] (WJs w cs r ns ad lk An Aa Al cn k ca nl cl (.slice A1 (nodesB ns).length c1) (.slice A6 ad.length c6) u8 u23 u24 u25 u26 u27 u28 u29 u30 u31 u32) (by decide) (by kernel_rfl) (by kernel_rfl) ?_ ?_ ?_ ?_
      · rintro d a w' ⟨_, _, _, _, _, h⟩
        exact h.out.2.1
      · intro i hi oi hoi d a w' hJ hd hdep
        obtain ⟨x33, x34, x37, x42, rfl, h⟩ := hJ
        simp only [List.mem_cons, List.not_mem_nil, or_false] at hi
        rcases hi with rfl | rfl | rfl | rfl
        · obtain rfl := Option.some.inj (hoi.symm.trans rfl)
          go_wp2
          have hb : ∀ o, Below w'.heap.size w' (w'.alloc o) := fun o => (Below.refl _ _).alloc (Nat.le_refl _) _
          refine ⟨rfl, .slice (some ⟨w'.heap.size, 0, none⟩) 4 4, x34, x37, x42, rfl, ?_⟩
          exact ⟨h.out.1.trans ((hb _).mono h.out.1.size), heap_below h.out.2.1 (hb _), h.out.2.2.1.below (hb _), ⟨fun _ _ => ⟨_, rfl, lt_of_heap h.out.2.1, heap_alloc_new _ _⟩, fun h1 => (h.out.2.2.2.1.2 h1).below (hb _)⟩, h.out.2.2.2.2.1.below (hb _), h.out.2.2.2.2.2.below (hb _)⟩
        · obtain rfl := Option.some.inj (hoi.symm.trans rfl)
          obtain ⟨bq, rfl, hB, hq⟩ := h.out.2.2.2.1.1 hd (hdep 0 (by simp) (by kernel_rfl))
          have hcv := run_conv_mark (n := 4) (c := 4) (m := 4) hq rfl
          have MW := Lib.hid (mark_world (n := 4) hq)
          have HQ := Lib.hid hq
          have HB := Lib.hid hB
          clear hq hB
          go_wp2
          refine ⟨rfl, .slice (some ⟨bq, 0, none⟩) 4 4, .slice (some ⟨bq, 0, none⟩) 4 4, x37, x42, rfl, ?_⟩
          exact ⟨h.out.1.trans (MW.out.2.2.2 _ (Nat.le_of_lt HB.out)), (MW.out.2.2.1 _ (Nat.ne_of_lt HB.out)).trans h.out.2.1, h.out.2.2.1.cells MW.out.1 MW.out.2.1, ⟨fun h1 => absurd h1 (by simp), fun _ => (Itm.row (n := 4) HQ.out stepW_cells rfl).cells MW.out.1 MW.out.2.1⟩, h.out.2.2.2.2.1.cells MW.out.1 MW.out.2.1, h.out.2.2.2.2.2.cells MW.out.1 MW.out.2.1⟩
        · obtain rfl := Option.some.inj (hoi.symm.trans rfl)
          go_wp2_with (go_at_call 29; go_must (refine (EncodeRoot_any r HS.out.hok _).mono ?_; rintro e w5 ⟨v5, rfl, ho, hb⟩; have HO := Lib.hid ho; have HB := Lib.hid hb; clear ho hb))
          refine ⟨rfl, x33, x34, v5, x42, rfl, ?_⟩
          exact ⟨h.out.1.trans (HB.out.mono h.out.1.size), heap_below h.out.2.1 HB.out, h.out.2.2.1.below HB.out, h.out.2.2.2.1.below HB.out, fun _ => Itm.own HO.out, h.out.2.2.2.2.2.below HB.out⟩
        · obtain rfl := Option.some.inj (hoi.symm.trans rfl)
          go_wp2_with (go_at_call 69; go_must (refine (LinksBytes_any Al nl cl lk _ ((HS.out.hlk.keep fun _ hp => h.out.1.cell hp).more h.out.1.size) HS.out.hll).mono ?_; rintro e w5 ⟨v5, rfl, ho, hb⟩; have HO := Lib.hid ho; have HB := Lib.hid hb; clear ho hb))
          refine ⟨rfl, x33, x34, x37, v5, rfl, ?_⟩
          exact ⟨h.out.1.trans (HB.out.mono h.out.1.size), heap_below h.out.2.1 HB.out, h.out.2.2.1.below HB.out, h.out.2.2.2.1.below HB.out, h.out.2.2.2.2.1.below HB.out, fun _ => Itm.own HO.out⟩
      · intro d a w' hall hJ
        obtain ⟨x33, x34, x37, x42, rfl, h⟩ := hJ
        have J1 := h.out.2.2.2.1.2 (hall 1 (by simp))
        have I1 := Lib.hid J1
        obtain ⟨A15, c15, rfl, _, _⟩ := J1
        have K0 := h.out.2.2.2.2.1 (hall 4 (by simp))
        have L0 := Lib.hid K0
        obtain ⟨AK0, cK0, rfl, _, _⟩ := K0
        have K1 := h.out.2.2.2.2.2 (hall 9 (by simp))
        have L1 := Lib.hid K1
        obtain ⟨AK1, cK1, rfl, _, _⟩ := K1
        have NN := Lib.hid h.out.2.2.1.1
        have AD := Lib.hid h.out.2.2.1.2
        have BB := Lib.hid h.out.1
        have RR := Lib.hid h.out.2.1
        clear h hall
        apply AnyC.solo (i := 10) rfl (by kernel_rfl) RR.out
        go_wp2
        refine ⟨rfl, ?_⟩
        have LS := Lib.hid (Itms.lists (.cons I1.out (.cons L0.out (.cons NN.out (.cons AD.out (.cons L1.out .nil))))) 24)
        have BL : Hid (∀ o, Below w.heap.size w (w'.alloc o) ∧ Below w'.heap.size w' (w'.alloc o)) := fun o => ⟨BB.out.alloc BB.out.size _, (Below.refl _ _).alloc (Nat.le_refl _) _⟩
        apply AnyC.solo (i := 11) rfl (by kernel_rfl) (heap_below RR.out (BL.out _).2)
        go_wp2_with (go_at_call 14; go_must (refine (Encode_any (some ⟨w'.heap.size, 0, none⟩) 5 (stepL r ns ad lk) _ LS.out (by simp [stepL])).mono ?_; rintro e w7 ⟨v7, rfl, ho, hb⟩; obtain ⟨A7, c7, rfl, hc7, hr7⟩ := own8_form ho; have O7 := Lib.hid (own8_base ho (BL.out _).1.size); have B7 := Lib.hid ((BL.out _).1.trans (hb.mono (BL.out _).1.size)); have R7 := Lib.hid (heap_below (heap_below RR.out (BL.out _).2) hb); clear ho hb hr7 hc7))
        refine ⟨rfl, ?_⟩
        apply AnyC.take (i := 12) rfl (by kernel_rfl) rfl
        · intro w' hC K hK
          go_wp2
          exact hK
        · rfl
        apply AnyC.take (i := 13) rfl (by kernel_rfl) rfl
        · intro w' hC K hK
          go_wp2
          exact hK
        · rfl
        apply AnyC.take (i := 14) rfl (by kernel_rfl) rfl
        · intro w' hC K hK
          go_wp2
          exact hK
        · rfl
        apply AnyC.take (i := 15) rfl (by kernel_rfl) rfl
        · intro w' hC K hK
          go_wp2
          exact hK
        · rfl
        refine AnyC.done R7.out (by kernel_rfl) ?_
        go_wp2
        go_ret2
        exact ⟨_, by unfold stepE; rw [HG.out]; rfl, by unfold stepB; rw [HG.out]; exact O7.out, B7.out⟩
      · refine ⟨undef, undef, undef, undef, rfl, ?_⟩
        exact ⟨B4.out, R4.out, I4.out, ⟨fun _ h1 => absurd h1 Bool.false_ne_true, fun h1 => absurd h1 Bool.false_ne_true⟩, fun h1 => absurd h1 Bool.false_ne_true, fun h1 => absurd h1 Bool.false_ne_true⟩
end Go.Proofs.Ytbpgbihcihnieaa
