/- The texts M2a M2b of this work, merged by wip/merge.py. No conditions. -/
import Derived.Test.YtbpgbihcihnieaaQN6c
import Derived.Test.YtbpgbihcihnieaaQM1
namespace Go.Proofs.Ytbpgbihcihnieaa
open Go.RowKit
def MRJ (w : World) (cs : Array Value) (q : LookV) (x : LookA) (v4 v6 : Value) (d : Nat → Bool) (a : Act) (w' : World) : Prop :=
  ∃ x28 x29 x32 x35 x38 x41 : Value, a = { tmps := #[.agg cs, .pointer (some ⟨w.heap.size, 0, none⟩), .slice none 0 0, .int .i64 0, v4, .bool true, v6, .bool true, .tuple #[v4, .bool true], .pointer (some ⟨w.heap.size, 166, none⟩), .pointer (some ⟨w.heap.size, 246, none⟩), .slice x.Af q.fn.length x.cf, .tuple #[v4, .bool true], v4, .bool true, .tuple #[v6, .bool true], .pointer (some ⟨w.heap.size, 247, none⟩), .pointer (some ⟨w.heap.size, 327, none⟩), .slice x.As q.sn.length x.cs, .tuple #[v6, .bool true], v6, .bool true, .bool true, .bool false, .bool false, .bool true, .bool false, .bool false, x28, x29, .pointer (some ⟨w.heap.size, 0, none⟩), .agg q.r.cs, x32, .pointer (some ⟨w.heap.size, 163, none⟩), .string ⟨q.a.toArray⟩, x35, .pointer (some ⟨w.heap.size, 164, none⟩), .int .u64 (q.v : Int), x38, .pointer (some ⟨w.heap.size, 165, none⟩), .slice x.Ad x.nd x.cd, x41, .pointer (some ⟨w.heap.size, 166, none⟩), .pointer (some ⟨w.heap.size, 166, none⟩), .slice (some ⟨w.heap.size, 166, none⟩) 80 80, v4, .pointer (some ⟨w.heap.size, 247, none⟩), .pointer (some ⟨w.heap.size, 247, none⟩), .slice (some ⟨w.heap.size, 247, none⟩) 80 80, v6, undef, undef, undef, undef], defers := [] } ∧
    Hid (Below w.heap.size w w' ∧ w'.heap[w.heap.size]? = some (.cells cs 57 (0, 0)) ∧ IT2 w' v4 (nodesB q.fn) v6 (nodesB q.sn) ∧ WJ d 0 1 w.heap.size x28 x29 #[.int .u8 108, .int .u8 111, .int .u8 111, .int .u8 107, .int .u8 117, .int .u8 112] 6 lookW w' ∧ IJ d 4 x32 (signB q.r) w' ∧ IJ d 7 x35 q.a w' ∧ IJ d 10 x38 (be8 q.v) w' ∧ IJ d 13 x41 q.dv w')
set_option maxRecDepth 100000 in
set_option maxHeartbeats 4000000 in
theorem rEncodeLookup_no1 (w : World) (cs : Array Value) (q : LookV) (x : LookA) (hs : LookIn w cs q x) (h1 : nodesG q.fn = false) : Calls Try.prog 34 #[.agg cs] w (LookPost q w) := by
  have hsz := hs.size
  have F : Hid (Below w.heap.size w (w.alloc (.cells cs 57)) ∧ (w.alloc (.cells cs 57)).heap[w.heap.size]? = some (.cells cs 57 (0, 0))) := ⟨(Below.refl _ _).alloc (Nat.le_refl _) _, heap_alloc_new w _⟩
  have HS := Lib.hid hs
  have HZ := Lib.hid hsz
  obtain ⟨_, _, _, e246, _⟩ := hs.at_ F.out.2
  clear hs hsz
  have T0 : Hid True := trivial
  have HG1 := Lib.hid h1
  have HGG : Hid (lookG q = false) := by show _ = _; simp [lookG, h1]
  clear h1
  obtain ⟨g2, hg2⟩ : ∃ g2, g2 = nodesG q.sn := ⟨_, rfl⟩
  have HG2 : Hid (nodesG q.sn = g2) := hg2.symm
  clear hg2
  go_enter Try.func34, Try.ntmps34
  go_wp2_with (first
    | (go_at_call 59; have hx_ := T1; go_must (refine (rnodes_any x.As q.sn.length x.cs q.sn _ ⟨HS.out.hok.sn, (HS.out.hsn.keep fun _ hp => B1.out.cell hp).more B1.out.size⟩ rfl HS.out.hsl).mono ?_; rintro e w2 ⟨v, rfl, ho, hb⟩; rw [HG2.out]; obtain ⟨A2, c2, rfl, hc1, hr1⟩ := own8_form ho; have I2 := Lib.hid (And.intro (I1.out.below hb) (Itm.own ho)); have B2 := Lib.hid (B1.out.trans (hb.mono B1.out.size)); have R2 := Lib.hid (heap_below R1.out hb); clear T1 hx_ ho hb hc1 hr1))
    | (go_at_call 59; have hx_ := T0; go_must (refine (rnodes_any x.Af q.fn.length x.cf q.fn _ ⟨HS.out.hok.fn, (HS.out.hfn.keep fun _ hp => F.out.1.cell hp).more F.out.1.size⟩ rfl HS.out.hfl).mono ?_; rintro e w1 ⟨v, rfl, ho, hb⟩; rw [HG1.out]; obtain ⟨A1, c1, rfl, hc1, hr1⟩ := own8_form ho; have I1 := Lib.hid (Itm.own ho); have B1 := Lib.hid (F.out.1.trans (hb.mono F.out.1.size)); have R1 := Lib.hid (heap_below F.out.2 hb); obtain ⟨_, _, _, _, e327⟩ := HS.out.at_ R1.out; have T1 := hx_; clear T0 hx_ ho hb hc1 hr1)))
  go_ret2
  exact ⟨.slice none 0 0, by unfold lookE; rw [HGG.out]; rfl, by unfold lookB; rw [HGG.out]; exact own8_nil _ _, B2.out⟩
set_option maxRecDepth 100000 in
set_option maxHeartbeats 4000000 in
theorem rEncodeLookup_no2 (w : World) (cs : Array Value) (q : LookV) (x : LookA) (hs : LookIn w cs q x) (h1 : nodesG q.fn = true) (h2 : nodesG q.sn = false) : Calls Try.prog 34 #[.agg cs] w (LookPost q w) := by
  have hsz := hs.size
  have F : Hid (Below w.heap.size w (w.alloc (.cells cs 57)) ∧ (w.alloc (.cells cs 57)).heap[w.heap.size]? = some (.cells cs 57 (0, 0))) := ⟨(Below.refl _ _).alloc (Nat.le_refl _) _, heap_alloc_new w _⟩
  have HS := Lib.hid hs
  have HZ := Lib.hid hsz
  obtain ⟨_, _, _, e246, _⟩ := hs.at_ F.out.2
  clear hs hsz
  have T0 : Hid True := trivial
  have HG1 := Lib.hid h1
  have HG2 := Lib.hid h2
  have HGG : Hid (lookG q = false) := by show _ = _; simp [lookG, h1, h2]
  clear h1 h2
  go_enter Try.func34, Try.ntmps34
  go_wp2_with (first
    | (go_at_call 59; have hx_ := T1; go_must (refine (rnodes_any x.As q.sn.length x.cs q.sn _ ⟨HS.out.hok.sn, (HS.out.hsn.keep fun _ hp => B1.out.cell hp).more B1.out.size⟩ rfl HS.out.hsl).mono ?_; rintro e w2 ⟨v, rfl, ho, hb⟩; rw [HG2.out]; obtain ⟨A2, c2, rfl, hc1, hr1⟩ := own8_form ho; have I2 := Lib.hid (And.intro (I1.out.below hb) (Itm.own ho)); have B2 := Lib.hid (B1.out.trans (hb.mono B1.out.size)); have R2 := Lib.hid (heap_below R1.out hb); clear T1 hx_ ho hb hc1 hr1))
    | (go_at_call 59; have hx_ := T0; go_must (refine (rnodes_any x.Af q.fn.length x.cf q.fn _ ⟨HS.out.hok.fn, (HS.out.hfn.keep fun _ hp => F.out.1.cell hp).more F.out.1.size⟩ rfl HS.out.hfl).mono ?_; rintro e w1 ⟨v, rfl, ho, hb⟩; rw [HG1.out]; obtain ⟨A1, c1, rfl, hc1, hr1⟩ := own8_form ho; have I1 := Lib.hid (Itm.own ho); have B1 := Lib.hid (F.out.1.trans (hb.mono F.out.1.size)); have R1 := Lib.hid (heap_below F.out.2 hb); obtain ⟨_, _, _, _, e327⟩ := HS.out.at_ R1.out; have T1 := hx_; clear T0 hx_ ho hb hc1 hr1)))
  go_ret2
  exact ⟨.slice none 0 0, by unfold lookE; rw [HGG.out]; rfl, by unfold lookB; rw [HGG.out]; exact own8_nil _ _, B2.out⟩
set_option maxRecDepth 100000 in
set_option maxHeartbeats 4000000 in
theorem rEncodeLookup_yes (w : World) (cs : Array Value) (q : LookV) (x : LookA) (hs : LookIn w cs q x) (h1 : nodesG q.fn = true) (h2 : nodesG q.sn = true) : Calls Try.prog 34 #[.agg cs] w (LookPost q w) := by
  have hsz := hs.size
  have F : Hid (Below w.heap.size w (w.alloc (.cells cs 57)) ∧ (w.alloc (.cells cs 57)).heap[w.heap.size]? = some (.cells cs 57 (0, 0))) := ⟨(Below.refl _ _).alloc (Nat.le_refl _) _, heap_alloc_new w _⟩
  have HS := Lib.hid hs
  have HZ := Lib.hid hsz
  obtain ⟨_, _, _, e246, _⟩ := hs.at_ F.out.2
  clear hs hsz
  have T0 : Hid True := trivial
  have HG1 := Lib.hid h1
  have HG2 := Lib.hid h2
  have HGG : Hid (lookG q = true) := by show _ = _; simp [lookG, h1, h2]
  clear h1 h2
  go_enter Try.func34, Try.ntmps34
  go_wp2_with (first
    | (go_at_call 59; have hx_ := T1; go_must (refine (rnodes_any x.As q.sn.length x.cs q.sn _ ⟨HS.out.hok.sn, (HS.out.hsn.keep fun _ hp => B1.out.cell hp).more B1.out.size⟩ rfl HS.out.hsl).mono ?_; rintro e w2 ⟨v, rfl, ho, hb⟩; rw [HG2.out]; obtain ⟨A2, c2, rfl, hc1, hr1⟩ := own8_form ho; have I2 := Lib.hid (And.intro (I1.out.below hb) (Itm.own ho)); have B2 := Lib.hid (B1.out.trans (hb.mono B1.out.size)); have R2 := Lib.hid (heap_below R1.out hb); clear T1 hx_ ho hb hc1 hr1))
    | (go_at_call 59; have hx_ := T0; go_must (refine (rnodes_any x.Af q.fn.length x.cf q.fn _ ⟨HS.out.hok.fn, (HS.out.hfn.keep fun _ hp => F.out.1.cell hp).more F.out.1.size⟩ rfl HS.out.hfl).mono ?_; rintro e w1 ⟨v, rfl, ho, hb⟩; rw [HG1.out]; obtain ⟨A1, c1, rfl, hc1, hr1⟩ := own8_form ho; have I1 := Lib.hid (Itm.own ho); have B1 := Lib.hid (F.out.1.trans (hb.mono F.out.1.size)); have R1 := Lib.hid (heap_below F.out.2 hb); obtain ⟨_, _, _, _, e327⟩ := HS.out.at_ R1.out; have T1 := hx_; clear T0 hx_ ho hb hc1 hr1)))
  refine AnyC.startB (fun w' => w'.heap[w.heap.size]? = some (.cells cs 57 (0, 0))) (by kernel_rfl) rfl ?_
  intro w4 hb4 hs4
  clear hs4
  have B4 := Lib.hid (B2.out.trans (hb4.mono B2.out.size))
  have R4 := Lib.hid (heap_below R2.out hb4)
  have I4 : Hid (IT2 w4 (.slice A1 (nodesB q.fn).length c1) (nodesB q.fn) (.slice A2 (nodesB q.sn).length c2) (nodesB q.sn)) := ⟨I2.out.1.below hb4, I2.out.2.below hb4⟩
  clear hb4 e246 e327
  apply AnyC.take (i := 2) rfl (by kernel_rfl) rfl
  · intro w' hC K hK
    go_wp2
    exact hK
  · rfl
  apply AnyC.take (i := 3) rfl (by kernel_rfl) rfl
  · intro w' hC K hK
    refine wpList_load_arr rfl _ _ rfl w.heap.size 0 rfl q.r.cs _ (HS.out.rows hC).1 Try.underlying47 rfl (by rw [root_size HS.out.hok.r]; kernel_rfl) ?_
    go_wp2
    exact hK
  · rfl
  apply AnyC.take (i := 5) rfl (by kernel_rfl) rfl
  · intro w' hC K hK
    go_wp2
    exact hK
  · rfl
  apply AnyC.take (i := 6) rfl (by kernel_rfl) rfl
  · intro w' hC K hK
    obtain ⟨c0, _, _, _, _⟩ := HS.out.at_ hC
    go_wp2
    exact hK
  · rfl
  apply AnyC.take (i := 8) rfl (by kernel_rfl) rfl
  · intro w' hC K hK
    go_wp2
    exact hK
  · rfl
  apply AnyC.take (i := 9) rfl (by kernel_rfl) rfl
  · intro w' hC K hK
    obtain ⟨_, c0, _, _, _⟩ := HS.out.at_ hC
    go_wp2
    exact hK
  · rfl
  apply AnyC.take (i := 11) rfl (by kernel_rfl) rfl
  · intro w' hC K hK
    go_wp2
    exact hK
  · rfl
  apply AnyC.take (i := 12) rfl (by kernel_rfl) rfl
  · intro w' hC K hK
    obtain ⟨_, _, c0, _, _⟩ := HS.out.at_ hC
    go_wp2
    exact hK
  · rfl
  apply AnyC.take (i := 14) rfl (by kernel_rfl) rfl
  · intro w' hC K hK
    go_wp2
    exact hK
  · rfl
  apply AnyC.take (i := 15) rfl (by kernel_rfl) rfl
  · intro w' hC K hK
    go_wp2
    exact hK
  · rfl
  apply AnyC.take (i := 16) rfl (by kernel_rfl) rfl
  · intro w' hC K hK
    go_wp2
    exact hK
  · rfl
  apply AnyC.take (i := 17) rfl (by kernel_rfl) rfl
  · intro w' hC K hK
    go_wp2
    exact hK
  · rfl
  apply AnyC.take (i := 18) rfl (by kernel_rfl) rfl
  · intro w' hC K hK
    go_wp2
    exact hK
  · rfl
  apply AnyC.take (i := 19) rfl (by kernel_rfl) rfl
  · intro w' hC K hK
    go_wp2
    exact hK
  · rfl
  apply AnyC.take (i := 20) rfl (by kernel_rfl) rfl
  · intro w' hC K hK
    go_wp2
    exact hK
  · rfl
  apply AnyC.take (i := 21) rfl (by kernel_rfl) rfl
  · intro w' hC K hK
    go_wp2
    exact hK
  · rfl
  refine AnyC.bunch [0, 1, 4, 7, 10, 13] (MRJ w cs q x (.slice A1 (nodesB q.fn).length c1) (.slice A2 (nodesB q.sn).length c2)) (by decide) (by kernel_rfl) (by kernel_rfl) ?_ ?_ ?_ ?_
  · rintro d a w' ⟨_, _, _, _, _, _, _, h⟩
    exact h.out.2.1
  · intro i hi oi hoi d a w' hJ hd hdep
    obtain ⟨x28, x29, x32, x35, x38, x41, rfl, h⟩ := hJ
    simp only [List.mem_cons, List.not_mem_nil, or_false] at hi
    rcases hi with rfl | rfl | rfl | rfl | rfl | rfl
    · obtain rfl := Option.some.inj (hoi.symm.trans rfl)
      go_wp2
      have hb : ∀ o, Below w'.heap.size w' (w'.alloc o) := fun o => (Below.refl _ _).alloc (Nat.le_refl _) _
      refine ⟨rfl, .slice (some ⟨w'.heap.size, 0, none⟩) 6 6, x29, x32, x35, x38, x41, rfl, ?_⟩
      exact ⟨h.out.1.trans ((hb _).mono h.out.1.size), heap_below h.out.2.1 (hb _), h.out.2.2.1.below (hb _), ⟨fun _ _ => ⟨_, rfl, lt_of_heap h.out.2.1, heap_alloc_new _ _⟩, fun h1 => (h.out.2.2.2.1.2 h1).below (hb _)⟩, h.out.2.2.2.2.1.below (hb _), h.out.2.2.2.2.2.1.below (hb _), h.out.2.2.2.2.2.2.1.below (hb _), h.out.2.2.2.2.2.2.2.below (hb _)⟩
    · obtain rfl := Option.some.inj (hoi.symm.trans rfl)
      obtain ⟨bq, rfl, hB, hq⟩ := h.out.2.2.2.1.1 hd (hdep 0 (by simp) (by kernel_rfl))
      have hcv := run_conv_mark (n := 6) (c := 6) (m := 6) hq rfl
      have MW := Lib.hid (mark_world (n := 6) hq)
      have HQ := Lib.hid hq
      have HB := Lib.hid hB
      clear hq hB
      go_wp2
      refine ⟨rfl, .slice (some ⟨bq, 0, none⟩) 6 6, .slice (some ⟨bq, 0, none⟩) 6 6, x32, x35, x38, x41, rfl, ?_⟩
      exact ⟨h.out.1.trans (MW.out.2.2.2 _ (Nat.le_of_lt HB.out)), (MW.out.2.2.1 _ (Nat.ne_of_lt HB.out)).trans h.out.2.1, h.out.2.2.1.cells MW.out.1 MW.out.2.1, ⟨fun h1 => absurd h1 (by simp), fun _ => (Itm.row (n := 6) HQ.out lookW_cells rfl).cells MW.out.1 MW.out.2.1⟩, h.out.2.2.2.2.1.cells MW.out.1 MW.out.2.1, h.out.2.2.2.2.2.1.cells MW.out.1 MW.out.2.1, h.out.2.2.2.2.2.2.1.cells MW.out.1 MW.out.2.1, h.out.2.2.2.2.2.2.2.cells MW.out.1 MW.out.2.1⟩
    · obtain rfl := Option.some.inj (hoi.symm.trans rfl)
      go_wp2_with (go_at_call 32; go_must (refine (rEncodeRoot_any q.r HS.out.hok.r _).mono ?_; rintro e w5 ⟨v5, rfl, ho, hb⟩; have HO := Lib.hid ho; have HB := Lib.hid hb; clear ho hb))
      refine ⟨rfl, x28, x29, v5, x35, x38, x41, rfl, ?_⟩
      exact ⟨h.out.1.trans (HB.out.mono h.out.1.size), heap_below h.out.2.1 HB.out, h.out.2.2.1.below HB.out, h.out.2.2.2.1.below HB.out, fun _ => Itm.own HO.out, h.out.2.2.2.2.2.1.below HB.out, h.out.2.2.2.2.2.2.1.below HB.out, h.out.2.2.2.2.2.2.2.below HB.out⟩
    · obtain rfl := Option.some.inj (hoi.symm.trans rfl)
      have BW := Lib.hid (bytes_world w' q.a)
      have hcv := Lib.run_convert_string_bytes (P := Try.prog) w' 9 24 5 ⟨q.a.toArray⟩ (u := .string) Try.underlying9 Try.underlying24 Try.underlying5
      obtain ⟨v5, hv5⟩ : ∃ v5, v5 = Value.slice (some ⟨w'.heap.size, 0, none⟩) (ByteArray.mk q.a.toArray).size (grownCap w' (ByteArray.mk q.a.toArray).size 0 5) := ⟨_, rfl⟩
      rw [← hv5] at hcv BW
      generalize Lib.bytesWorld w' 5 ⟨q.a.toArray⟩ = w5 at hcv BW
      clear hv5
      go_wp2
      refine ⟨rfl, x28, x29, x32, v5, x38, x41, rfl, ?_⟩
      exact ⟨h.out.1.trans (BW.out.1.mono h.out.1.size), heap_below h.out.2.1 BW.out.1, h.out.2.2.1.below BW.out.1, h.out.2.2.2.1.below BW.out.1, h.out.2.2.2.2.1.below BW.out.1, fun _ => BW.out.2, h.out.2.2.2.2.2.2.1.below BW.out.1, h.out.2.2.2.2.2.2.2.below BW.out.1⟩
    · obtain rfl := Option.some.inj (hoi.symm.trans rfl)
      go_wp2_with (go_at_call 23; go_must (refine (rNum_any q.v HS.out.hok.v _).mono ?_; rintro e w5 ⟨v5, rfl, ho, hb⟩; have HO := Lib.hid ho; have HB := Lib.hid hb; clear ho hb))
      refine ⟨rfl, x28, x29, x32, x35, v5, x41, rfl, ?_⟩
      exact ⟨h.out.1.trans (HB.out.mono h.out.1.size), heap_below h.out.2.1 HB.out, h.out.2.2.1.below HB.out, h.out.2.2.2.1.below HB.out, h.out.2.2.2.2.1.below HB.out, h.out.2.2.2.2.2.1.below HB.out, fun _ => Itm.own HO.out, h.out.2.2.2.2.2.2.2.below HB.out⟩
    · obtain rfl := Option.some.inj (hoi.symm.trans rfl)
      go_wp2_with (go_at_call 60; go_must (refine (rHashes_any x.Ad x.nd x.cd q.dv _ ((HS.out.hdv.keep fun _ hp => h.out.1.cell hp).more h.out.1.size) HS.out.hdl).mono ?_; rintro e w5 ⟨v5, rfl, ho, hb⟩; have HO := Lib.hid ho; have HB := Lib.hid hb; clear ho hb))
      refine ⟨rfl, x28, x29, x32, x35, x38, v5, rfl, ?_⟩
      exact ⟨h.out.1.trans (HB.out.mono h.out.1.size), heap_below h.out.2.1 HB.out, h.out.2.2.1.below HB.out, h.out.2.2.2.1.below HB.out, h.out.2.2.2.2.1.below HB.out, h.out.2.2.2.2.2.1.below HB.out, h.out.2.2.2.2.2.2.1.below HB.out, fun _ => Itm.own HO.out⟩
  · intro d a w' hall hJ
    obtain ⟨x28, x29, x32, x35, x38, x41, rfl, h⟩ := hJ
    have J1 := h.out.2.2.2.1.2 (hall 1 (by simp))
    have I1 := Lib.hid J1
    obtain ⟨A15, c15, rfl, _, _⟩ := J1
    have K0 := h.out.2.2.2.2.1 (hall 4 (by simp))
    have L0 := Lib.hid K0
    obtain ⟨AK0, cK0, rfl, _, _⟩ := K0
    have K1 := h.out.2.2.2.2.2.1 (hall 7 (by simp))
    have L1 := Lib.hid K1
    obtain ⟨AK1, cK1, rfl, _, _⟩ := K1
    have K2 := h.out.2.2.2.2.2.2.1 (hall 10 (by simp))
    have L2 := Lib.hid K2
    obtain ⟨AK2, cK2, rfl, _, _⟩ := K2
    have K3 := h.out.2.2.2.2.2.2.2 (hall 13 (by simp))
    have L3 := Lib.hid K3
    obtain ⟨AK3, cK3, rfl, _, _⟩ := K3
    have NN := Lib.hid h.out.2.2.1
    have BB := Lib.hid h.out.1
    have RR := Lib.hid h.out.2.1
    clear h hall
    have IT := Lib.hid (HS.out.items RR.out)
    apply AnyC.solo (i := 22) rfl (by kernel_rfl) RR.out
    go_wp2
    refine ⟨rfl, ?_⟩
    have LS := Lib.hid (Itms.lists (.cons I1.out (.cons L0.out (.cons L1.out (.cons L2.out (.cons L3.out (.cons IT.out.1 (.cons NN.out.1 (.cons IT.out.2 (.cons NN.out.2 .nil))))))))) 24)
    have BL : Hid (∀ o, Below w.heap.size w (w'.alloc o) ∧ Below w'.heap.size w' (w'.alloc o)) := fun o => ⟨BB.out.alloc BB.out.size _, (Below.refl _ _).alloc (Nat.le_refl _) _⟩
    apply AnyC.solo (i := 23) rfl (by kernel_rfl) (heap_below RR.out (BL.out _).2)
    go_wp2_with (go_at_call 13; go_must (refine (rEncode_any (some ⟨w'.heap.size, 0, none⟩) 9 (lookL q) _ LS.out (by simp [lookL])).mono ?_; rintro e w7 ⟨v7, rfl, ho, hb⟩; obtain ⟨A7, c7, rfl, hc7, hr7⟩ := own8_form ho; have O7 := Lib.hid (own8_base ho (BL.out _).1.size); have B7 := Lib.hid ((BL.out _).1.trans (hb.mono (BL.out _).1.size)); have R7 := Lib.hid (heap_below (heap_below RR.out (BL.out _).2) hb); clear ho hb hr7 hc7))
    refine ⟨rfl, ?_⟩
    apply AnyC.take (i := 24) rfl (by kernel_rfl) rfl
    · intro w' hC K hK
      go_wp2
      exact hK
    · rfl
    apply AnyC.take (i := 25) rfl (by kernel_rfl) rfl
    · intro w' hC K hK
      go_wp2
      exact hK
    · rfl
    apply AnyC.take (i := 26) rfl (by kernel_rfl) rfl
    · intro w' hC K hK
      go_wp2
      exact hK
    · rfl
    apply AnyC.take (i := 27) rfl (by kernel_rfl) rfl
    · intro w' hC K hK
      go_wp2
      exact hK
    · rfl
    refine AnyC.done R7.out (by kernel_rfl) ?_
    go_wp2
    go_ret2
    exact ⟨_, by unfold lookE; rw [HGG.out]; rfl, by unfold lookB; rw [HGG.out]; exact O7.out, B7.out⟩
  · refine ⟨undef, undef, undef, undef, undef, undef, rfl, ?_⟩
    exact ⟨B4.out, R4.out, I4.out, ⟨fun _ h1 => absurd h1 Bool.false_ne_true, fun h1 => absurd h1 Bool.false_ne_true⟩, fun h1 => absurd h1 Bool.false_ne_true, fun h1 => absurd h1 Bool.false_ne_true, fun h1 => absurd h1 Bool.false_ne_true, fun h1 => absurd h1 Bool.false_ne_true⟩
theorem rEncodeLookup_any (w : World) (cs : Array Value) (q : LookV) (x : LookA) (hs : LookIn w cs q x) : Calls Try.prog 34 #[.agg cs] w (LookPost q w) := by
  cases h1 : nodesG q.fn with
  | false => exact rEncodeLookup_no1 w cs q x hs h1
  | true =>
    cases h2 : nodesG q.sn with
    | false => exact rEncodeLookup_no2 w cs q x hs h1 h2
    | true => exact rEncodeLookup_yes w cs q x hs h1 h2
end Go.Proofs.Ytbpgbihcihnieaa

namespace Go.Proofs.Ytbpgbihcihnieaa
open Go.RowKit
def MWJ (w : World) (cs : Array Value) (q : LookV) (x : LookA) (v4 v6 : Value) (d : Nat → Bool) (a : Act) (w' : World) : Prop :=
  ∃ x28 x29 x32 x35 x38 x41 : Value, a = { tmps := #[.agg cs, .pointer (some ⟨w.heap.size, 0, none⟩), .slice none 0 0, .int .i64 0, v4, .int .i64 0, v6, .int .i64 0, .tuple #[v4, .int .i64 0], .pointer (some ⟨w.heap.size, 166, none⟩), .pointer (some ⟨w.heap.size, 246, none⟩), .slice x.Af q.fn.length x.cf, .tuple #[v4, .int .i64 0], v4, .int .i64 0, .tuple #[v6, .int .i64 0], .pointer (some ⟨w.heap.size, 247, none⟩), .pointer (some ⟨w.heap.size, 327, none⟩), .slice x.As q.sn.length x.cs, .tuple #[v6, .int .i64 0], v6, .int .i64 0, .int .i64 0, .bool false, .bool false, .int .i64 0, .bool false, .bool false, x28, x29, .pointer (some ⟨w.heap.size, 0, none⟩), .agg q.r.cs, x32, .pointer (some ⟨w.heap.size, 163, none⟩), .string ⟨q.a.toArray⟩, x35, .pointer (some ⟨w.heap.size, 164, none⟩), .int .u64 (q.v : Int), x38, .pointer (some ⟨w.heap.size, 165, none⟩), .slice x.Ad x.nd x.cd, x41, .pointer (some ⟨w.heap.size, 166, none⟩), .pointer (some ⟨w.heap.size, 166, none⟩), .slice (some ⟨w.heap.size, 166, none⟩) 80 80, v4, .pointer (some ⟨w.heap.size, 247, none⟩), .pointer (some ⟨w.heap.size, 247, none⟩), .slice (some ⟨w.heap.size, 247, none⟩) 80 80, v6, undef, undef, undef, undef], defers := [] } ∧
    Hid (Below w.heap.size w w' ∧ w'.heap[w.heap.size]? = some (.cells cs 57 (0, 0)) ∧ IT2 w' v4 (nodesB q.fn) v6 (nodesB q.sn) ∧ WJ d 0 1 w.heap.size x28 x29 #[.int .u8 108, .int .u8 111, .int .u8 111, .int .u8 107, .int .u8 117, .int .u8 112] 6 lookW w' ∧ IJ d 4 x32 (signB q.r) w' ∧ IJ d 7 x35 q.a w' ∧ IJ d 10 x38 (be8 q.v) w' ∧ IJ d 13 x41 q.dv w')
set_option maxRecDepth 100000 in
set_option maxHeartbeats 4000000 in
theorem EncodeLookup_no1 (w : World) (cs : Array Value) (q : LookV) (x : LookA) (hs : LookIn w cs q x) (h1 : nodesG q.fn = false) : Calls Try.prog 33 #[.agg cs] w (LookPost q w) := by
  have hsz := hs.size
  have F : Hid (Below w.heap.size w (w.alloc (.cells cs 57)) ∧ (w.alloc (.cells cs 57)).heap[w.heap.size]? = some (.cells cs 57 (0, 0))) := ⟨(Below.refl _ _).alloc (Nat.le_refl _) _, heap_alloc_new w _⟩
  have HS := Lib.hid hs
  have HZ := Lib.hid hsz
  obtain ⟨_, _, _, e246, _⟩ := hs.at_ F.out.2
  clear hs hsz
  have T0 : Hid True := trivial
  have HG1 := Lib.hid h1
  have HGG : Hid (lookG q = false) := by show _ = _; simp [lookG, h1]
  have HE1 := Lib.hid (nodesE_no h1)
  clear h1
  obtain ⟨g2, hg2⟩ : ∃ g2, g2 = nodesE q.sn := ⟨_, rfl⟩
  have HE2 : Hid (nodesE q.sn = g2) := hg2.symm
  clear hg2
  go_enter Try.func33, Try.ntmps33
  go_wp2_with (first
    | (go_at_call 57; have hx_ := T1; go_must (refine (nodes_any x.As q.sn.length x.cs q.sn _ ⟨HS.out.hok.sn, (HS.out.hsn.keep fun _ hp => B1.out.cell hp).more B1.out.size⟩ rfl HS.out.hsl).mono ?_; rintro e w2 ⟨v, rfl, ho, hb⟩; rw [HE2.out]; obtain ⟨A2, c2, rfl, hc1, hr1⟩ := own8_form ho; have I2 := Lib.hid (And.intro (I1.out.below hb) (Itm.own ho)); have B2 := Lib.hid (B1.out.trans (hb.mono B1.out.size)); have R2 := Lib.hid (heap_below R1.out hb); clear T1 hx_ ho hb hc1 hr1))
    | (go_at_call 57; have hx_ := T0; go_must (refine (nodes_any x.Af q.fn.length x.cf q.fn _ ⟨HS.out.hok.fn, (HS.out.hfn.keep fun _ hp => F.out.1.cell hp).more F.out.1.size⟩ rfl HS.out.hfl).mono ?_; rintro e w1 ⟨v, rfl, ho, hb⟩; rw [HE1.out]; obtain ⟨A1, c1, rfl, hc1, hr1⟩ := own8_form ho; have I1 := Lib.hid (Itm.own ho); have B1 := Lib.hid (F.out.1.trans (hb.mono F.out.1.size)); have R1 := Lib.hid (heap_below F.out.2 hb); obtain ⟨_, _, _, _, e327⟩ := HS.out.at_ R1.out; have T1 := hx_; clear T0 hx_ ho hb hc1 hr1)))
  go_ret2
  exact ⟨.slice none 0 0, by unfold lookE; rw [HGG.out]; rfl, by unfold lookB; rw [HGG.out]; exact own8_nil _ _, B2.out⟩
set_option maxRecDepth 100000 in
set_option maxHeartbeats 4000000 in
theorem EncodeLookup_no2 (w : World) (cs : Array Value) (q : LookV) (x : LookA) (hs : LookIn w cs q x) (h1 : nodesG q.fn = true) (h2 : nodesG q.sn = false) : Calls Try.prog 33 #[.agg cs] w (LookPost q w) := by
  have hsz := hs.size
  have F : Hid (Below w.heap.size w (w.alloc (.cells cs 57)) ∧ (w.alloc (.cells cs 57)).heap[w.heap.size]? = some (.cells cs 57 (0, 0))) := ⟨(Below.refl _ _).alloc (Nat.le_refl _) _, heap_alloc_new w _⟩
  have HS := Lib.hid hs
  have HZ := Lib.hid hsz
  obtain ⟨_, _, _, e246, _⟩ := hs.at_ F.out.2
  clear hs hsz
  have T0 : Hid True := trivial
  have HG1 := Lib.hid h1
  have HG2 := Lib.hid h2
  have HGG : Hid (lookG q = false) := by show _ = _; simp [lookG, h1, h2]
  have HE1 := Lib.hid (nodesE_yes h1)
  have HE2 := Lib.hid (nodesE_no h2)
  clear h1 h2
  go_enter Try.func33, Try.ntmps33
  go_wp2_with (first
    | (go_at_call 57; have hx_ := T1; go_must (refine (nodes_any x.As q.sn.length x.cs q.sn _ ⟨HS.out.hok.sn, (HS.out.hsn.keep fun _ hp => B1.out.cell hp).more B1.out.size⟩ rfl HS.out.hsl).mono ?_; rintro e w2 ⟨v, rfl, ho, hb⟩; rw [HE2.out]; obtain ⟨A2, c2, rfl, hc1, hr1⟩ := own8_form ho; have I2 := Lib.hid (And.intro (I1.out.below hb) (Itm.own ho)); have B2 := Lib.hid (B1.out.trans (hb.mono B1.out.size)); have R2 := Lib.hid (heap_below R1.out hb); clear T1 hx_ ho hb hc1 hr1))
    | (go_at_call 57; have hx_ := T0; go_must (refine (nodes_any x.Af q.fn.length x.cf q.fn _ ⟨HS.out.hok.fn, (HS.out.hfn.keep fun _ hp => F.out.1.cell hp).more F.out.1.size⟩ rfl HS.out.hfl).mono ?_; rintro e w1 ⟨v, rfl, ho, hb⟩; rw [HE1.out]; obtain ⟨A1, c1, rfl, hc1, hr1⟩ := own8_form ho; have I1 := Lib.hid (Itm.own ho); have B1 := Lib.hid (F.out.1.trans (hb.mono F.out.1.size)); have R1 := Lib.hid (heap_below F.out.2 hb); obtain ⟨_, _, _, _, e327⟩ := HS.out.at_ R1.out; have T1 := hx_; clear T0 hx_ ho hb hc1 hr1)))
  go_ret2
  exact ⟨.slice none 0 0, by unfold lookE; rw [HGG.out]; rfl, by unfold lookB; rw [HGG.out]; exact own8_nil _ _, B2.out⟩
set_option maxRecDepth 100000 in
set_option maxHeartbeats 4000000 in
theorem EncodeLookup_yes (w : World) (cs : Array Value) (q : LookV) (x : LookA) (hs : LookIn w cs q x) (h1 : nodesG q.fn = true) (h2 : nodesG q.sn = true) : Calls Try.prog 33 #[.agg cs] w (LookPost q w) := by
  have hsz := hs.size
  have F : Hid (Below w.heap.size w (w.alloc (.cells cs 57)) ∧ (w.alloc (.cells cs 57)).heap[w.heap.size]? = some (.cells cs 57 (0, 0))) := ⟨(Below.refl _ _).alloc (Nat.le_refl _) _, heap_alloc_new w _⟩
  have HS := Lib.hid hs
  have HZ := Lib.hid hsz
  obtain ⟨_, _, _, e246, _⟩ := hs.at_ F.out.2
  clear hs hsz
  have T0 : Hid True := trivial
  have HG1 := Lib.hid h1
  have HG2 := Lib.hid h2
  have HGG : Hid (lookG q = true) := by show _ = _; simp [lookG, h1, h2]
  have HE1 := Lib.hid (nodesE_yes h1)
  have HE2 := Lib.hid (nodesE_yes h2)
  clear h1 h2
  go_enter Try.func33, Try.ntmps33
  go_wp2_with (first
    | (go_at_call 57; have hx_ := T1; go_must (refine (nodes_any x.As q.sn.length x.cs q.sn _ ⟨HS.out.hok.sn, (HS.out.hsn.keep fun _ hp => B1.out.cell hp).more B1.out.size⟩ rfl HS.out.hsl).mono ?_; rintro e w2 ⟨v, rfl, ho, hb⟩; rw [HE2.out]; obtain ⟨A2, c2, rfl, hc1, hr1⟩ := own8_form ho; have I2 := Lib.hid (And.intro (I1.out.below hb) (Itm.own ho)); have B2 := Lib.hid (B1.out.trans (hb.mono B1.out.size)); have R2 := Lib.hid (heap_below R1.out hb); clear T1 hx_ ho hb hc1 hr1))
    | (go_at_call 57; have hx_ := T0; go_must (refine (nodes_any x.Af q.fn.length x.cf q.fn _ ⟨HS.out.hok.fn, (HS.out.hfn.keep fun _ hp => F.out.1.cell hp).more F.out.1.size⟩ rfl HS.out.hfl).mono ?_; rintro e w1 ⟨v, rfl, ho, hb⟩; rw [HE1.out]; obtain ⟨A1, c1, rfl, hc1, hr1⟩ := own8_form ho; have I1 := Lib.hid (Itm.own ho); have B1 := Lib.hid (F.out.1.trans (hb.mono F.out.1.size)); have R1 := Lib.hid (heap_below F.out.2 hb); obtain ⟨_, _, _, _, e327⟩ := HS.out.at_ R1.out; have T1 := hx_; clear T0 hx_ ho hb hc1 hr1)))
  refine AnyC.startB (fun w' => w'.heap[w.heap.size]? = some (.cells cs 57 (0, 0))) (by kernel_rfl) rfl ?_
  intro w4 hb4 hs4
  clear hs4
  have B4 := Lib.hid (B2.out.trans (hb4.mono B2.out.size))
  have R4 := Lib.hid (heap_below R2.out hb4)
  have I4 : Hid (IT2 w4 (.slice A1 (nodesB q.fn).length c1) (nodesB q.fn) (.slice A2 (nodesB q.sn).length c2) (nodesB q.sn)) := ⟨I2.out.1.below hb4, I2.out.2.below hb4⟩
  clear hb4 e246 e327
  apply AnyC.take (i := 2) rfl (by kernel_rfl) rfl
  · intro w' hC K hK
    go_wp2
    exact hK
  · rfl
  apply AnyC.take (i := 3) rfl (by kernel_rfl) rfl
  · intro w' hC K hK
    refine wpList_load_arr rfl _ _ rfl w.heap.size 0 rfl q.r.cs _ (HS.out.rows hC).1 Try.underlying47 rfl (by rw [root_size HS.out.hok.r]; kernel_rfl) ?_
    go_wp2
    exact hK
  · rfl
  apply AnyC.take (i := 5) rfl (by kernel_rfl) rfl
  · intro w' hC K hK
    go_wp2
    exact hK
  · rfl
  apply AnyC.take (i := 6) rfl (by kernel_rfl) rfl
  · intro w' hC K hK
    obtain ⟨c0, _, _, _, _⟩ := HS.out.at_ hC
    go_wp2
    exact hK
  · rfl
  apply AnyC.take (i := 8) rfl (by kernel_rfl) rfl
  · intro w' hC K hK
    go_wp2
    exact hK
  · rfl
  apply AnyC.take (i := 9) rfl (by kernel_rfl) rfl
  · intro w' hC K hK
    obtain ⟨_, c0, _, _, _⟩ := HS.out.at_ hC
    go_wp2
    exact hK
  · rfl
  apply AnyC.take (i := 11) rfl (by kernel_rfl) rfl
  · intro w' hC K hK
    go_wp2
    exact hK
  · rfl
  apply AnyC.take (i := 12) rfl (by kernel_rfl) rfl
  · intro w' hC K hK
    obtain ⟨_, _, c0, _, _⟩ := HS.out.at_ hC
    go_wp2
    exact hK
  · rfl
  apply AnyC.take (i := 14) rfl (by kernel_rfl) rfl
  · intro w' hC K hK
    go_wp2
    exact hK
  · rfl
  apply AnyC.take (i := 15) rfl (by kernel_rfl) rfl
  · intro w' hC K hK
    go_wp2
    exact hK
  · rfl
  apply AnyC.take (i := 16) rfl (by kernel_rfl) rfl
  · intro w' hC K hK
    go_wp2
    exact hK
  · rfl
  apply AnyC.take (i := 17) rfl (by kernel_rfl) rfl
  · intro w' hC K hK
    go_wp2
    exact hK
  · rfl
  apply AnyC.take (i := 18) rfl (by kernel_rfl) rfl
  · intro w' hC K hK
    go_wp2
    exact hK
  · rfl
  apply AnyC.take (i := 19) rfl (by kernel_rfl) rfl
  · intro w' hC K hK
    go_wp2
    exact hK
  · rfl
  apply AnyC.take (i := 20) rfl (by kernel_rfl) rfl
  · intro w' hC K hK
    go_wp2
    exact hK
  · rfl
  apply AnyC.take (i := 21) rfl (by kernel_rfl) rfl
  · intro w' hC K hK
    go_wp2
    exact hK
  · rfl
  refine AnyC.bunch [0, 1, 4, 7, 10, 13] (MWJ w cs q x (.slice A1 (nodesB q.fn).length c1) (.slice A2 (nodesB q.sn).length c2)) (by decide) (by kernel_rfl) (by kernel_rfl) ?_ ?_ ?_ ?_
  · rintro d a w' ⟨_, _, _, _, _, _, _, h⟩
    exact h.out.2.1
  · intro i hi oi hoi d a w' hJ hd hdep
    obtain ⟨x28, x29, x32, x35, x38, x41, rfl, h⟩ := hJ
    simp only [List.mem_cons, List.not_mem_nil, or_false] at hi
    rcases hi with rfl | rfl | rfl | rfl | rfl | rfl
    · obtain rfl := Option.some.inj (hoi.symm.trans rfl)
      go_wp2
      have hb : ∀ o, Below w'.heap.size w' (w'.alloc o) := fun o => (Below.refl _ _).alloc (Nat.le_refl _) _
      refine ⟨rfl, .slice (some ⟨w'.heap.size, 0, none⟩) 6 6, x29, x32, x35, x38, x41, rfl, ?_⟩
      exact ⟨h.out.1.trans ((hb _).mono h.out.1.size), heap_below h.out.2.1 (hb _), h.out.2.2.1.below (hb _), ⟨fun _ _ => ⟨_, rfl, lt_of_heap h.out.2.1, heap_alloc_new _ _⟩, fun h1 => (h.out.2.2.2.1.2 h1).below (hb _)⟩, h.out.2.2.2.2.1.below (hb _), h.out.2.2.2.2.2.1.below (hb _), h.out.2.2.2.2.2.2.1.below (hb _), h.out.2.2.2.2.2.2.2.below (hb _)⟩
    · obtain rfl := Option.some.inj (hoi.symm.trans rfl)
      obtain ⟨bq, rfl, hB, hq⟩ := h.out.2.2.2.1.1 hd (hdep 0 (by simp) (by kernel_rfl))
      have hcv := run_conv_mark (n := 6) (c := 6) (m := 6) hq rfl
      have MW := Lib.hid (mark_world (n := 6) hq)
      have HQ := Lib.hid hq
      have HB := Lib.hid hB
      clear hq hB
      go_wp2
      refine ⟨rfl, .slice (some ⟨bq, 0, none⟩) 6 6, .slice (some ⟨bq, 0, none⟩) 6 6, x32, x35, x38, x41, rfl, ?_⟩
      exact ⟨h.out.1.trans (MW.out.2.2.2 _ (Nat.le_of_lt HB.out)), (MW.out.2.2.1 _ (Nat.ne_of_lt HB.out)).trans h.out.2.1, h.out.2.2.1.cells MW.out.1 MW.out.2.1, ⟨fun h1 => absurd h1 (by simp), fun _ => (Itm.row (n := 6) HQ.out lookW_cells rfl).cells MW.out.1 MW.out.2.1⟩, h.out.2.2.2.2.1.cells MW.out.1 MW.out.2.1, h.out.2.2.2.2.2.1.cells MW.out.1 MW.out.2.1, h.out.2.2.2.2.2.2.1.cells MW.out.1 MW.out.2.1, h.out.2.2.2.2.2.2.2.cells MW.out.1 MW.out.2.1⟩
    · obtain rfl := Option.some.inj (hoi.symm.trans rfl)
      go_wp2_with (go_at_call 29; go_must (refine (EncodeRoot_any q.r HS.out.hok.r _).mono ?_; rintro e w5 ⟨v5, rfl, ho, hb⟩; have HO := Lib.hid ho; have HB := Lib.hid hb; clear ho hb))
      refine ⟨rfl, x28, x29, v5, x35, x38, x41, rfl, ?_⟩
      exact ⟨h.out.1.trans (HB.out.mono h.out.1.size), heap_below h.out.2.1 HB.out, h.out.2.2.1.below HB.out, h.out.2.2.2.1.below HB.out, fun _ => Itm.own HO.out, h.out.2.2.2.2.2.1.below HB.out, h.out.2.2.2.2.2.2.1.below HB.out, h.out.2.2.2.2.2.2.2.below HB.out⟩
    · obtain rfl := Option.some.inj (hoi.symm.trans rfl)
      have BW := Lib.hid (bytes_world w' q.a)
      have hcv := Lib.run_convert_string_bytes (P := Try.prog) w' 9 24 5 ⟨q.a.toArray⟩ (u := .string) Try.underlying9 Try.underlying24 Try.underlying5
      obtain ⟨v5, hv5⟩ : ∃ v5, v5 = Value.slice (some ⟨w'.heap.size, 0, none⟩) (ByteArray.mk q.a.toArray).size (grownCap w' (ByteArray.mk q.a.toArray).size 0 5) := ⟨_, rfl⟩
      rw [← hv5] at hcv BW
      generalize Lib.bytesWorld w' 5 ⟨q.a.toArray⟩ = w5 at hcv BW
      clear hv5
      go_wp2
      refine ⟨rfl, x28, x29, x32, v5, x38, x41, rfl, ?_⟩
      exact ⟨h.out.1.trans (BW.out.1.mono h.out.1.size), heap_below h.out.2.1 BW.out.1, h.out.2.2.1.below BW.out.1, h.out.2.2.2.1.below BW.out.1, h.out.2.2.2.2.1.below BW.out.1, fun _ => BW.out.2, h.out.2.2.2.2.2.2.1.below BW.out.1, h.out.2.2.2.2.2.2.2.below BW.out.1⟩
    · obtain rfl := Option.some.inj (hoi.symm.trans rfl)
      go_wp2_with (go_at_call 21; go_must (refine (Num_any q.v HS.out.hok.v _).mono ?_; rintro e w5 ⟨v5, rfl, ho, hb⟩; have HO := Lib.hid ho; have HB := Lib.hid hb; clear ho hb))
      refine ⟨rfl, x28, x29, x32, x35, v5, x41, rfl, ?_⟩
      exact ⟨h.out.1.trans (HB.out.mono h.out.1.size), heap_below h.out.2.1 HB.out, h.out.2.2.1.below HB.out, h.out.2.2.2.1.below HB.out, h.out.2.2.2.2.1.below HB.out, h.out.2.2.2.2.2.1.below HB.out, fun _ => Itm.own HO.out, h.out.2.2.2.2.2.2.2.below HB.out⟩
    · obtain rfl := Option.some.inj (hoi.symm.trans rfl)
      go_wp2_with (go_at_call 58; go_must (refine (Joined_any x.Ad x.nd x.cd q.dv _ ((HS.out.hdv.keep fun _ hp => h.out.1.cell hp).more h.out.1.size) HS.out.hdl).mono ?_; rintro e w5 ⟨v5, rfl, ho, hb⟩; have HO := Lib.hid ho; have HB := Lib.hid hb; clear ho hb))
      refine ⟨rfl, x28, x29, x32, x35, x38, v5, rfl, ?_⟩
      exact ⟨h.out.1.trans (HB.out.mono h.out.1.size), heap_below h.out.2.1 HB.out, h.out.2.2.1.below HB.out, h.out.2.2.2.1.below HB.out, h.out.2.2.2.2.1.below HB.out, h.out.2.2.2.2.2.1.below HB.out, h.out.2.2.2.2.2.2.1.below HB.out, fun _ => Itm.own HO.out⟩
  · intro d a w' hall hJ
    obtain ⟨x28, x29, x32, x35, x38, x41, rfl, h⟩ := hJ
    have J1 := h.out.2.2.2.1.2 (hall 1 (by simp))
    have I1 := Lib.hid J1
    obtain ⟨A15, c15, rfl, _, _⟩ := J1
    have K0 := h.out.2.2.2.2.1 (hall 4 (by simp))
    have L0 := Lib.hid K0
    obtain ⟨AK0, cK0, rfl, _, _⟩ := K0
    have K1 := h.out.2.2.2.2.2.1 (hall 7 (by simp))
    have L1 := Lib.hid K1
    obtain ⟨AK1, cK1, rfl, _, _⟩ := K1
    have K2 := h.out.2.2.2.2.2.2.1 (hall 10 (by simp))
    have L2 := Lib.hid K2
    obtain ⟨AK2, cK2, rfl, _, _⟩ := K2
    have K3 := h.out.2.2.2.2.2.2.2 (hall 13 (by simp))
    have L3 := Lib.hid K3
    obtain ⟨AK3, cK3, rfl, _, _⟩ := K3
    have NN := Lib.hid h.out.2.2.1
    have BB := Lib.hid h.out.1
    have RR := Lib.hid h.out.2.1
    clear h hall
    have IT := Lib.hid (HS.out.items RR.out)
    apply AnyC.solo (i := 22) rfl (by kernel_rfl) RR.out
    go_wp2
    refine ⟨rfl, ?_⟩
    have LS := Lib.hid (Itms.lists (.cons I1.out (.cons L0.out (.cons L1.out (.cons L2.out (.cons L3.out (.cons IT.out.1 (.cons NN.out.1 (.cons IT.out.2 (.cons NN.out.2 .nil))))))))) 24)
    have BL : Hid (∀ o, Below w.heap.size w (w'.alloc o) ∧ Below w'.heap.size w' (w'.alloc o)) := fun o => ⟨BB.out.alloc BB.out.size _, (Below.refl _ _).alloc (Nat.le_refl _) _⟩
    apply AnyC.solo (i := 23) rfl (by kernel_rfl) (heap_below RR.out (BL.out _).2)
    go_wp2_with (go_at_call 14; go_must (refine (Encode_any (some ⟨w'.heap.size, 0, none⟩) 9 (lookL q) _ LS.out (by simp [lookL])).mono ?_; rintro e w7 ⟨v7, rfl, ho, hb⟩; obtain ⟨A7, c7, rfl, hc7, hr7⟩ := own8_form ho; have O7 := Lib.hid (own8_base ho (BL.out _).1.size); have B7 := Lib.hid ((BL.out _).1.trans (hb.mono (BL.out _).1.size)); have R7 := Lib.hid (heap_below (heap_below RR.out (BL.out _).2) hb); clear ho hb hr7 hc7))
    refine ⟨rfl, ?_⟩
    apply AnyC.take (i := 24) rfl (by kernel_rfl) rfl
    · intro w' hC K hK
      go_wp2
      exact hK
    · rfl
    apply AnyC.take (i := 25) rfl (by kernel_rfl) rfl
    · intro w' hC K hK
      go_wp2
      exact hK
    · rfl
    apply AnyC.take (i := 26) rfl (by kernel_rfl) rfl
    · intro w' hC K hK
      go_wp2
      exact hK
    · rfl
    apply AnyC.take (i := 27) rfl (by kernel_rfl) rfl
    · intro w' hC K hK
      go_wp2
      exact hK
    · rfl
    refine AnyC.done R7.out (by kernel_rfl) ?_
    go_wp2
    go_ret2
    exact ⟨_, by unfold lookE; rw [HGG.out]; rfl, by unfold lookB; rw [HGG.out]; exact O7.out, B7.out⟩
  · refine ⟨undef, undef, undef, undef, undef, undef, rfl, ?_⟩
    exact ⟨B4.out, R4.out, I4.out, ⟨fun _ h1 => absurd h1 Bool.false_ne_true, fun h1 => absurd h1 Bool.false_ne_true⟩, fun h1 => absurd h1 Bool.false_ne_true, fun h1 => absurd h1 Bool.false_ne_true, fun h1 => absurd h1 Bool.false_ne_true, fun h1 => absurd h1 Bool.false_ne_true⟩
theorem EncodeLookup_any (w : World) (cs : Array Value) (q : LookV) (x : LookA) (hs : LookIn w cs q x) : Calls Try.prog 33 #[.agg cs] w (LookPost q w) := by
  cases h1 : nodesG q.fn with
  | false => exact EncodeLookup_no1 w cs q x hs h1
  | true =>
    cases h2 : nodesG q.sn with
    | false => exact EncodeLookup_no2 w cs q x hs h1 h2
    | true => exact EncodeLookup_yes w cs q x hs h1 h2
end Go.Proofs.Ytbpgbihcihnieaa
