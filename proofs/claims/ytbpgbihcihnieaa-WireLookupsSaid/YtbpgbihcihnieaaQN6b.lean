/- The texts N6b of this work, merged by wip/merge.py. No conditions. -/
import Derived.Test.YtbpgbihcihnieaaQN1
namespace Go.Proofs.Ytbpgbihcihnieaa
open Go.RowKit
theorem own_slice {w : World} {A : Option Addr} {n c : Nat} {l : List UInt8} (h : Itm w (.slice A n c) l) : n = l.length := by
  obtain ⟨A', c', he, _⟩ := h
  cases he
  rfl
def RJ (w : World) (cs : Array Value) (r : RootV) (ns : List NodeV) (ad lk : List UInt8) (An Aa Al : Option Addr) (cn na ca nl cl : Nat) (v4 : Value) (d : Nat → Bool) (a : Act) (w' : World) : Prop :=
  ∃ x14 x15 x18 x22 x25 : Value, a = { tmps := #[.agg cs, .pointer (some ⟨w.heap.size, 0, none⟩), .slice none 0 0, .int .i64 0, v4, .bool true, .tuple #[v4, .bool true], .pointer (some ⟨w.heap.size, 163, none⟩), .slice An ns.length cn, .tuple #[v4, .bool true], v4, .bool true, .bool true, .bool false, x14, x15, .pointer (some ⟨w.heap.size, 0, none⟩), .agg r.cs, x18, v4, .pointer (some ⟨w.heap.size, 164, none⟩), .slice Aa na ca, x22, .pointer (some ⟨w.heap.size, 165, none⟩), .slice Al nl cl, x25, undef, undef, undef, undef], defers := [] } ∧
    Hid (Below w.heap.size w w' ∧ w'.heap[w.heap.size]? = some (.cells cs 66 (0, 0)) ∧ Itm w' v4 (nodesB ns) ∧ WJ d 0 1 w.heap.size x14 x15 #[.int .u8 115, .int .u8 116, .int .u8 101, .int .u8 112] 4 stepW w' ∧ IJ d 4 x18 (signB r) w' ∧ IJ d 8 x22 ad w' ∧ IJ d 11 x25 lk w')
set_option maxRecDepth 100000 in
set_option maxHeartbeats 4000000 in
theorem rEncodeStep_no (w : World) (cs : Array Value) (r : RootV) (ns : List NodeV) (ad lk : List UInt8) (An Aa Al : Option Addr) (cn na ca nl cl : Nat) (hs : StepIn w cs r ns ad lk An Aa Al cn na ca nl cl) (hg : nodesG ns = false) : Calls Try.prog 39 #[.agg cs] w (StepPost r ns ad lk w) := by
  have hsz := hs.size
  have F : Hid (Below w.heap.size w (w.alloc (.cells cs 66)) ∧ (w.alloc (.cells cs 66)).heap[w.heap.size]? = some (.cells cs 66 (0, 0))) := ⟨(Below.refl _ _).alloc (Nat.le_refl _) _, heap_alloc_new w _⟩
  have HS := Lib.hid hs
  have HZ := Lib.hid hsz
  obtain ⟨e163, e164, e165, er⟩ := hs.at_ F.out.2
  clear hs hsz er e164 e165
  have HG := Lib.hid hg
  clear hg
  go_enter Try.func39, Try.ntmps39
  go_wp2_with (go_at_call 59; go_must (refine (rnodes_any An ns.length cn ns _ ⟨HS.out.hns.1, (HS.out.hns.2.keep fun _ hp => F.out.1.cell hp).more F.out.1.size⟩ rfl HS.out.hnl).mono ?_; rintro e w1 ⟨v, rfl, ho, hb⟩; rw [HG.out]; obtain ⟨A1, c1, rfl, hc1, hr1⟩ := own8_form ho; have I1 := Lib.hid (Itm.own ho); have B1 := Lib.hid (F.out.1.trans (hb.mono F.out.1.size)); have R1 := Lib.hid (heap_below F.out.2 hb); clear ho hb hc1 hr1))
  go_ret2
  exact ⟨.slice none 0 0, by unfold stepE; rw [HG.out]; rfl, by unfold stepB; rw [HG.out]; exact own8_nil _ _, B1.out⟩
set_option maxRecDepth 100000 in
set_option maxHeartbeats 4000000 in
theorem rEncodeStep_yes (w : World) (cs : Array Value) (r : RootV) (ns : List NodeV) (ad lk : List UInt8) (An Aa Al : Option Addr) (cn na ca nl cl : Nat) (hs : StepIn w cs r ns ad lk An Aa Al cn na ca nl cl) (hg : nodesG ns = true) : Calls Try.prog 39 #[.agg cs] w (StepPost r ns ad lk w) := by
  have hsz := hs.size
  have F : Hid (Below w.heap.size w (w.alloc (.cells cs 66)) ∧ (w.alloc (.cells cs 66)).heap[w.heap.size]? = some (.cells cs 66 (0, 0))) := ⟨(Below.refl _ _).alloc (Nat.le_refl _) _, heap_alloc_new w _⟩
  have HS := Lib.hid hs
  have HZ := Lib.hid hsz
  obtain ⟨e163, e164, e165, er⟩ := hs.at_ F.out.2
  clear hs hsz er e164 e165
  have HG := Lib.hid hg
  clear hg
  go_enter Try.func39, Try.ntmps39
  go_wp2_with (go_at_call 59; go_must (refine (rnodes_any An ns.length cn ns _ ⟨HS.out.hns.1, (HS.out.hns.2.keep fun _ hp => F.out.1.cell hp).more F.out.1.size⟩ rfl HS.out.hnl).mono ?_; rintro e w1 ⟨v, rfl, ho, hb⟩; rw [HG.out]; obtain ⟨A1, c1, rfl, hc1, hr1⟩ := own8_form ho; have I1 := Lib.hid (Itm.own ho); have B1 := Lib.hid (F.out.1.trans (hb.mono F.out.1.size)); have R1 := Lib.hid (heap_below F.out.2 hb); clear ho hb hc1 hr1))
  refine AnyC.startB (fun w' => w'.heap[w.heap.size]? = some (.cells cs 66 (0, 0))) (by kernel_rfl) rfl ?_
  intro w4 hb4 hs4
  clear hs4
  have B4 := Lib.hid (B1.out.trans (hb4.mono B1.out.size))
  have R4 := Lib.hid (heap_below R1.out hb4)
  have I4 := Lib.hid (I1.out.below hb4)
  clear hb4 e163
  apply AnyC.take (i := 2) rfl (by kernel_rfl) rfl
  · intro w' hC K hK
    go_wp2
    exact hK
  · rfl
  apply AnyC.take (i := 3) rfl (by kernel_rfl) rfl
  · intro w' hC K hK
    refine wpList_load_arr rfl _ _ rfl w.heap.size 0 rfl r.cs _ (HS.out.at_ hC).2.2.2 Try.underlying47 rfl (by rw [root_size HS.out.hok]; kernel_rfl) ?_
    go_wp2
    exact hK
  · rfl
  apply AnyC.take (i := 5) rfl (by kernel_rfl) rfl
  · intro w' hC K hK
    go_wp2
    exact hK
  · rfl
  apply AnyC.take (i := 6) rfl (by kernel_rfl) rfl
  · intro w' hC K hK
    go_wp2
    exact hK
  · rfl
  apply AnyC.take (i := 7) rfl (by kernel_rfl) rfl
  · intro w' hC K hK
    obtain ⟨_, e164, _, _⟩ := HS.out.at_ hC
    go_wp2
    exact hK
  · rfl
  apply AnyC.take (i := 9) rfl (by kernel_rfl) rfl
  · intro w' hC K hK
    go_wp2
    exact hK
  · rfl
  apply AnyC.take (i := 10) rfl (by kernel_rfl) rfl
  · intro w' hC K hK
    obtain ⟨_, _, e165, _⟩ := HS.out.at_ hC
    go_wp2
    exact hK
  · rfl
  refine AnyC.bunch [0, 1, 4, 8, 11] (RJ w cs r ns ad lk An Aa Al cn na ca nl cl (.slice A1 (nodesB ns).length c1)) (by decide) (by kernel_rfl) (by kernel_rfl) ?_ ?_ ?_ ?_
  · rintro d a w' ⟨_, _, _, _, _, _, h⟩
    exact h.out.2.1
  · intro i hi oi hoi d a w' hJ hd hdep
    obtain ⟨x14, x15, x18, x22, x25, rfl, h⟩ := hJ
    simp only [List.mem_cons, List.not_mem_nil, or_false] at hi
    rcases hi with rfl | rfl | rfl | rfl | rfl
    · obtain rfl := Option.some.inj (hoi.symm.trans rfl)
      go_wp2
      have hb : ∀ o, Below w'.heap.size w' (w'.alloc o) := fun o => (Below.refl _ _).alloc (Nat.le_refl _) _
      refine ⟨rfl, .slice (some ⟨w'.heap.size, 0, none⟩) 4 4, x15, x18, x22, x25, rfl, ?_⟩
      exact ⟨h.out.1.trans ((hb _).mono h.out.1.size), heap_below h.out.2.1 (hb _), h.out.2.2.1.below (hb _), ⟨fun _ _ => ⟨_, rfl, lt_of_heap h.out.2.1, heap_alloc_new _ _⟩, fun h1 => (h.out.2.2.2.1.2 h1).below (hb _)⟩, h.out.2.2.2.2.1.below (hb _), h.out.2.2.2.2.2.1.below (hb _), h.out.2.2.2.2.2.2.below (hb _)⟩
    · obtain rfl := Option.some.inj (hoi.symm.trans rfl)
      obtain ⟨bq, rfl, hB, hq⟩ := h.out.2.2.2.1.1 hd (hdep 0 (by simp) (by kernel_rfl))
      have hcv := run_conv_mark (n := 4) (c := 4) (m := 4) hq rfl
      have MW := Lib.hid (mark_world (n := 4) hq)
      have HQ := Lib.hid hq
      have HB := Lib.hid hB
      clear hq hB
      go_wp2
      refine ⟨rfl, .slice (some ⟨bq, 0, none⟩) 4 4, .slice (some ⟨bq, 0, none⟩) 4 4, x18, x22, x25, rfl, ?_⟩
      exact ⟨h.out.1.trans (MW.out.2.2.2 _ (Nat.le_of_lt HB.out)), (MW.out.2.2.1 _ (Nat.ne_of_lt HB.out)).trans h.out.2.1, h.out.2.2.1.cells MW.out.1 MW.out.2.1, ⟨fun h1 => absurd h1 (by simp), fun _ => (Itm.row (n := 4) HQ.out stepW_cells rfl).cells MW.out.1 MW.out.2.1⟩, h.out.2.2.2.2.1.cells MW.out.1 MW.out.2.1, h.out.2.2.2.2.2.1.cells MW.out.1 MW.out.2.1, h.out.2.2.2.2.2.2.cells MW.out.1 MW.out.2.1⟩
    · obtain rfl := Option.some.inj (hoi.symm.trans rfl)
      go_wp2_with (go_at_call 32; go_must (refine (rEncodeRoot_any r HS.out.hok _).mono ?_; rintro e w5 ⟨v5, rfl, ho, hb⟩; have HO := Lib.hid ho; have HB := Lib.hid hb; clear ho hb))
      refine ⟨rfl, x14, x15, v5, x22, x25, rfl, ?_⟩
      exact ⟨h.out.1.trans (HB.out.mono h.out.1.size), heap_below h.out.2.1 HB.out, h.out.2.2.1.below HB.out, h.out.2.2.2.1.below HB.out, fun _ => Itm.own HO.out, h.out.2.2.2.2.2.1.below HB.out, h.out.2.2.2.2.2.2.below HB.out⟩
    · obtain rfl := Option.some.inj (hoi.symm.trans rfl)
      go_wp2_with (go_at_call 70; go_must (refine (rLeavesBytes_any Aa na ca ad _ ((HS.out.had.keep fun _ hp => h.out.1.cell hp).more h.out.1.size) HS.out.hal).mono ?_; rintro e w5 ⟨v5, rfl, ho, hb⟩; have HO := Lib.hid ho; have HB := Lib.hid hb; clear ho hb))
      refine ⟨rfl, x14, x15, x18, v5, x25, rfl, ?_⟩
      exact ⟨h.out.1.trans (HB.out.mono h.out.1.size), heap_below h.out.2.1 HB.out, h.out.2.2.1.below HB.out, h.out.2.2.2.1.below HB.out, h.out.2.2.2.2.1.below HB.out, fun _ => Itm.own HO.out, h.out.2.2.2.2.2.2.below HB.out⟩
    · obtain rfl := Option.some.inj (hoi.symm.trans rfl)
      go_wp2_with (go_at_call 71; go_must (refine (rLinksBytes_any Al nl cl lk _ ((HS.out.hlk.keep fun _ hp => h.out.1.cell hp).more h.out.1.size) HS.out.hll).mono ?_; rintro e w5 ⟨v5, rfl, ho, hb⟩; have HO := Lib.hid ho; have HB := Lib.hid hb; clear ho hb))
      refine ⟨rfl, x14, x15, x18, x22, v5, rfl, ?_⟩
      exact ⟨h.out.1.trans (HB.out.mono h.out.1.size), heap_below h.out.2.1 HB.out, h.out.2.2.1.below HB.out, h.out.2.2.2.1.below HB.out, h.out.2.2.2.2.1.below HB.out, h.out.2.2.2.2.2.1.below HB.out, fun _ => Itm.own HO.out⟩
  · intro d a w' hall hJ
    obtain ⟨x14, x15, x18, x22, x25, rfl, h⟩ := hJ
    have J1 := h.out.2.2.2.1.2 (hall 1 (by simp))
    have I1 := Lib.hid J1
    obtain ⟨A15, c15, rfl, _, _⟩ := J1
    have K0 := h.out.2.2.2.2.1 (hall 4 (by simp))
    have L0 := Lib.hid K0
    obtain ⟨AK0, cK0, rfl, _, _⟩ := K0
    have K1 := h.out.2.2.2.2.2.1 (hall 8 (by simp))
    have L1 := Lib.hid K1
    obtain ⟨AK1, cK1, rfl, _, _⟩ := K1
    have K2 := h.out.2.2.2.2.2.2 (hall 11 (by simp))
    have L2 := Lib.hid K2
    obtain ⟨AK2, cK2, rfl, _, _⟩ := K2
    have NN := Lib.hid h.out.2.2.1
    have BB := Lib.hid h.out.1
    have RR := Lib.hid h.out.2.1
    clear h hall
    apply AnyC.solo (i := 12) rfl (by kernel_rfl) RR.out
    go_wp2
    refine ⟨rfl, ?_⟩
    have LS := Lib.hid (Itms.lists (.cons I1.out (.cons L0.out (.cons NN.out (.cons L1.out (.cons L2.out .nil))))) 24)
    have BL : Hid (∀ o, Below w.heap.size w (w'.alloc o) ∧ Below w'.heap.size w' (w'.alloc o)) := fun o => ⟨BB.out.alloc BB.out.size _, (Below.refl _ _).alloc (Nat.le_refl _) _⟩
    apply AnyC.solo (i := 13) rfl (by kernel_rfl) (heap_below RR.out (BL.out _).2)
    go_wp2_with (go_at_call 13; go_must (refine (rEncode_any (some ⟨w'.heap.size, 0, none⟩) 5 (stepL r ns ad lk) _ LS.out (by simp [stepL])).mono ?_; rintro e w7 ⟨v7, rfl, ho, hb⟩; obtain ⟨A7, c7, rfl, hc7, hr7⟩ := own8_form ho; have O7 := Lib.hid (own8_base ho (BL.out _).1.size); have B7 := Lib.hid ((BL.out _).1.trans (hb.mono (BL.out _).1.size)); have R7 := Lib.hid (heap_below (heap_below RR.out (BL.out _).2) hb); clear ho hb hr7 hc7))
    refine ⟨rfl, ?_⟩
    apply AnyC.take (i := 14) rfl (by kernel_rfl) rfl
    · intro w' hC K hK
      go_wp2
      exact hK
    · rfl
    apply AnyC.take (i := 15) rfl (by kernel_rfl) rfl
    · intro w' hC K hK
      go_wp2
      exact hK
    · rfl
    apply AnyC.take (i := 16) rfl (by kernel_rfl) rfl
    · intro w' hC K hK
      go_wp2
      exact hK
    · rfl
    apply AnyC.take (i := 17) rfl (by kernel_rfl) rfl
    · intro w' hC K hK
      go_wp2
      exact hK
    · rfl
    refine AnyC.done R7.out (by kernel_rfl) ?_
    go_wp2
    go_ret2
    exact ⟨_, by unfold stepE; rw [HG.out]; rfl, by unfold stepB; rw [HG.out]; exact O7.out, B7.out⟩
  · refine ⟨undef, undef, undef, undef, undef, rfl, ?_⟩
    exact ⟨B4.out, R4.out, I4.out, ⟨fun _ h1 => absurd h1 Bool.false_ne_true, fun h1 => absurd h1 Bool.false_ne_true⟩, fun h1 => absurd h1 Bool.false_ne_true, fun h1 => absurd h1 Bool.false_ne_true, fun h1 => absurd h1 Bool.false_ne_true⟩
end Go.Proofs.Ytbpgbihcihnieaa
