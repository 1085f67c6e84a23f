/- The texts LJPrints of this work, merged by wip/merge.py. No conditions. -/
import Derived.Test.YtkbopeoaoakfnaaDoorQTE
import Derived.Test.YtkbopeoaoakfnaaDoorQTF
import Derived.Test.YtkbopeoaoakfnaaDoorQWB
import Derived.Test.YtkbopeoaoakfnaaDoorQR
namespace Go.Proofs.YtkbopeoaoakfnaaDoor
open Go.RowKit
/-- Where the two chains of calls stand. -/
def PrJ (w3 : World) (t : TR) (T0 : Array Value) (B : Nat) (d : Nat → Bool) (a : Act) (w : World) : Prop :=
  ∃ x8 x9 x11 x12 : Value, a = { tmps := #[.agg T0, .pointer (some ⟨B, 0, none⟩), .bool false, .bool true, .bool false, .agg T0, .bool false, .agg T0, x8, x9, .agg T0, x11, x12, undef], defers := [] } ∧
    Hid (Below (B + 1) w3 w ∧ (d 1 = true → IsV w (fun k => k < w.heap.size) x8 (valT t)) ∧ (d 2 = true → x9 = .string ⟨(prt (valT t)).toArray⟩) ∧ (d 4 = true → ∃ us', x11 = .agg us'.toArray ∧ IsT w (fun k => k < w.heap.size) us' (oursT t)) ∧ (d 5 = true → x12 = .string ⟨(prt (valT t)).toArray⟩))
set_option maxRecDepth 100000 in
set_option maxHeartbeats 800000 in
theorem jsonPrints_walk (v0 : Value) (t : TR) (W : World) (a0 : ArgT W v0 t) : Calls Tryd.prog 3 #[v0] W fun e W' => e = .returned (.bool true) ∧ Below W.heap.size W W' := by
  obtain ⟨us, rfl, hist, hbulk⟩ := a0
  obtain ⟨T0, hT0⟩ : ∃ T0, T0 = us.toArray := ⟨_, rfl⟩
  obtain ⟨B, hBe⟩ : ∃ B, B = W.heap.size := ⟨_, rfl⟩
  obtain ⟨w3, hw3⟩ : ∃ w3, w3 = W.alloc (.cells T0 25) := ⟨_, rfl⟩
  have hcl := hist.cells
  rw [← hT0] at hcl ⊢
  have h3 : Below B W w3 ∧ w3.heap[B]? = some (.cells T0 25 (0, 0)) ∧ w3.heap.size = B + 1 := by
    rw [hw3, hBe]
    exact ⟨(Below.refl _ _).alloc (Nat.le_refl _) _, heap_alloc_new _ _, by simp⟩
  have hz5 : (Tryd.prog.info? 25).map (·.size) = some T0.size := by
    have : T0.size = 5 := by rw [hT0]; simpa using hist.five
    rw [this]
    exact lawtree5
  have H3 := Lib.hid h3
  have HBe := Lib.hid hBe
  have HIST := Lib.hid hist
  have HT0 := Lib.hid hT0
  have HSM := Lib.hid (sm_bulk _ t (Nat.le_refl _) hbulk)
  have HLN : Hid ((prt (valT t)).length ≤ 140737488000000) := by show _ ≤ _; have := prt_len t; omega
  have ROW : Hid (∀ wr, Below (B + 1) w3 wr → wr.rangeAt B 0 T0.toList) := fun wr hb => range_row ((hb.block B (by omega)).trans h3.2.1)
  have TRE : Hid (∀ wr, Below (B + 1) w3 wr → IsT wr (fun k => k < wr.heap.size) us t) := fun wr hb => hist.keep (fun q hq => ((hb.block q (by omega)).trans (h3.1.block q (by omega)))) (fun q hq => by have := hb.size; have := h3.1.size; omega)
  clear hist hbulk hT0 h3
  go_enter Tryd.func3, Tryd.ntmps3
  go_upto_region 1 with (fail)
  rw [← hw3, ← hBe]
  clear hw3 hBe
  have HP3 : Hid (prT (oursT t) = prt (valT t)) := print_same t
  obtain ⟨D, hD⟩ : ∃ D, D = deepT t 200 := ⟨_, rfl⟩
  have HD := Lib.hid hD
  clear hD
  have hdp := fun (w : World) hb => deep_any (m := 200) (TRE.out w hb) (fun _ h => h) HSM.out (by decide) (by decide)
  have HDP := Lib.hid hdp
  clear hdp
  go_upto_if 4 with (go_at_call 10; go_must (refine (awake_any w3).mono ?_; rintro e w1 ⟨rfl, hb1⟩; have B1 : Hid (Below (B + 1) w3 w1) := hb1.mono (by have := H3.out.2.2; omega); clear hb1))
  have HR1 := Lib.hid (ROW.out w1 B1.out)
  cases hDc : D
  case true =>
    go_wp2_with (first
      | (refine wpList_load_arr rfl _ _ rfl B 0 rfl T0 _ (by with_reducible exact HR1.out) Tryd.underlying25 rfl (by with_reducible exact hz5) ?_)
      | (go_at_call 11; go_must (have h_ := HDP.out w1 B1.out; rw [← HT0.out, ← HD.out, hDc] at h_; refine h_.mono ?_; clear h_; rintro e w2 ⟨rfl, hb2⟩)))
    go_ret
    exact ⟨rfl, by rw [← HBe.out]; exact H3.out.1.trans ((B1.out.trans (hb2.mono (by have := B1.out.size; have := H3.out.2.2; omega))).mono (by omega))⟩
  case false =>
    go_upto_region 5 with (first
      | (refine wpList_load_arr rfl _ _ rfl B 0 rfl T0 _ (by with_reducible exact HR1.out) Tryd.underlying25 rfl (by with_reducible exact hz5) ?_)
      | (go_at_call 11; go_must (have h_ := HDP.out w1 B1.out; rw [← HT0.out, ← HD.out, hDc] at h_; refine h_.mono ?_; clear h_; rintro e w2 ⟨rfl, hb2⟩)))
    have B2 : Hid (Below (B + 1) w3 w2) := B1.out.trans (hb2.mono (by have := B1.out.size; have := H3.out.2.2; omega))
    have HS2 : Hid (B + 1 ≤ w2.heap.size) := by show _ ≤ _; have := B2.out.size; have := H3.out.2.2; omega
    clear hb2
    have BL : Hid (∀ wa wb : World, Below (B + 1) w3 wa → Below wa.heap.size wa wb → Below (B + 1) w3 wb) := fun wa wb h1 h2 => h1.trans (h2.mono (by have := h1.size; have := H3.out.2.2; omega))
    have HFS : Hid (∀ (wa wb : World), Below wa.heap.size wa wb → ∀ (x : Value) (j : JV), IsV wa (fun k => k < wa.heap.size) x j → IsV wb (fun k => k < wb.heap.size) x j) := fun wa wb hb x j h => h.keep (fun q hq => hb.block q hq) (fun q hq => Nat.lt_of_lt_of_le hq hb.size)
    have HFT : Hid (∀ (wa wb : World), Below wa.heap.size wa wb → ∀ (x : List Value) (j : TR), IsT wa (fun k => k < wa.heap.size) x j → IsT wb (fun k => k < wb.heap.size) x j) := fun wa wb hb x j h => h.keep (fun q hq => hb.block q hq) (fun q hq => Nat.lt_of_lt_of_le hq hb.size)
    refine AnyC.startB (fun w' => Below (B + 1) w3 w') (by kernel_rfl) rfl ?_
    intro w4 hb4 _
    have B4 := Lib.hid (BL.out _ _ B2.out hb4)
    clear hb4
    apply AnyC.take (i := 0) rfl (by kernel_rfl) rfl
    · intro w' hC K hK
      refine wpList_load_arr rfl _ _ rfl B 0 rfl T0 _ (by with_reducible exact ROW.out w' hC) Tryd.underlying25 rfl (by with_reducible exact hz5) ?_
      go_wp2
      exact hK
    · rfl
    apply AnyC.take (i := 3) rfl (by kernel_rfl) rfl
    · intro w' hC K hK
      refine wpList_load_arr rfl _ _ rfl B 0 rfl T0 _ (by with_reducible exact ROW.out w' hC) Tryd.underlying25 rfl (by with_reducible exact hz5) ?_
      go_wp2
      exact hK
    · rfl
    refine AnyC.bunch [1, 2, 4, 5] (PrJ w3 t T0 B) (by decide) (by kernel_rfl) (by kernel_rfl) ?_ ?_ ?_ ?_
    · rintro d a w' ⟨_, _, _, _, _, h⟩
      exact h.out.1
    · intro i hi oi hoi d a w' hJ hd hdep
      obtain ⟨x8, x9, x11, x12, rfl, h⟩ := hJ
      simp only [List.mem_cons, List.not_mem_nil, or_false] at hi
      rcases hi with rfl | rfl | rfl | rfl
      · obtain rfl := Option.some.inj (hoi.symm.trans rfl)
        go_wp2_with (go_at_call 13; go_must (have h_ := value_any (TRE.out w' h.out.1) (fun _ h => h) HSM.out; rw [← HT0.out] at h_; refine h_.mono ?_; clear h_; rintro e w5 ⟨v5, rfl, hb5, hv5⟩; have B5 := Lib.hid hb5; have V5 := Lib.hid hv5; clear hb5 hv5))
        refine ⟨rfl, v5, x9, x11, x12, rfl, BL.out _ _ h.out.1 B5.out, fun _ => V5.out.keep (fun _ _ => rfl) (fun q hq => hq.2), fun h1 => h.out.2.2.1 h1, fun h1 => ?_, fun h1 => h.out.2.2.2.2 h1⟩
        obtain ⟨us', e1, e2⟩ := h.out.2.2.2.1 h1
        exact ⟨us', e1, HFT.out _ _ B5.out _ _ e2⟩
      · obtain rfl := Option.some.inj (hoi.symm.trans rfl)
        have hv := h.out.2.1 (hdep 1 (by simp) (by kernel_rfl))
        have hv1 := hv.one
        have HV := Lib.hid hv
        clear hv
        go_wp2_with (go_at_call 12; go_must (refine (print_any HV.out (fun _ h => h) HLN.out).mono ?_; rintro e w5 ⟨rfl, hb5⟩; have B5 := Lib.hid hb5; clear hb5))
        refine ⟨rfl, x8, _, x11, x12, rfl, BL.out _ _ h.out.1 B5.out, fun _ => HFS.out _ _ B5.out _ _ HV.out, fun _ => rfl, fun h1 => ?_, fun h1 => h.out.2.2.2.2 h1⟩
        obtain ⟨us', e1, e2⟩ := h.out.2.2.2.1 h1
        exact ⟨us', e1, HFT.out _ _ B5.out _ _ e2⟩
      · obtain rfl := Option.some.inj (hoi.symm.trans rfl)
        go_wp2_with (go_at_call 15; go_must (have h_ := ours_any (TRE.out w' h.out.1) (fun _ h => h) HSM.out; rw [← HT0.out] at h_; refine h_.mono ?_; clear h_; rintro e w5 ⟨us5, rfl, hb5, ht5⟩; have B5 := Lib.hid hb5; have T5 := Lib.hid ht5; clear hb5 ht5))
        refine ⟨rfl, x8, x9, _, x12, rfl, BL.out _ _ h.out.1 B5.out, fun h1 => HFS.out _ _ B5.out _ _ (h.out.2.1 h1), fun h1 => h.out.2.2.1 h1, fun _ => ⟨us5, rfl, T5.out.keep (fun _ _ => rfl) (fun q hq => hq.2)⟩, fun h1 => h.out.2.2.2.2 h1⟩
      · obtain rfl := Option.some.inj (hoi.symm.trans rfl)
        obtain ⟨us', rfl, ht'⟩ := h.out.2.2.2.1 (hdep 4 (by simp) (by kernel_rfl))
        have HT' := Lib.hid ht'
        clear ht'
        go_wp2_with (go_at_call 14; go_must (have h_ := rPrint_any HT'.out (fun _ h => h) (ours_kd t) (by rw [HP3.out]; exact HLN.out); rw [HP3.out] at h_; refine h_.mono ?_; clear h_; rintro e w5 ⟨rfl, hb5⟩; have B5 := Lib.hid hb5; clear hb5))
        exact ⟨rfl, x8, x9, _, _, rfl, BL.out _ _ h.out.1 B5.out, fun h1 => HFS.out _ _ B5.out _ _ (h.out.2.1 h1), fun h1 => h.out.2.2.1 h1, fun _ => ⟨us', rfl, HFT.out _ _ B5.out _ _ HT'.out⟩, fun _ => rfl⟩
    · intro d a w' hall hJ
      obtain ⟨x8, x9, x11, x12, rfl, h⟩ := hJ
      obtain rfl := h.out.2.2.1 (hall 2 (by simp))
      obtain rfl := h.out.2.2.2.2 (hall 5 (by simp))
      have hb := h.out.1
      have B9 := Lib.hid hb
      obtain ⟨us', rfl, _⟩ := h.out.2.2.2.1 (hall 4 (by simp))
      have hv1 := (h.out.2.1 (hall 1 (by simp))).one
      clear h hb
      obtain ⟨PB, hPB⟩ : ∃ PB : ByteArray, PB = ⟨(prt (valT t)).toArray⟩ := ⟨_, rfl⟩
      rw [← hPB]
      clear hPB
      apply AnyC.take (i := 6) rfl (by kernel_rfl) rfl
      · intro w' hC K hK
        go_wp2
        exact hK
      · rfl
      apply AnyC.take (i := 7) rfl (by kernel_rfl) rfl
      · intro w' hC K hK
        go_wp2
        exact hK
      · rfl
      refine AnyC.done B9.out (by kernel_rfl) ?_
      go_wp2
      go_ret
      exact ⟨rfl, by rw [← HBe.out]; exact H3.out.1.trans (B9.out.mono (by omega))⟩
    · exact ⟨_, _, _, _, rfl, B4.out, (fun h => by cases h), (fun h => by cases h), (fun h => by cases h), (fun h => by cases h)⟩
end Go.Proofs.YtkbopeoaoakfnaaDoor
