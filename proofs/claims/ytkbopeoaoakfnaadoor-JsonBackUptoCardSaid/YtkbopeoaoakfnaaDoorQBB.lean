/- The texts LJBack of this work, merged by wip/merge.py. No conditions. -/
import Derived.Test.YtkbopeoaoakfnaaDoorQBA
import Derived.Test.YtkbopeoaoakfnaaDoorQWB
namespace Go.Proofs.YtkbopeoaoakfnaaDoor
open Go.RowKit
set_option maxRecDepth 100000 in
set_option maxHeartbeats 1600000 in
theorem jsonBack_walk (v0 : Value) (t : TR) (W : World) (a0 : ArgT W v0 t) : Calls Tryd.prog 6 #[v0] W fun e W' => e = .returned (.bool true) ∧ Below W.heap.size W W' := by
  obtain ⟨us, rfl, hist, hbulk⟩ := a0
  obtain ⟨T0, hT0⟩ : ∃ T0, T0 = us.toArray := ⟨_, rfl⟩
  obtain ⟨B, hBe⟩ : ∃ B, B = W.heap.size := ⟨_, rfl⟩
  obtain ⟨w3, hw3⟩ : ∃ w3, w3 = W.alloc (.cells T0 25) := ⟨_, rfl⟩
  have hcl := hist.cells
  rw [← hT0] at hcl ⊢
  have h3 : Below B W w3 ∧ w3.heap[B]? = some (.cells T0 25 (0, 0)) ∧ w3.heap.size = B + 1 := by
    rw [hw3, hBe]
    exact ⟨(Below.refl _ _).alloc (Nat.le_refl _) _, heap_alloc_new _ _, by simp⟩
  have hz5 : (Tryd.prog.info? 25).map (·.size) = some T0.size := by
    have : T0.size = 5 := by rw [hT0]; simpa using hist.five
    rw [this]
    exact lawtree5
  have H3 := Lib.hid h3
  have HBe := Lib.hid hBe
  have HT0 := Lib.hid hT0
  have HBULK := Lib.hid hbulk
  have HSM := Lib.hid (sm_bulk _ t (Nat.le_refl _) hbulk)
  obtain ⟨J, hJ⟩ : ∃ J, J = valT t := ⟨_, rfl⟩
  have HJ := Lib.hid hJ
  have HLN : Hid ((prt J).length ≤ 140737488000000) := by show _ ≤ _; have := prt_len t; rw [hJ]; omega
  have ROW : Hid (∀ wr, Below (B + 1) w3 wr → wr.rangeAt B 0 T0.toList) := fun wr hb => range_row ((hb.block B (by omega)).trans h3.2.1)
  have TRE : Hid (∀ wr, Below (B + 1) w3 wr → IsT wr (fun k => k < wr.heap.size) us t) := fun wr hb => hist.keep (fun q hq => ((hb.block q (by omega)).trans (h3.1.block q (by omega)))) (fun q hq => by have := hb.size; have := h3.1.size; omega)
  have BL : Hid (∀ wa wb : World, Below (B + 1) w3 wa → Below wa.heap.size wa wb → Below (B + 1) w3 wb) := fun wa wb h1 h2 => h1.trans (h2.mono (by have := h1.size; have := h3.2.2; omega))
  have FIN : Hid (∀ wa : World, Below (B + 1) w3 wa → Below W.heap.size W wa) := fun wa h => by rw [← hBe]; exact h3.1.trans (h.mono (by omega))
  have HDP : Hid (∀ wr, Below (B + 1) w3 wr → Calls Tryd.prog 11 #[.agg T0, .int .i64 16] wr fun e w' => e = .returned (.bool (deepT t 16)) ∧ Below wr.heap.size wr w') := fun wr hb => by
    rw [hT0]
    exact deep_any (m := 16) (TRE.out wr hb) (fun _ h => h) HSM.out (by decide) (by decide)
  have HMD : Hid (∀ wr, Below (B + 1) w3 wr → Calls Tryd.prog 20 #[.agg T0] wr (SaysB wr (MADE t))) := fun wr hb => by
    rw [hT0]
    exact made_any (TRE.out wr hb) (fun _ h => h) HBULK.out
  have HVL : Hid (∀ wr, Below (B + 1) w3 wr → Calls Tryd.prog 13 #[.agg T0] wr fun e w' => ∃ v, e = .returned v ∧ Below wr.heap.size wr w' ∧ IsV w' (fun k => wr.heap.size ≤ k ∧ k < w'.heap.size) v J) := fun wr hb => by
    rw [hT0, hJ]
    exact value_any (TRE.out wr hb) (fun _ h => h) HSM.out
  have HOU : Hid (∀ wr, Below (B + 1) w3 wr → Calls Tryd.prog 15 #[.agg T0] wr fun e w' => ∃ us', e = .returned (.agg us'.toArray) ∧ Below wr.heap.size wr w' ∧ IsT w' (fun k => wr.heap.size ≤ k ∧ k < w'.heap.size) us' (oursT t)) := fun wr hb => by
    rw [hT0]
    exact ours_any (TRE.out wr hb) (fun _ h => h) HSM.out
  clear hist hbulk hT0 h3 hJ
  go_enter Tryd.func6, Tryd.ntmps6
  go_upto_region 1 with (fail)
  rw [← hw3, ← hBe]
  clear hw3 hBe
  obtain ⟨D, hD⟩ : ∃ D, D = deepT t 16 := ⟨_, rfl⟩
  rw [← hD] at HDP
  have HD := Lib.hid hD
  clear hD
  go_upto_region 3 with (go_at_call 10; go_must (refine (awake_any w3).mono ?_; rintro e w1 ⟨rfl, hb1⟩; have B1 : Hid (Below (B + 1) w3 w1) := hb1.mono (by have := H3.out.2.2; omega); clear hb1))
  have HR1 := Lib.hid (ROW.out w1 B1.out)
  cases D with
  | true =>
    go_wp2_with (first
      | (refine wpList_load_arr rfl _ _ rfl B 0 rfl T0 _ (by with_reducible exact HR1.out) Tryd.underlying25 rfl (by with_reducible exact hz5) ?_)
      | (go_at_call 11; go_must (refine (HDP.out w1 B1.out).mono ?_; rintro e w2 ⟨rfl, hb2⟩; have B2 := Lib.hid (BL.out _ _ B1.out hb2); clear hb2)))
    go_ret
    exact ⟨rfl, FIN.out _ B2.out⟩
  | false =>
    go_upto_if 15 with (first
      | (refine loadRow_w rfl 25 _ rfl B 0 rfl T0 _ (by with_reducible exact HR1.out) Tryd.underlying25 rfl (by with_reducible exact hz5) ?_)
      | (have hx_ := B2; refine loadRow_w rfl 25 _ rfl B 0 rfl T0 _ (by with_reducible exact HR2.out) Tryd.underlying25 rfl (by with_reducible exact hz5) ?_)
      | (go_at_call 11; go_must (refine (HDP.out w1 B1.out).mono ?_; rintro e w2 ⟨rfl, hb2⟩; have B2 := Lib.hid (BL.out _ _ B1.out hb2); have HR2 := Lib.hid (ROW.out w2 B2.out); clear hb2))
      | (go_at_call 20; go_must (refine (HMD.out w2 B2.out).mono ?_; rintro e w4 ⟨bm, rfl, hb4, hp4⟩; have B4 := Lib.hid (BL.out _ _ B2.out hb4); have HP4 := Lib.hid hp4; clear hb4 hp4)))
    cases bm with
    | false =>
      simp only [Bool.not_false]
      go_wp2
      go_ret
      exact ⟨rfl, FIN.out _ B4.out⟩
    | true =>
      simp only [Bool.not_true]
      have hmade : MADE t := HP4.out rfl
      have hgood := made_good t 16 hmade HD.out.symm
      have hmj := made_MJ t hmade HBULK.out
      rw [← HJ.out] at hgood hmj
      have HGOOD := Lib.hid hgood
      have HMJ := Lib.hid hmj
      have HR4 := Lib.hid (ROW.out w4 B4.out)
      obtain ⟨PB, hPB⟩ : ∃ PB : ByteArray, PB = ⟨(prt J).toArray⟩ := ⟨_, rfl⟩
      have hpz : PB.size = (prt J).length := by rw [hPB]; simp [ByteArray.size]
      have HPP : Hid (∀ w, Calls Tryd.prog 16 #[.string PB] w (ParsePost w (prt J))) := fun w => by
        rw [hPB]
        exact parse_any w (prt J)
      have HPB := Lib.hid hPB
      clear hmade hgood hmj hPB
      go_upto_region 6 with (first
        | (refine wpList_load_arr rfl _ _ rfl B 0 rfl T0 _ (by with_reducible exact HR4.out) Tryd.underlying25 rfl (by with_reducible exact hz5) ?_)
        | (go_at_call 13; go_must (refine (HVL.out w4 B4.out).mono ?_; rintro e w5 ⟨v5, rfl, hb5, hv5⟩; have B5 := Lib.hid (BL.out _ _ B4.out hb5); have HV5 := Lib.hid hv5; have hv1 := hv5.one; clear hb5 hv5))
        | (go_at_call 12; go_must (refine (print_any HV5.out (fun q hq => hq.2) HLN.out).mono ?_; rw [← HPB.out]; rintro e w6 ⟨rfl, hb6⟩; have B6 := Lib.hid (BL.out _ _ B5.out hb6); clear hb6)))
      by_cases hbig : 8192 < (prt J).length
      · have HPR := Lib.hid (show parseP (prt J) = (.nil, 0, 6) by unfold parseP; rw [if_pos hbig])
        have hb : (8192 : Int) < (PB.size : Int) := by omega
        clear hbig hpz
        go_wp2_with (go_at_call 16; go_must (refine (HPP.out w6).mono ?_; rintro e w7 ⟨v7, rfl, hb7, hV7⟩; rw [HPR.out] at hV7; cases hV7; rw [HPR.out]; have B7 := Lib.hid (BL.out _ _ B6.out hb7); clear hb7))
        go_ret
        exact ⟨by simp, FIN.out _ B7.out⟩
      · have HPR := Lib.hid (show parseP (prt J) = (J, 0, 0) from parse_print HGOOD.out (by omega))
        have hb : ¬ (8192 : Int) < (PB.size : Int) := by omega
        clear hbig hpz
        go_upto_region 9 with (go_at_call 16; go_must (refine (HPP.out w6).mono ?_; rintro e w7 ⟨v7, rfl, hb7, hV7⟩; rw [HPR.out] at hV7; rw [HPR.out]; have B7 := Lib.hid (BL.out _ _ B6.out hb7); have HV7 := Lib.hid (hV7.keep (fun _ _ => rfl) (fun q hq => (show q < w7.heap.size from hq.2))); have hv7 := hV7.one; clear hb7 hV7))
        have HR7 := Lib.hid (ROW.out w7 B7.out)
        go_wp2_with (first
          | (refine loadRow_w rfl 25 _ rfl B 0 rfl T0 _ (by with_reducible exact HR7.out) Tryd.underlying25 rfl (by with_reducible exact hz5) ?_)
          | (go_at_call 15; go_must (refine (HOU.out w7 B7.out).mono ?_; rintro e w8 ⟨us8, rfl, hb8, hT8⟩; have B8 := Lib.hid (BL.out _ _ B7.out hb8); have HT8 := Lib.hid hT8; have HV8 := Lib.hid (HV7.out.keep (fun q hq => hb8.block q hq) (fun q hq => (show q < w8.heap.size from Nat.lt_of_lt_of_le hq hb8.size))); clear hb8 hT8))
          | (go_at_call 19; go_must (refine (is_any HV8.out HT8.out HMJ.out.1 (fun q hq => hq) (fun q hq => hq.2) HMJ.out.2).mono ?_; rintro e w9 ⟨rfl, hb9⟩; have B9 := Lib.hid (BL.out _ _ B8.out hb9); clear hb9)))
        go_ret
        exact ⟨by simp, FIN.out _ B9.out⟩
end Go.Proofs.YtkbopeoaoakfnaaDoor
