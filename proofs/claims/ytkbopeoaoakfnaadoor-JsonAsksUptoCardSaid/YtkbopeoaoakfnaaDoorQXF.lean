/- The texts LJAsks of this work, merged by wip/merge.py. No conditions. -/
import Derived.Test.YtkbopeoaoakfnaaDoorQXE
import Derived.Test.YtkbopeoaoakfnaaDoorQTE
import Derived.Test.YtkbopeoaoakfnaaDoorQTF
import Derived.Test.YtkbopeoaoakfnaaDoorQWB
import Derived.Test.YtkbopeoaoakfnaaDoorQR
import Derived.Test.YtkbopeoaoakfnaaDoorQAS
namespace Go.Proofs.YtkbopeoaoakfnaaDoor
open Go.RowKit
/-- Whether a variable is another block. -/
def Off (x : Value) (q : Nat) : Prop := x ≠ .pointer (some ⟨q, 0, none⟩)
/-- Where the two calls and the variable stand. -/
def AsJ (w3 : World) (t : TR) (T0 : Array Value) (KX : ByteArray) (B : Nat) (d : Nat → Bool) (a : Act) (w : World) : Prop :=
  ∃ x6 x24 x26 : Value, a = { tmps := #[.agg T0, .string KX, .pointer (some ⟨B, 0, none⟩), undef, .bool false, undef, x6, undef, undef, undef, undef, undef, undef, undef, undef, undef, undef, undef, undef, .bool true, .bool false, .agg T0, .bool false, .agg T0, x24, .agg T0, x26, undef, undef, undef, undef, undef, undef, undef, undef, undef, undef, undef, undef, undef, undef, undef, undef, undef, undef, undef, undef, undef, undef, undef, undef, undef, undef, undef, undef, undef, undef, undef, undef, undef, undef, undef, undef, undef, undef, undef, undef, undef, undef, undef, undef, undef, undef, undef, undef, undef, undef, undef, undef, undef, undef, undef, undef, undef, undef, undef, undef, undef, undef, undef, undef, undef, undef, undef, undef, undef, undef, undef, undef, undef, undef, undef, undef, undef, undef, undef, undef, undef, undef, undef, undef, undef, undef, undef, undef, undef, undef, undef, undef, undef, undef, undef, undef, undef, undef, undef, undef, undef, undef, undef, undef, undef, undef, undef, undef, undef, undef, undef, undef, undef, undef, undef, undef, undef, undef, undef], defers := [] } ∧
    Hid (Below (B + 1) w3 w ∧ (d 1 = true → IsV w (fun k => k < w.heap.size ∧ Off x6 k) x24 (valT t)) ∧ (d 3 = true → ∃ us', x26 = .agg us'.toArray ∧ IsT w (fun k => k < w.heap.size ∧ Off x6 k) us' (oursT t)) ∧
      (d 4 = true → ∃ Q, x6 = .pointer (some ⟨Q, 0, none⟩) ∧ B + 1 ≤ Q ∧ w.heap[Q]? = some (.cells zero5 35 (0, 0))) ∧ (d 4 = false → x6 = undef))
theorem off_new {w : World} {x6 : Value} {b4 : Bool} {B : Nat} (h1 : b4 = true → ∃ Q, x6 = .pointer (some ⟨Q, 0, none⟩) ∧ B + 1 ≤ Q ∧ w.heap[Q]? = some (.cells zero5 35 (0, 0))) (h2 : b4 = false → x6 = undef) (q : Nat) (hq : w.heap.size ≤ q) : Off x6 q := by
  cases b4 with
  | false => rw [h2 rfl]; intro e; cases e
  | true =>
    obtain ⟨Q, rfl, _, h3⟩ := h1 rfl
    have := lt_of_heap h3
    intro e
    cases e
    omega
set_option maxRecDepth 100000 in
set_option maxHeartbeats 4000000 in
theorem jsonAsks_walk (v0 v1 : Value) (t : TR) (x1 : ByteArray) (W : World) (a0 : ArgT W v0 t) (a1 : ArgS v1 x1) : Calls Tryd.prog 8 #[v0, v1] W fun e W' => e = .returned (.bool true) ∧ Below W.heap.size W W' := by
  obtain ⟨us, rfl, hist, hbulk⟩ := a0
  obtain ⟨rfl, _⟩ := a1
  obtain ⟨KX, hKX⟩ : ∃ KX, KX = x1 := ⟨_, rfl⟩
  rw [← hKX]
  obtain ⟨key, hkey⟩ : ∃ key : List UInt8, KX = ⟨key.toArray⟩ := ⟨KX.data.toList, by cases KX; simp⟩
  have HKX := Lib.hid hkey
  clear hKX hkey
  obtain ⟨T0, hT0⟩ : ∃ T0, T0 = us.toArray := ⟨_, rfl⟩
  obtain ⟨B, hBe⟩ : ∃ B, B = W.heap.size := ⟨_, rfl⟩
  obtain ⟨w3, hw3⟩ : ∃ w3, w3 = W.alloc (.cells T0 25) := ⟨_, rfl⟩
  have hcl := hist.cells
  rw [← hT0] at hcl ⊢
  have h3 : Below B W w3 ∧ w3.heap[B]? = some (.cells T0 25 (0, 0)) ∧ w3.heap.size = B + 1 := by
    rw [hw3, hBe]
    exact ⟨(Below.refl _ _).alloc (Nat.le_refl _) _, heap_alloc_new _ _, by simp⟩
  have hz5 : (Tryd.prog.info? 25).map (·.size) = some T0.size := by
    have : T0.size = 5 := by rw [hT0]; simpa using hist.five
    rw [this]
    exact lawtree5
  have H3 := Lib.hid h3
  have HBe := Lib.hid hBe
  have HIST := Lib.hid hist
  have HT0 := Lib.hid hT0
  have HBULK := Lib.hid hbulk
  have HSM := Lib.hid (sm_bulk _ t (Nat.le_refl _) hbulk)
  have ROW : Hid (∀ wr, Below (B + 1) w3 wr → wr.rangeAt B 0 T0.toList) := fun wr hb => range_row ((hb.block B (by omega)).trans h3.2.1)
  have TRE : Hid (∀ wr, Below (B + 1) w3 wr → IsT wr (fun k => k < wr.heap.size) us t) := fun wr hb => hist.keep (fun q hq => ((hb.block q (by omega)).trans (h3.1.block q (by omega)))) (fun q hq => by have := hb.size; have := h3.1.size; omega)
  have hcells : ∃ k b s ks ps Ap cp, t = .mk k b s ks ps ∧ ∀ wr, Below (B + 1) w3 wr → wr.cell? ⟨B, 0, none⟩ = some (.int .i64 k) ∧ wr.cell? ⟨B, 2, none⟩ = some (.string ⟨s.toArray⟩) ∧ wr.cell? ⟨B, 4, none⟩ = some (.slice Ap ps.length cp) := by
    have hr := ROW.out
    rw [hT0] at hr
    cases hist with
    | mk k b s Ak ck ks Ap cp uss ps hu hk hp he => exact ⟨k, b, s, ks, ps, Ap, cp, rfl, fun wr hb => ⟨hr wr hb 0 _ rfl, hr wr hb 2 _ rfl, hr wr hb 4 _ rfl⟩⟩
  obtain ⟨k, b, s, ks, ps, Ap, cp, htk, hcl2⟩ := hcells
  have HTK := Lib.hid htk
  have HCL := Lib.hid hcl2
  clear hist hbulk hT0 h3 htk hcl2
  go_enter Tryd.func8, Tryd.ntmps8
  go_upto_region 1 with (fail)
  rw [← hw3, ← hBe]
  clear hw3 hBe
  obtain ⟨D, hD⟩ : ∃ D, D = deepT t 200 := ⟨_, rfl⟩
  have HD := Lib.hid hD
  clear hD
  have hdp := fun (w : World) hb => deep_any (m := 200) (TRE.out w hb) (fun _ h => h) HSM.out (by decide) (by decide)
  have HDP := Lib.hid hdp
  clear hdp
  go_upto_region 3 with (go_at_call 10; go_must (refine (awake_any w3).mono ?_; rintro e w1 ⟨rfl, hb1⟩; have B1 : Hid (Below (B + 1) w3 w1) := hb1.mono (by have := H3.out.2.2; omega); clear hb1))
  have HR1 := Lib.hid (ROW.out w1 B1.out)
  cases hDc : D
  case true =>
    go_wp2_with (first
      | (refine wpList_load_arr rfl _ _ rfl B 0 rfl T0 _ (by with_reducible exact HR1.out) Tryd.underlying25 rfl (by with_reducible exact hz5) ?_)
      | (go_at_call 11; go_must (have h_ := HDP.out w1 B1.out; rw [← HT0.out, ← HD.out, hDc] at h_; refine h_.mono ?_; clear h_; rintro e w2 ⟨rfl, hb2⟩)))
    go_ret
    exact ⟨rfl, by rw [← HBe.out]; exact H3.out.1.trans ((B1.out.trans (hb2.mono (by have := B1.out.size; have := H3.out.2.2; omega))).mono (by omega))⟩
  case false =>
    go_upto_region 5 with (first
      | (refine wpList_load_arr rfl _ _ rfl B 0 rfl T0 _ (by with_reducible exact HR1.out) Tryd.underlying25 rfl (by with_reducible exact hz5) ?_)
      | (go_at_call 11; go_must (have h_ := HDP.out w1 B1.out; rw [← HT0.out, ← HD.out, hDc] at h_; refine h_.mono ?_; clear h_; rintro e w2 ⟨rfl, hb2⟩)))
    have B2 : Hid (Below (B + 1) w3 w2) := B1.out.trans (hb2.mono (by have := B1.out.size; have := H3.out.2.2; omega))
    clear hb2
    have BL : Hid (∀ wa wb : World, Below (B + 1) w3 wa → Below wa.heap.size wa wb → Below (B + 1) w3 wb) := fun wa wb h1 h2 => h1.trans (h2.mono (by have := h1.size; have := H3.out.2.2; omega))
    refine AnyC.startB (fun w' => Below (B + 1) w3 w') (by kernel_rfl) rfl ?_
    intro w4 hb4 _
    have B4 := Lib.hid (BL.out _ _ B2.out hb4)
    clear hb4
    apply AnyC.take (i := 0) rfl (by kernel_rfl) rfl
    · intro w' hC K hK
      refine wpList_load_arr rfl _ _ rfl B 0 rfl T0 _ (by with_reducible exact ROW.out w' hC) Tryd.underlying25 rfl (by with_reducible exact hz5) ?_
      go_wp2
      exact hK
    · rfl
    apply AnyC.take (i := 2) rfl (by kernel_rfl) rfl
    · intro w' hC K hK
      refine wpList_load_arr rfl _ _ rfl B 0 rfl T0 _ (by with_reducible exact ROW.out w' hC) Tryd.underlying25 rfl (by with_reducible exact hz5) ?_
      go_wp2
      exact hK
    · rfl
    refine AnyC.bunch [1, 3, 4] (AsJ w3 t T0 KX B) (by decide) (by kernel_rfl) (by kernel_rfl) ?_ ?_ ?_ ?_
    · rintro d a w' ⟨_, _, _, _, h⟩
      exact h.out.1
    · intro i hi oi hoi d a w' hJ hd hdep
      obtain ⟨x6, x24, x26, rfl, h⟩ := hJ
      simp only [List.mem_cons, List.not_mem_nil, or_false] at hi
      rcases hi with rfl | rfl | rfl
      · obtain rfl := Option.some.inj (hoi.symm.trans rfl)
        go_wp2_with (go_at_call 13; go_must (have h_ := value_any (TRE.out w' h.out.1) (fun _ h => h) HSM.out; rw [← HT0.out] at h_; refine h_.mono ?_; clear h_; rintro e w5 ⟨v5, rfl, hb5, hv5⟩; have B5 := Lib.hid hb5; have V5 := Lib.hid hv5; clear hb5 hv5))
        refine ⟨rfl, x6, v5, x26, rfl, BL.out _ _ h.out.1 B5.out, fun _ => V5.out.keep (fun _ _ => rfl) (fun q hq => ⟨hq.2, off_new h.out.2.2.2.1 h.out.2.2.2.2 q hq.1⟩), fun h1 => ?_, fun h1 => ?_, fun h1 => h.out.2.2.2.2 h1⟩
        · obtain ⟨us', e1, e2⟩ := h.out.2.2.1 h1
          exact ⟨us', e1, e2.keep (fun q hq => B5.out.block q hq.1) (fun q hq => ⟨Nat.lt_of_lt_of_le hq.1 B5.out.size, hq.2⟩)⟩
        · obtain ⟨Q, e1, e2, e3⟩ := h.out.2.2.2.1 h1
          exact ⟨Q, e1, e2, (B5.out.block Q (lt_of_heap e3)).trans e3⟩
      · obtain rfl := Option.some.inj (hoi.symm.trans rfl)
        go_wp2_with (go_at_call 15; go_must (have h_ := ours_any (TRE.out w' h.out.1) (fun _ h => h) HSM.out; rw [← HT0.out] at h_; refine h_.mono ?_; clear h_; rintro e w5 ⟨us5, rfl, hb5, ht5⟩; have B5 := Lib.hid hb5; have T5 := Lib.hid ht5; clear hb5 ht5))
        refine ⟨rfl, x6, x24, _, rfl, BL.out _ _ h.out.1 B5.out, fun h1 => (h.out.2.1 h1).keep (fun q hq => B5.out.block q hq.1) (fun q hq => ⟨Nat.lt_of_lt_of_le hq.1 B5.out.size, hq.2⟩), fun _ => ⟨us5, rfl, T5.out.keep (fun _ _ => rfl) (fun q hq => ⟨hq.2, off_new h.out.2.2.2.1 h.out.2.2.2.2 q hq.1⟩)⟩, fun h1 => ?_, fun h1 => h.out.2.2.2.2 h1⟩
        obtain ⟨Q, e1, e2, e3⟩ := h.out.2.2.2.1 h1
        exact ⟨Q, e1, e2, (B5.out.block Q (lt_of_heap e3)).trans e3⟩
      · obtain rfl := Option.some.inj (hoi.symm.trans rfl)
        have hx6 := h.out.2.2.2.2 hd
        have hsz := h.out.1.size
        have hs3 := H3.out.2.2
        go_wp2
        refine ⟨rfl, _, x24, x26, rfl, h.out.1.alloc (by omega) _, fun h1 => (h.out.2.1 h1).keep (fun q hq => ((Below.refl _ _).alloc (Nat.le_refl _) _).block q hq.1) (fun q hq => ⟨by simp; omega, fun e => by cases e; omega⟩), fun h1 => ?_, fun _ => ⟨w'.heap.size, rfl, by omega, heap_alloc_new _ _⟩, fun h1 => by cases h1⟩
        obtain ⟨us', e1, e2⟩ := h.out.2.2.1 h1
        exact ⟨us', e1, e2.keep (fun q hq => ((Below.refl _ _).alloc (Nat.le_refl _) _).block q hq.1) (fun q hq => ⟨by simp; omega, fun e => by cases e; omega⟩)⟩
    · intro d a w' hall hJ
      obtain ⟨x6, x24, x26, rfl, h⟩ := hJ
      obtain ⟨Q, rfl, hQ, hQ0⟩ := h.out.2.2.2.1 (hall 4 (by simp))
      obtain ⟨us', rfl, ht'⟩ := h.out.2.2.1 (hall 3 (by simp))
      have hv := h.out.2.1 (hall 1 (by simp))
      have hv1 := hv.one
      obtain ⟨kq, bq, sq, Aq, nq, cq, Cq, mq, dq, rfl⟩ := ht'.form
      obtain ⟨SQ, hSQ⟩ : ∃ SQ : ByteArray, SQ = ⟨sq.toArray⟩ := ⟨_, rfl⟩
      have HSQ := Lib.hid hSQ
      rw [← hSQ]
      obtain ⟨q0, q1, q2, q3, q4, qf⟩ := row5 hQ0
      have HQ := Lib.hid hQ
      have HQ0 := Lib.hid hQ0
      have HV := Lib.hid hv
      rw [← hSQ] at ht'
      have HT := Lib.hid ht'
      have HW := Lib.hid h.out.1
      clear h hv ht' hQ hQ0 hSQ
      apply AnyC.solo (i := 5) rfl (by kernel_rfl) HW.out
      go_wp2
      refine ⟨rfl, ?_⟩
      apply AnyC.solo (i := 6) rfl (by kernel_rfl) HW.out
      go_wp2
      refine ⟨rfl, ?_⟩
      obtain ⟨w8, hw8⟩ : ∃ w8, w8 = set5 w' Q (.int .i64 kq) (.bool bq) (.string SQ) (.slice Aq nq cq) (.slice Cq mq dq) := ⟨_, rfl⟩
      have hT8 : Turn Q w' w8 := by rw [hw8]; exact set5_turn
      have hr8 : w8.heap[Q]? = some (.cells #[.int .i64 kq, .bool bq, .string SQ, .slice Aq nq cq, .slice Cq mq dq] 35 (0, 0)) := by rw [hw8]; exact set5_row HQ0.out
      have HB8 : Hid (Below (B + 1) w3 w8) := turn_below HW.out hT8 (by have := HW.out.size; have := H3.out.2.2; omega) HQ.out
      have hv8 : IsV w8 (fun q => q < w8.heap.size) x24 (valT t) := HV.out.keep (fun q hq => hT8.block q hq.1 (fun e => hq.2 (by rw [e]))) (fun q hq => Nat.lt_of_lt_of_le hq.1 hT8.size)
      have ht8 : IsT w8 (fun q => q < w8.heap.size) [.int .i64 kq, .bool bq, .string SQ, .slice Aq nq cq, .slice Cq mq dq] (oursT t) := HT.out.keep (fun q hq => hT8.block q hq.1 (fun e => hq.2 (by rw [e]))) (fun q hq => Nat.lt_of_lt_of_le hq.1 hT8.size)
      rw [HTK.out] at hv8 ht8
      have HVK : Hid (∀ wr, Below w8.heap.size w8 wr → IsV wr (fun q => q < wr.heap.size) x24 (valT (.mk k b s ks ps))) := fun wr hb => hv8.keep (fun q hq => hb.block q hq) (fun q hq => Nat.lt_of_lt_of_le hq hb.size)
      have ITK : Hid (∀ wr, Below w8.heap.size w8 wr → IsT wr (fun q => q < wr.heap.size) [.int .i64 kq, .bool bq, .string SQ, .slice Aq nq cq, .slice Cq mq dq] (oursT (.mk k b s ks ps))) := fun wr hb => ht8.keep (fun q hq => hb.block q hq) (fun q hq => Nat.lt_of_lt_of_le hq hb.size)
      have HRQ : Hid (∀ wr, Below w8.heap.size w8 wr → wr.rangeAt Q 0 (#[.int .i64 kq, .bool bq, .string SQ, .slice Aq nq cq, .slice Cq mq dq] : Array Value).toList) := fun wr hb => range_row ((hb.block Q (lt_of_heap hr8)).trans hr8)
      have HBK : Hid (∀ wr, Below w8.heap.size w8 wr → Below (B + 1) w3 wr) := fun wr hb => BL.out _ _ HB8.out hb
      obtain ⟨SB, hSB⟩ : ∃ SB : ByteArray, SB = ⟨s.toArray⟩ := ⟨_, rfl⟩
      have HSB := Lib.hid hSB
      have HCK : Hid (∀ wr, Below w8.heap.size w8 wr → wr.cell? ⟨B, 0, none⟩ = some (.int .i64 k) ∧ wr.cell? ⟨B, 2, none⟩ = some (.string SB) ∧ wr.cell? ⟨B, 4, none⟩ = some (.slice Ap ps.length cp)) := fun wr hb => by rw [hSB]; exact HCL.out wr (HBK.out wr hb)
      have HLEN : Hid (ps.length ≤ 1048576) := by
        show _ ≤ _
        have h1 := HBULK.out
        have h2 := bulkTL_len ps
        rw [HTK.out, bulkT] at h1
        omega
      have HEND : Hid (∀ wr, Below w8.heap.size w8 wr → Below W.heap.size W wr) := fun wr hb => by rw [← HBe.out]; exact H3.out.1.trans ((HBK.out wr hb).mono (by omega))
      change AnyC _ _ _ _ _ _ _ (set5 w' Q (.int .i64 kq) (.bool bq) (.string SQ) (.slice Aq nq cq) (.slice Cq mq dq))
      rw [← hw8]
      clear hw8 hT8 hr8 hv8 ht8 hSB q0 q1 q2 q3 q4 qf
      refine AnyC.done HB8.out (by kernel_rfl) ?_
      clear HB8 HW HV HT HQ HQ0 HCL B4 BL
      have HNOP := Lib.hid (at1_or key (keysOf ks ps.length))
      by_cases h3 : k = 3
      · subst h3
        have HK3 : Hid ((3 : Int) = 3) := rfl
        have HK4 : Hid ((3 : Int) ≠ 4) := by show _ ≠ _; decide
        have HK5 : Hid ((3 : Int) ≠ 5) := by show _ ≠ _; decide
        go_upto_region 10 with (first
          | (refine wpList_load_arr rfl _ _ rfl Q 0 rfl #[.int .i64 kq, .bool bq, .string SQ, .slice Aq nq cq, .slice Cq mq dq] _ (by with_reducible exact HRQ9.out) Tryd.underlying35 rfl tree5 ?_)
          | (go_at_call 17; go_must (have h_ := kText_yes (HVK.out w8 (Below.refl _ _)) rfl; rw [← HSB.out] at h_; refine h_.mono ?_; clear h_; rintro e wa ⟨rfl, hwa⟩; have hwa := hwa.symm; subst hwa))
          | (go_at_call 21; go_must (refine (kList_no (HVK.out w8 (Below.refl _ _)) HK4.out).mono ?_; rintro e wa ⟨rfl, hwa⟩; have hwa := hwa.symm; subst hwa))
          | (go_at_call 22; go_must (refine (kGet_no (HVK.out w8 (Below.refl _ _)) key KX HKX.out (fun _ h => h) (by have := HLEN.out; omega) (fun e => absurd e (by decide))).mono ?_; rintro e w9 ⟨rfl, hb9⟩; have B9 := Lib.hid hb9; have HRQ9 := Lib.hid (HRQ.out w9 hb9); clear hb9))
          | (go_at_call 23; go_must (refine (rGet_no (ITK.out w9 B9.out) key KX HKX.out (fun _ h => h) (by have := HLEN.out; omega) (fun e => absurd e (by decide))).mono ?_; rintro e w10 ⟨⟨xs, ⟨ky, by_, sy, Ay, ny, cy, Dy, my, dy, rfl⟩, rfl⟩, hb10⟩; have B10 : Hid (Below w8.heap.size w8 w10) := B9.out.trans (hb10.mono B9.out.size); clear hb10)))
        obtain ⟨SY, hSY⟩ : ∃ SY : ByteArray, SY = ⟨sy.toArray⟩ := ⟨_, rfl⟩
        rw [← hSY]
        obtain ⟨w11, hw11⟩ : ∃ w11, w11 = w10.alloc (.cells #[.int .i64 ky, .bool by_, .string SY, .slice Ay ny cy, .slice Dy my dy] 35) := ⟨_, rfl⟩
        have hb11 : Below w10.heap.size w10 w11 := by rw [hw11]; exact (Below.refl _ _).alloc (Nat.le_refl _) _
        have hr11 : w11.heap[w10.heap.size]? = some (.cells #[.int .i64 ky, .bool by_, .string SY, .slice Ay ny cy, .slice Dy my dy] 35 (0, 0)) := by rw [hw11]; exact heap_alloc_new _ _
        rw [← hw11]
        have B11 : Hid (Below w8.heap.size w8 w11) := B10.out.trans (hb11.mono B10.out.size)
        have HR11 := Lib.hid hr11
        have C11 := Lib.hid hb11
        have HSY := Lib.hid hSY
        clear hw11 hb11 hr11 hSY
        go_upto_region 12 with (first
          | (go_at_call 24; go_must (have h_ := kMT_yes (HVK.out w11 B11.out) rfl; rw [← HSB.out] at h_; refine h_.mono ?_; clear h_; rintro e w12 ⟨rfl, hb12⟩; have B12 : Hid (Below w8.heap.size w8 w12) := B11.out.trans (hb12.mono B11.out.size); have C12 := Lib.hid hb12; clear hb12))
          | (go_at_call 25; go_must (refine (kMO_no (HVK.out w12 B12.out) HK5.out).mono ?_; rintro e w13 ⟨rfl, hb13⟩; have B13 : Hid (Below w8.heap.size w8 w13) := B12.out.trans (hb13.mono B12.out.size); have C13 := Lib.hid hb13; clear hb13)))
        obtain ⟨c0, c2, c4⟩ := HCK.out w13 B13.out
        go_wp2
        go_ret
        exact ⟨by simp, HEND.out _ B13.out⟩
      by_cases h4 : k = 4
      · subst h4
        have HK3 : Hid ((4 : Int) ≠ 3) := by show _ ≠ _; decide
        have HK4 : Hid ((4 : Int) = 4) := rfl
        have HK5 : Hid ((4 : Int) ≠ 5) := by show _ ≠ _; decide
        clear h3
        go_upto_region 10 with (first
          | (refine wpList_load_arr rfl _ _ rfl Q 0 rfl #[.int .i64 kq, .bool bq, .string SQ, .slice Aq nq cq, .slice Cq mq dq] _ (by with_reducible exact HRQ9.out) Tryd.underlying35 rfl tree5 ?_)
          | (go_at_call 17; go_must (have h_ := kText_no (HVK.out w8 (Below.refl _ _)) HK3.out; refine h_.mono ?_; clear h_; rintro e wa ⟨rfl, hwa⟩; have hwa := hwa.symm; subst hwa))
          | (go_at_call 21; go_must (refine (kList_yes (HVK.out w8 (Below.refl _ _)) rfl).mono ?_; rintro e wa ⟨⟨A4, c4, rfl⟩, hwa⟩; have hwa := hwa.symm; subst hwa))
          | (go_at_call 22; go_must (refine (kGet_no (HVK.out w8 (Below.refl _ _)) key KX HKX.out (fun _ h => h) (by have := HLEN.out; omega) (fun e => absurd e (by decide))).mono ?_; rintro e w9 ⟨rfl, hb9⟩; have B9 := Lib.hid hb9; have HRQ9 := Lib.hid (HRQ.out w9 hb9); clear hb9))
          | (go_at_call 23; go_must (refine (rGet_no (ITK.out w9 B9.out) key KX HKX.out (fun _ h => h) (by have := HLEN.out; omega) (fun e => absurd e (by decide))).mono ?_; rintro e w10 ⟨⟨xs, ⟨ky, by_, sy, Ay, ny, cy, Dy, my, dy, rfl⟩, rfl⟩, hb10⟩; have B10 : Hid (Below w8.heap.size w8 w10) := B9.out.trans (hb10.mono B9.out.size); clear hb10)))
        obtain ⟨SY, hSY⟩ : ∃ SY : ByteArray, SY = ⟨sy.toArray⟩ := ⟨_, rfl⟩
        rw [← hSY]
        obtain ⟨w11, hw11⟩ : ∃ w11, w11 = w10.alloc (.cells #[.int .i64 ky, .bool by_, .string SY, .slice Ay ny cy, .slice Dy my dy] 35) := ⟨_, rfl⟩
        have hb11 : Below w10.heap.size w10 w11 := by rw [hw11]; exact (Below.refl _ _).alloc (Nat.le_refl _) _
        have hr11 : w11.heap[w10.heap.size]? = some (.cells #[.int .i64 ky, .bool by_, .string SY, .slice Ay ny cy, .slice Dy my dy] 35 (0, 0)) := by rw [hw11]; exact heap_alloc_new _ _
        rw [← hw11]
        have B11 : Hid (Below w8.heap.size w8 w11) := B10.out.trans (hb11.mono B10.out.size)
        have HR11 := Lib.hid hr11
        have C11 := Lib.hid hb11
        have HSY := Lib.hid hSY
        clear hw11 hb11 hr11 hSY
        go_upto_region 12 with (first
          | (go_at_call 24; go_must (have h_ := kMT_no (HVK.out w11 B11.out) HK3.out; refine h_.mono ?_; clear h_; rintro e w12 ⟨rfl, hb12⟩; have B12 : Hid (Below w8.heap.size w8 w12) := B11.out.trans (hb12.mono B11.out.size); have C12 := Lib.hid hb12; clear hb12))
          | (go_at_call 25; go_must (refine (kMO_no (HVK.out w12 B12.out) HK5.out).mono ?_; rintro e w13 ⟨rfl, hb13⟩; have B13 : Hid (Below w8.heap.size w8 w13) := B12.out.trans (hb13.mono B12.out.size); have C13 := Lib.hid hb13; clear hb13)))
        obtain ⟨c0, c2, c4⟩ := HCK.out w13 B13.out
        go_wp2
        go_ret
        exact ⟨by simp, HEND.out _ B13.out⟩
      by_cases h5 : k = 5
      · subst h5
        have HK3 : Hid ((5 : Int) ≠ 3) := by show _ ≠ _; decide
        have HK4 : Hid ((5 : Int) ≠ 4) := by show _ ≠ _; decide
        have HK5 : Hid ((5 : Int) = 5) := rfl
        clear h3 h4
        rcases HNOP.out with ⟨i, hi⟩ | hno
        · have HI := Lib.hid hi
          have hil : i < ps.length := by
            have h1 := (List.getElem?_eq_some_iff.1 hi.1).1
            rwa [keysOf_len] at h1
          obtain ⟨p, hp⟩ : ∃ p, ps[i]? = some p := ⟨_, List.getElem?_eq_getElem hil⟩
          have HP := Lib.hid hp
          clear hi hil hp
          go_upto_region 10 with (first
            | (refine wpList_load_arr rfl _ _ rfl Q 0 rfl #[.int .i64 kq, .bool bq, .string SQ, .slice Aq nq cq, .slice Cq mq dq] _ (by with_reducible exact HRQ9.out) Tryd.underlying35 rfl tree5 ?_)
            | (go_at_call 17; go_must (have h_ := kText_no (HVK.out w8 (Below.refl _ _)) HK3.out; refine h_.mono ?_; clear h_; rintro e wa ⟨rfl, hwa⟩; have hwa := hwa.symm; subst hwa))
            | (go_at_call 21; go_must (refine (kList_no (HVK.out w8 (Below.refl _ _)) HK4.out).mono ?_; rintro e wa ⟨rfl, hwa⟩; have hwa := hwa.symm; subst hwa))
            | (go_at_call 22; go_must (refine (kGet_yes (HVK.out w8 (Below.refl _ _)) key KX HKX.out (fun _ h => h) (by have := HLEN.out; omega) rfl HI.out HP.out).mono ?_; rintro e w9 ⟨⟨x, rfl, hx⟩, hb9⟩; have hx1 := hx.one; have HX := Lib.hid hx; have B9 := Lib.hid hb9; have HRQ9 := Lib.hid (HRQ.out w9 hb9); clear hb9 hx))
            | (go_at_call 23; go_must (refine (rGet_yes (ITK.out w9 B9.out) key KX HKX.out (fun _ h => h) (by have := HLEN.out; omega) rfl HI.out HP.out).mono ?_; rintro e w10 ⟨⟨xs, ⟨ky, by_, sy, Ay, ny, cy, Dy, my, dy, rfl⟩, rfl, hy⟩, hb10⟩; have HY := Lib.hid hy; have B10 : Hid (Below w8.heap.size w8 w10) := B9.out.trans (hb10.mono B9.out.size); have C10 := Lib.hid hb10; clear hb10 hy)))
          obtain ⟨SY, hSY⟩ : ∃ SY : ByteArray, SY = ⟨sy.toArray⟩ := ⟨_, rfl⟩
          rw [← hSY]
          obtain ⟨w11, hw11⟩ : ∃ w11, w11 = w10.alloc (.cells #[.int .i64 ky, .bool by_, .string SY, .slice Ay ny cy, .slice Dy my dy] 35) := ⟨_, rfl⟩
          have hb11 : Below w10.heap.size w10 w11 := by rw [hw11]; exact (Below.refl _ _).alloc (Nat.le_refl _) _
          have hr11 : w11.heap[w10.heap.size]? = some (.cells #[.int .i64 ky, .bool by_, .string SY, .slice Ay ny cy, .slice Dy my dy] 35 (0, 0)) := by rw [hw11]; exact heap_alloc_new _ _
          rw [← hw11]
          have B11 : Hid (Below w8.heap.size w8 w11) := B10.out.trans (hb11.mono B10.out.size)
          have HR11 := Lib.hid hr11
          have C11 := Lib.hid hb11
          have HSY := Lib.hid hSY
          clear hw11 hb11 hr11 hSY
          go_upto_region 12 with (first
            | (go_at_call 24; go_must (have h_ := kMT_no (HVK.out w11 B11.out) HK3.out; refine h_.mono ?_; clear h_; rintro e w12 ⟨rfl, hb12⟩; have B12 : Hid (Below w8.heap.size w8 w12) := B11.out.trans (hb12.mono B11.out.size); have C12 := Lib.hid hb12; clear hb12))
            | (go_at_call 25; go_must (refine (kMO_yes (HVK.out w12 B12.out) rfl).mono ?_; rintro e w13 ⟨rfl, hb13⟩; have B13 : Hid (Below w8.heap.size w8 w13) := B12.out.trans (hb13.mono B12.out.size); have C13 := Lib.hid hb13; clear hb13)))
          obtain ⟨c0, c2, c4⟩ := HCK.out w13 B13.out
          go_upto_region 20 with (fail)
          have e12 := (C12.out.block _ (lt_of_heap HR11.out)).trans HR11.out
          have e13 := (C13.out.block _ (lt_of_heap e12)).trans e12
          have HRY : Hid (∀ wr, Below w13.heap.size w13 wr → wr.rangeAt w10.heap.size 0 (#[.int .i64 ky, .bool by_, .string SY, .slice Ay ny cy, .slice Dy my dy] : Array Value).toList) := fun wr hb => range_row ((hb.block _ (lt_of_heap e13)).trans e13)
          have HXK : Hid (∀ wr, Below w13.heap.size w13 wr → IsV wr (fun q => q < wr.heap.size) x (valT p)) := fun wr hb => HX.out.keep (fun q hq => (B13.out.trans (hb.mono B13.out.size)).block q hq) (fun q hq => Nat.lt_of_lt_of_le hq (B13.out.trans (hb.mono B13.out.size)).size)
          have D12 : Below w9.heap.size w9 w12 := C10.out.trans ((C11.out.mono C10.out.size).trans (C12.out.mono (Nat.le_trans C10.out.size C11.out.size)))
          have D13 : Below w9.heap.size w9 w13 := D12.trans (C13.out.mono D12.size)
          have hy2 := HY.out
          rw [← HSY.out] at hy2
          have HYK : Hid (∀ wr, Below w13.heap.size w13 wr → IsT wr (fun q => q < wr.heap.size) [.int .i64 ky, .bool by_, .string SY, .slice Ay ny cy, .slice Dy my dy] (oursT p)) := fun wr hb => hy2.keep (fun q hq => (D13.trans (hb.mono D13.size)).block q hq) (fun q hq => Nat.lt_of_lt_of_le hq (D13.trans (hb.mono D13.size)).size)
          have HLP : Hid ((prt (valT p)).length ≤ 140737488000000) := by
            show _ ≤ _
            have h1 := HBULK.out
            have h2 := bulkTL_mem ps p (List.mem_of_getElem? HP.out)
            have h3 := prt_len p
            rw [HTK.out, bulkT] at h1
            omega
          have HP3 : Hid (prT (oursT p) = prt (valT p)) := print_same p
          clear e12 e13 D12 D13 hy2 c0 c2 c4
          refine AnyC.startB (fun w' => Below w13.heap.size w13 w') (by kernel_rfl) rfl ?_
          intro w14 hb14 _
          have B14 := Lib.hid hb14
          clear hb14
          apply AnyC.take (i := 0) rfl (by kernel_rfl) rfl
          · intro w' hC K hK
            go_wp2
            exact hK
          · rfl
          apply AnyC.take (i := 2) rfl (by kernel_rfl) rfl
          · intro w' hC K hK
            refine wpList_load_arr rfl _ _ rfl w10.heap.size 0 rfl #[.int .i64 ky, .bool by_, .string SY, .slice Ay ny cy, .slice Dy my dy] _ (by with_reducible exact HRY.out w' hC) Tryd.underlying35 rfl tree5 ?_
            go_wp2
            exact hK
          · rfl
          apply AnyC.solo (i := 1) rfl (by kernel_rfl) B14.out
          go_wp2_with (go_at_call 12; go_must (refine (print_any (HXK.out w14 B14.out) (fun _ h => h) HLP.out).mono ?_; rintro e w15 ⟨rfl, hb15⟩; have B15 : Hid (Below w13.heap.size w13 w15) := B14.out.trans (hb15.mono B14.out.size); clear hb15))
          refine ⟨rfl, ?_⟩
          apply AnyC.solo (i := 3) rfl (by kernel_rfl) B15.out
          go_wp2_with (go_at_call 14; go_must (have h_ := rPrint_any (HYK.out w15 B15.out) (fun _ h => h) (ours_kd p) (by rw [HP3.out]; exact HLP.out); rw [HP3.out] at h_; refine h_.mono ?_; clear h_; rintro e w16 ⟨rfl, hb16⟩; have B16 : Hid (Below w13.heap.size w13 w16) := B15.out.trans (hb16.mono B15.out.size); clear hb16))
          refine ⟨rfl, ?_⟩
          obtain ⟨PB, hPB⟩ : ∃ PB : ByteArray, PB = ⟨(prt (valT p)).toArray⟩ := ⟨_, rfl⟩
          rw [← hPB]
          clear hPB
          apply AnyC.take (i := 4) rfl (by kernel_rfl) rfl
          · intro w' hC K hK
            go_wp2
            exact hK
          · rfl
          apply AnyC.take (i := 5) rfl (by kernel_rfl) rfl
          · intro w' hC K hK
            go_wp2
            exact hK
          · rfl
          refine AnyC.done B16.out (by kernel_rfl) ?_
          go_wp2
          go_ret
          exact ⟨by simp, HEND.out _ (B13.out.trans (B16.out.mono B13.out.size))⟩
        · have HNO : Hid (∀ i : Nat, (keysOf ks ps.length)[i]? ≠ some key) := hno
          clear hno
          go_upto_region 10 with (first
            | (refine wpList_load_arr rfl _ _ rfl Q 0 rfl #[.int .i64 kq, .bool bq, .string SQ, .slice Aq nq cq, .slice Cq mq dq] _ (by with_reducible exact HRQ9.out) Tryd.underlying35 rfl tree5 ?_)
            | (go_at_call 17; go_must (have h_ := kText_no (HVK.out w8 (Below.refl _ _)) HK3.out; refine h_.mono ?_; clear h_; rintro e wa ⟨rfl, hwa⟩; have hwa := hwa.symm; subst hwa))
            | (go_at_call 21; go_must (refine (kList_no (HVK.out w8 (Below.refl _ _)) HK4.out).mono ?_; rintro e wa ⟨rfl, hwa⟩; have hwa := hwa.symm; subst hwa))
            | (go_at_call 22; go_must (refine (kGet_no (HVK.out w8 (Below.refl _ _)) key KX HKX.out (fun _ h => h) (by have := HLEN.out; omega) (fun _ => HNO.out)).mono ?_; rintro e w9 ⟨rfl, hb9⟩; have B9 := Lib.hid hb9; have HRQ9 := Lib.hid (HRQ.out w9 hb9); clear hb9))
            | (go_at_call 23; go_must (refine (rGet_no (ITK.out w9 B9.out) key KX HKX.out (fun _ h => h) (by have := HLEN.out; omega) (fun _ => HNO.out)).mono ?_; rintro e w10 ⟨⟨xs, ⟨ky, by_, sy, Ay, ny, cy, Dy, my, dy, rfl⟩, rfl⟩, hb10⟩; have B10 : Hid (Below w8.heap.size w8 w10) := B9.out.trans (hb10.mono B9.out.size); clear hb10)))
          obtain ⟨SY, hSY⟩ : ∃ SY : ByteArray, SY = ⟨sy.toArray⟩ := ⟨_, rfl⟩
          rw [← hSY]
          obtain ⟨w11, hw11⟩ : ∃ w11, w11 = w10.alloc (.cells #[.int .i64 ky, .bool by_, .string SY, .slice Ay ny cy, .slice Dy my dy] 35) := ⟨_, rfl⟩
          have hb11 : Below w10.heap.size w10 w11 := by rw [hw11]; exact (Below.refl _ _).alloc (Nat.le_refl _) _
          have hr11 : w11.heap[w10.heap.size]? = some (.cells #[.int .i64 ky, .bool by_, .string SY, .slice Ay ny cy, .slice Dy my dy] 35 (0, 0)) := by rw [hw11]; exact heap_alloc_new _ _
          rw [← hw11]
          have B11 : Hid (Below w8.heap.size w8 w11) := B10.out.trans (hb11.mono B10.out.size)
          have HR11 := Lib.hid hr11
          have C11 := Lib.hid hb11
          have HSY := Lib.hid hSY
          clear hw11 hb11 hr11 hSY
          go_upto_region 12 with (first
            | (go_at_call 24; go_must (have h_ := kMT_no (HVK.out w11 B11.out) HK3.out; refine h_.mono ?_; clear h_; rintro e w12 ⟨rfl, hb12⟩; have B12 : Hid (Below w8.heap.size w8 w12) := B11.out.trans (hb12.mono B11.out.size); have C12 := Lib.hid hb12; clear hb12))
            | (go_at_call 25; go_must (refine (kMO_yes (HVK.out w12 B12.out) rfl).mono ?_; rintro e w13 ⟨rfl, hb13⟩; have B13 : Hid (Below w8.heap.size w8 w13) := B12.out.trans (hb13.mono B12.out.size); have C13 := Lib.hid hb13; clear hb13)))
          obtain ⟨c0, c2, c4⟩ := HCK.out w13 B13.out
          go_wp2
          go_ret
          exact ⟨by simp, HEND.out _ B13.out⟩
      · have HK3 := Lib.hid h3
        have HK4 := Lib.hid h4
        have HK5 := Lib.hid h5
        have e3 : (k == 3) = false := beq_eq_false_iff_ne.2 h3
        have e4 : (k == 4) = false := beq_eq_false_iff_ne.2 h4
        have e5 : (k == 5) = false := beq_eq_false_iff_ne.2 h5
        go_upto_region 10 with (first
          | (refine wpList_load_arr rfl _ _ rfl Q 0 rfl #[.int .i64 kq, .bool bq, .string SQ, .slice Aq nq cq, .slice Cq mq dq] _ (by with_reducible exact HRQ9.out) Tryd.underlying35 rfl tree5 ?_)
          | (go_at_call 17; go_must (have h_ := kText_no (HVK.out w8 (Below.refl _ _)) HK3.out; refine h_.mono ?_; clear h_; rintro e wa ⟨rfl, hwa⟩; have hwa := hwa.symm; subst hwa))
          | (go_at_call 21; go_must (refine (kList_no (HVK.out w8 (Below.refl _ _)) HK4.out).mono ?_; rintro e wa ⟨rfl, hwa⟩; have hwa := hwa.symm; subst hwa))
          | (go_at_call 22; go_must (refine (kGet_no (HVK.out w8 (Below.refl _ _)) key KX HKX.out (fun _ h => h) (by have := HLEN.out; omega) (fun e => absurd e HK5.out)).mono ?_; rintro e w9 ⟨rfl, hb9⟩; have B9 := Lib.hid hb9; have HRQ9 := Lib.hid (HRQ.out w9 hb9); clear hb9))
          | (go_at_call 23; go_must (refine (rGet_no (ITK.out w9 B9.out) key KX HKX.out (fun _ h => h) (by have := HLEN.out; omega) (fun e => absurd e HK5.out)).mono ?_; rintro e w10 ⟨⟨xs, ⟨ky, by_, sy, Ay, ny, cy, Dy, my, dy, rfl⟩, rfl⟩, hb10⟩; have B10 : Hid (Below w8.heap.size w8 w10) := B9.out.trans (hb10.mono B9.out.size); clear hb10)))
        obtain ⟨SY, hSY⟩ : ∃ SY : ByteArray, SY = ⟨sy.toArray⟩ := ⟨_, rfl⟩
        rw [← hSY]
        obtain ⟨w11, hw11⟩ : ∃ w11, w11 = w10.alloc (.cells #[.int .i64 ky, .bool by_, .string SY, .slice Ay ny cy, .slice Dy my dy] 35) := ⟨_, rfl⟩
        have hb11 : Below w10.heap.size w10 w11 := by rw [hw11]; exact (Below.refl _ _).alloc (Nat.le_refl _) _
        have hr11 : w11.heap[w10.heap.size]? = some (.cells #[.int .i64 ky, .bool by_, .string SY, .slice Ay ny cy, .slice Dy my dy] 35 (0, 0)) := by rw [hw11]; exact heap_alloc_new _ _
        rw [← hw11]
        have B11 : Hid (Below w8.heap.size w8 w11) := B10.out.trans (hb11.mono B10.out.size)
        have HR11 := Lib.hid hr11
        have C11 := Lib.hid hb11
        have HSY := Lib.hid hSY
        clear hw11 hb11 hr11 hSY
        go_upto_region 12 with (first
          | (go_at_call 24; go_must (have h_ := kMT_no (HVK.out w11 B11.out) HK3.out; refine h_.mono ?_; clear h_; rintro e w12 ⟨rfl, hb12⟩; have B12 : Hid (Below w8.heap.size w8 w12) := B11.out.trans (hb12.mono B11.out.size); have C12 := Lib.hid hb12; clear hb12))
          | (go_at_call 25; go_must (refine (kMO_no (HVK.out w12 B12.out) HK5.out).mono ?_; rintro e w13 ⟨rfl, hb13⟩; have B13 : Hid (Below w8.heap.size w8 w13) := B12.out.trans (hb13.mono B12.out.size); have C13 := Lib.hid hb13; clear hb13)))
        obtain ⟨c0, c2, c4⟩ := HCK.out w13 B13.out
        go_wp2
        go_ret
        exact ⟨by simp, HEND.out _ B13.out⟩
    · exact ⟨_, _, _, rfl, B4.out, (fun h => by cases h), (fun h => by cases h), (fun h => by cases h), (fun _ => rfl)⟩
end Go.Proofs.YtkbopeoaoakfnaaDoor
