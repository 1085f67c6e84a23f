/- wire: DecodeRoot. Printed by wip/genV11.py. No conditions. -/
import Derived.Test.YtbpgbihcihnieaaV11a
namespace Go.Proofs.Ytbpgbihcihnieaa
open Go.RowKit
set_option maxRecDepth 100000 in
set_option maxHeartbeats 4000000 in
theorem wDR_ok (A : Option Addr) (c : Nat) (b : List UInt8) (w : World) (hr : Reads w w.heap.size 1 A b.length (bvs b)) (hc : b.length ≤ c) (hm : b.length ≤ 140737488355328)
    (x y f1 f2 f3 f4 f5 f6 : List UInt8) (i1 i2 j1 j2 j3 j4 j5 : Bool) (h1 : (openV b signedW 2).getD (noFields 2) = [x, y] ∧ (!(openV b signedW 2).isSome) = i1) (h2 : (openV x rootW 6).getD (noFields 6) = [f1, f2, f3, f4, f5, f6] ∧ (!(openV x rootW 6).isSome) = i2)
    (hx : x.length ≤ 140737488355328) (hf : f1.length ≤ 140737488355328 ∧ f2.length ≤ 140737488355328 ∧ f3.length ≤ 140737488355328)
    (hj1 : (i2 || !decide (f1.length = 8)) = j1) (hj2 : (j1 || !decide (f2.length = 8)) = j2) (hj3 : (j2 || !decide (f3.length = 8)) = j3) (hj4 : (j3 || !decide (f4.length = 32)) = j4) (hj5 : (j4 || !decide (f5.length = 32)) = j5) (hj6 : (j5 || !decide (f6.length = 32)) = false) (hD : rootD b = some ⟨numV f1, numV f2, numV f3, f4, f5, f6, y⟩) (hF : (i1 || !decide (y.length = 64)) = false) (hy : y.length = 64) (l4 : f4.length = 32) (l5 : f5.length = 32) (l6 : f6.length = 32) :
    Calls Try.prog 27 #[.slice A b.length c] w (RootPost b w) := by
  obtain ⟨Z, hZ⟩ : ∃ Z : Array Value, Z = rootZ.cs := ⟨_, rfl⟩
  have hz := hz47
  rw [← hZ] at hz
  have HZ := Lib.hid hZ
  have HZz : Hid (Z.size = 163) := by show _ = _; rw [hZ]; decide
  have W0 := Lib.hid (WB.start w Z)
  have R0 : Hid (Reads ((w.alloc (.cells Z 47)).alloc (.cells Z 47)) ((w.alloc (.cells Z 47)).alloc (.cells Z 47)).heap.size 1 A b.length (bvs b)) := (hr.keep fun _ hp => W0.out.below.cell hp).more W0.out.below.size
  have hsz0 : ((w.alloc (.cells Z 47)).alloc (.cells Z 47)).heap.size = w.heap.size + 2 := by simp
  have Hc := Lib.hid hc
  have Hm := Lib.hid hm
  have H1 := Lib.hid h1
  have H2 := Lib.hid h2
  have XL := Lib.hid hx
  have FL1 := Lib.hid hf.1
  have FL2 := Lib.hid hf.2.1
  have FL3 := Lib.hid hf.2.2
  have HJ1 := Lib.hid hj1
  have HJ2 := Lib.hid hj2
  have HJ3 := Lib.hid hj3
  have HJ4 := Lib.hid hj4
  have HJ5 := Lib.hid hj5
  have HJ6 := Lib.hid hj6
  have HF := Lib.hid hF
  have HD := Lib.hid hD
  have HL := Lib.hid (And.intro hy (And.intro l4 (And.intro l5 l6)))
  clear hr hc hm h1 h2 hx hf hj1 hj2 hj3 hj4 hj5 hj6 hF hD hZ hy l4 l5 l6
  have TO0 : Hid True := trivial
  have TF0 : Hid True := trivial
  have TN0 : Hid True := trivial
  go_enter Try.func27, Try.ntmps27
  go_wp2_with (first
    | (go_at_call 50; have hx_ := TO1; go_must (refine (open_any Ax cx 6 x rootW 6 rfl (by decide) (by decide) w2 (RX.out.1.reads (Nat.le_of_lt FP2.out.lt)) RX.out.2 XL.out).mono ?_; rintro e w3 ⟨q, rfl, hf, hb⟩; rw [H2.out.1, H2.out.2] at hf; have GQ3 := Lib.hid hf; have FP3 := Lib.hid (FP2.out.keep (Frm.of_below (ps := []) hb) (by simp)); have W3 := Lib.hid (W2.out.frm (Frm.of_below (ps := []) hb) (by simp)); have PQ : Hid (p < w2.heap.size ∧ p < q ∧ w.heap.size + 2 ≤ q) := ⟨FP2.out.lt, by have h_ := hf.lo; have h2_ := FP2.out.lt; omega, by have h_ := hf.lo; have h2_ := FP2.out.lt; have h3_ := FP2.out.lo; omega⟩; have SW : Hid (w.heap.size + 1 < w2.heap.size) := (by show _ < _; have h2_ := FP2.out.lt; have h3_ := FP2.out.lo; omega); clear hf hb TO1 hx_))
    | (go_at_call 50; have hx_ := TO0; go_must (refine (open_any A c 2 b signedW 2 rfl (by decide) (by decide) _ R0.out Hc.out Hm.out).mono ?_; rintro e w1 ⟨p, rfl, hf, hb⟩; rw [H1.out.1, H1.out.2, hsz0] at hf; have FP1 := Lib.hid hf; have W1 := Lib.hid (W0.out.frm (Frm.of_below (ps := []) hb) (by simp)); have TO1 := hx_; clear hf hb TO0 hx_))
    | (go_at_call 51; go_must (refine (next_any x [y] i1 p (w.heap.size + 2) w1 FP1.out).mono ?_; rintro e w2 ⟨Ax, cx, rfl, hcx, hx, hf, hfr⟩; have FP2 := Lib.hid hf; have RX := Lib.hid (And.intro hx hcx); have W2 := Lib.hid (W1.out.frm hfr (by simp; exact FP1.out.lo)); clear hcx hx hf hfr))
    | (go_at_call 52; have hx_ := TF3; go_must (refine (fixed_any f6 [] j5 32 32 q w2.heap.size (w.heap.size + 1) 67 C4 47 _ GQ10.out W10.out.s (by rw [Z4.out]; decide) (.inl SW.out)).mono ?_; rintro e w11 ⟨rfl, hf, hfr, hs⟩; rw [HJ6.out] at hf; have GQ11 := Lib.hid hf; obtain ⟨C5, hC⟩ : ∃ C5, C5 = (C4.toList.take 67 ++ bvs (f6.take 32) ++ C4.toList.drop (67 + Nat.min f6.length 32)).toArray := ⟨_, rfl⟩; rw [← hC] at hs; have HC5 := Lib.hid hC; have Z5 : Hid (C5.size = 163) := (by show _ = _; rw [hC, put_size (by rw [Z4.out]; decide)]; exact Z4.out); have W11 := Lib.hid (W10.out.put hfr (by simp; have h_ := PQ.out.2.2; omega) hs); have FP11 := Lib.hid (FP10.out.keep hfr (by simp; have h_ := PQ.out.2.1; omega)); obtain ⟨e2, hfz2⟩ := GQ11.out.bad_at; obtain ⟨e1, hfz1⟩ := FP11.out.bad_at; have TF4 := hx_; clear hf hfr hs hC TF3 hx_))
    | (go_at_call 52; have hx_ := TF2; go_must (refine (fixed_any f5 [f6] j4 32 32 q w2.heap.size (w.heap.size + 1) 35 C3 47 _ GQ9.out W9.out.s (by rw [Z3.out]; decide) (.inl SW.out)).mono ?_; rintro e w10 ⟨rfl, hf, hfr, hs⟩; rw [HJ5.out] at hf; have GQ10 := Lib.hid hf; obtain ⟨C4, hC⟩ : ∃ C4, C4 = (C3.toList.take 35 ++ bvs (f5.take 32) ++ C3.toList.drop (35 + Nat.min f5.length 32)).toArray := ⟨_, rfl⟩; rw [← hC] at hs; have HC4 := Lib.hid hC; have Z4 : Hid (C4.size = 163) := (by show _ = _; rw [hC, put_size (by rw [Z3.out]; decide)]; exact Z3.out); have W10 := Lib.hid (W9.out.put hfr (by simp; have h_ := PQ.out.2.2; omega) hs); have FP10 := Lib.hid (FP9.out.keep hfr (by simp; have h_ := PQ.out.2.1; omega)); have TF3 := hx_; clear hf hfr hs hC TF2 hx_))
    | (go_at_call 52; have hx_ := TF1; go_must (refine (fixed_any f4 [f5, f6] j3 32 32 q w2.heap.size (w.heap.size + 1) 3 C2 47 _ GQ8.out W8.out.1.s (by rw [Z2.out]; decide) (.inl SW.out)).mono ?_; rintro e w9 ⟨rfl, hf, hfr, hs⟩; rw [HJ4.out] at hf; have GQ9 := Lib.hid hf; obtain ⟨C3, hC⟩ : ∃ C3, C3 = (C2.toList.take 3 ++ bvs (f4.take 32) ++ C2.toList.drop (3 + Nat.min f4.length 32)).toArray := ⟨_, rfl⟩; rw [← hC] at hs; have HC3 := Lib.hid hC; have Z3 : Hid (C3.size = 163) := (by show _ = _; rw [hC, put_size (by rw [Z2.out]; decide)]; exact Z2.out); have W9 := Lib.hid (W8.out.1.put hfr (by simp; have h_ := PQ.out.2.2; omega) hs); have FP9 := Lib.hid (FP8.out.keep hfr (by simp; have h_ := PQ.out.2.1; omega)); have TF2 := hx_; clear hf hfr hs hC TF1 hx_))
    | (go_at_call 52; have hx_ := TF0; go_must (refine (fixed_any y [] i1 64 64 p (w.heap.size + 2) (w.heap.size + 1) 99 Z 47 w3 FP3.out W3.out.s (by rw [HZz.out]; decide) (.inl (by omega))).mono ?_; rintro e w4 ⟨rfl, hf, hfr, hs⟩; rw [HF.out] at hf; have FP4 := Lib.hid hf; obtain ⟨C1, hC1⟩ : ∃ C1, C1 = (Z.toList.take 99 ++ bvs (y.take 64) ++ Z.toList.drop (99 + Nat.min y.length 64)).toArray := ⟨_, rfl⟩; rw [← hC1] at hs; have HC1 := Lib.hid hC1; have Z1 : Hid (C1.size = 163) := (by show _ = _; rw [hC1, put_size (by rw [HZz.out]; decide)]; exact HZz.out); have W4 := Lib.hid (W3.out.put hfr (by simp; have h_ := FP3.out.lo; omega) hs); have GQ4 := Lib.hid (GQ3.out.keep hfr (by simp; have h_ := PQ.out.1; have h2_ := FP3.out.lo; omega)); have TF1 := hx_; clear hf hfr hs hC1 TF0 hx_))
    | (go_at_call 53; have hx_ := TN2; go_must (refine (num_any f3 [f4, f5, f6] j2 q w2.heap.size w6 GQ6.out FL3.out).mono ?_; rintro e w7 ⟨rfl, hg, hfr⟩; rw [HJ3.out] at hg; have GQ7 := Lib.hid hg; have FP7 := Lib.hid (FP6.out.keep hfr (by simp; exact .inr PQ.out.2.1)); have W7 := Lib.hid (W6.out.frm hfr (by simp; exact PQ.out.2.2)); obtain ⟨u0, u1, u2, c0, c1_, c2_⟩ := three_at W7.out.s (by rw [Z1.out]; decide); have hfz : ∀ i, w7.frozen? ⟨w.heap.size + 1, i, none⟩ = false := (fun i => frozen_row W7.out.s i); have W8 := Lib.hid (three_put (f1 := f1) (f2 := f2) (f3 := f3) W7.out); obtain ⟨C2, hC2⟩ : ∃ C2, C2 = ((C1.setIfInBounds 0 (.int .u64 (numV f1))).setIfInBounds 1 (.int .u64 (numV f2))).setIfInBounds 2 (.int .u64 (numV f3)) := ⟨_, rfl⟩; rw [← hC2] at W8; have HC2 := Lib.hid hC2; have Z2 : Hid (C2.size = 163) := (by show _ = _; rw [hC2]; simp; exact Z1.out); have FP8 := Lib.hid (FP7.out.keep W8.out.2 (by simp)); have GQ8 := Lib.hid (GQ7.out.keep W8.out.2 (by simp; exact .inl SW.out)); clear hC2; have TN3 := hx_; clear hg hfr TN2 hx_))
    | (go_at_call 53; have hx_ := TN1; go_must (refine (num_any f2 [f3, f4, f5, f6] j1 q w2.heap.size w5 GQ5.out FL2.out).mono ?_; rintro e w6 ⟨rfl, hg, hfr⟩; rw [HJ2.out] at hg; have GQ6 := Lib.hid hg; have FP6 := Lib.hid (FP5.out.keep hfr (by simp; exact .inr PQ.out.2.1)); have W6 := Lib.hid (W5.out.frm hfr (by simp; exact PQ.out.2.2)); have TN2 := hx_; clear hg hfr TN1 hx_))
    | (go_at_call 53; have hx_ := TN0; go_must (refine (num_any f1 [f2, f3, f4, f5, f6] i2 q w2.heap.size w4 GQ4.out FL1.out).mono ?_; rintro e w5 ⟨rfl, hg, hfr⟩; rw [HJ1.out] at hg; have GQ5 := Lib.hid hg; have FP5 := Lib.hid (FP4.out.keep hfr (by simp; exact .inr PQ.out.2.1)); have W5 := Lib.hid (W4.out.frm hfr (by simp; exact PQ.out.2.2)); have TN1 := hx_; clear hg hfr TN0 hx_))
    | (refine wpList_load_arr rfl _ _ rfl (w.heap.size + 1) 0 rfl C5 _ (by with_reducible exact range_row W11.out.s) Try.underlying47 rfl (by rw [Z5.out]; kernel_rfl) ?_)
    | (refine wpList_store_row rfl _ _ _ rfl w.heap.size C5 rfl rfl 47 Z (by with_reducible exact W11.out.t2) (by rw [Z5.out]; kernel_rfl) (by rw [Z5.out, HZz.out]) (by rw [root_written HL.out.1 HL.out.2.1 HL.out.2.2.1 HL.out.2.2.2 (by rw [HC1.out, HZ.out]) HC2.out HC3.out HC4.out HC5.out]; exact root_one) ?_))
  have hld := ret47r (heap_setRow (cs := C5) W11.out.t2) Z5.out
  refine bodyPost_ret (v := .tuple #[.agg C5, .int .i64 0]) (by simp [results, Try.results27, asAddr, hld]) rfl ⟨by rw [(root_yes HD.out).1, (root_yes HD.out).2, root_written HL.out.1 HL.out.2.1 HL.out.2.2.1 HL.out.2.2.2 (by rw [HC1.out, HZ.out]) HC2.out HC3.out HC4.out HC5.out], ?_⟩
  exact W11.out.below.trans ((Frm.setRow _ _ _).1.below W11.out.below.size (by simp))
end Go.Proofs.Ytbpgbihcihnieaa
