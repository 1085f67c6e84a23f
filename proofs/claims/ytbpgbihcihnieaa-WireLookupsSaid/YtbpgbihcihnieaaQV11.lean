/- The texts V11a V11b V11c V11d V11e Eq32 Eq64r V12 of this work, merged by wip/merge.py. No conditions. -/
import Derived.Test.YtbpgbihcihnieaaQV5
import Derived.Test.YtbpgbihcihnieaaQV6f
import Derived.Test.YtbpgbihcihnieaaQBase
import Derived.Laws.StructEq
import Derived.Test.YtbpgbihcihnieaaQV3c
namespace Go.Proofs.Ytbpgbihcihnieaa
open Go.RowKit
/-- DecodeRoot's two roots: the answer's place, the one under way. -/
structure WB (w v : World) (Z C : Array Value) : Prop where
  below : Below w.heap.size w v
  t2 : v.heap[w.heap.size]? = some (.cells Z 47 (0, 0))
  s : v.heap[w.heap.size + 1]? = some (.cells C 47 (0, 0))
theorem WB.start (w : World) (Z : Array Value) : WB w ((w.alloc (.cells Z 47)).alloc (.cells Z 47)) Z Z := by
  refine ⟨((Below.refl _ _).alloc (Nat.le_refl _) _).alloc (by simp) _, ?_, ?_⟩
  · rw [Below.heap_alloc _ _ _ (by simp)]; exact heap_alloc_new w _
  · have h1 := heap_alloc_new (w.alloc (.cells Z 47)) (.cells Z 47)
    rw [show (w.alloc (.cells Z 47)).heap.size = w.heap.size + 1 from by simp] at h1
    exact h1
theorem WB.frm {w v v' : World} {Z C : Array Value} {ps : List Nat} (h : WB w v Z C) (hf : Frm ps v v') (hp : ∀ q ∈ ps, w.heap.size + 2 ≤ q) : WB w v' Z C :=
  ⟨h.below.trans (hf.below h.below.size (fun q hq => by have := hp q hq; omega)), hf.heap h.t2 (fun hq => by have := hp _ hq; omega), hf.heap h.s (fun hq => by have := hp _ hq; omega)⟩
theorem WB.put {w v v' : World} {Z C C' : Array Value} {ps : List Nat} (h : WB w v Z C) (hf : Frm ps v v') (hp : ∀ q ∈ ps, w.heap.size + 1 ≤ q) (hs : v'.heap[w.heap.size + 1]? = some (.cells C' 47 (0, 0))) : WB w v' Z C' :=
  ⟨h.below.trans (hf.below h.below.size (fun q hq => by have := hp q hq; omega)), hf.heap h.t2 (fun hq => by have := hp _ hq; omega), hs⟩
theorem put_size {C : Array Value} {x : List UInt8} {off n : Nat} (h : off + n ≤ C.size) : (C.toList.take off ++ bvs (x.take n) ++ C.toList.drop (off + Nat.min x.length n)).toArray.size = C.size := by
  have h1 : Nat.min x.length n ≤ n := Nat.min_le_right _ _
  have h2 : (bvs (x.take n)).length = Nat.min x.length n := by simp [bvs_length, Nat.min_comm]
  simp only [List.size_toArray, List.length_append, List.length_take, List.length_drop, Array.length_toList, h2]
  omega
theorem seg_put {pre old new post : List Value} {off n : Nat} (h1 : pre.length = off) (h2 : old.length = n) (_h3 : new.length = n) : (pre ++ (old ++ post)).take off ++ new ++ (pre ++ (old ++ post)).drop (off + n) = pre ++ (new ++ post) := by
  subst h1
  have e : pre.length + n = (pre ++ old).length := by simp [h2]
  rw [List.take_left, e, ← List.append_assoc pre old post, List.drop_left, List.append_assoc]
theorem three_set (C : Array Value) (a b c : Value) (r : List Value) (u0 u1 u2 : Value) (h : C = (u0 :: u1 :: u2 :: r).toArray) : ((C.setIfInBounds 0 a).setIfInBounds 1 b).setIfInBounds 2 c = (a :: b :: c :: r).toArray := by
  subst h
  simp
/-- All fields are as they must be: the root that was written. -/
theorem root_written {y f1 f2 f3 f4 f5 f6 : List UInt8} (hy : y.length = 64) (l4 : f4.length = 32) (l5 : f5.length = 32) (l6 : f6.length = 32) {C1 C2 C3 C4 C5 : Array Value}
    (h1 : C1 = (rootZ.cs.toList.take 99 ++ bvs (y.take 64) ++ rootZ.cs.toList.drop (99 + Nat.min y.length 64)).toArray)
    (h2 : C2 = ((C1.setIfInBounds 0 (.int .u64 (numV f1))).setIfInBounds 1 (.int .u64 (numV f2))).setIfInBounds 2 (.int .u64 (numV f3)))
    (h3 : C3 = (C2.toList.take 3 ++ bvs (f4.take 32) ++ C2.toList.drop (3 + Nat.min f4.length 32)).toArray)
    (h4 : C4 = (C3.toList.take 35 ++ bvs (f5.take 32) ++ C3.toList.drop (35 + Nat.min f5.length 32)).toArray)
    (h5 : C5 = (C4.toList.take 67 ++ bvs (f6.take 32) ++ C4.toList.drop (67 + Nat.min f6.length 32)).toArray) : C5 = (RootV.mk (numV f1) (numV f2) (numV f3) f4 f5 f6 y).cs := by
  have z : (bvs (List.replicate 32 0)).length = 32 := by simp [bvs_length]
  rw [hy, show rootZ.cs = (RootV.mk 0 0 0 (List.replicate 32 0) (List.replicate 32 0) (List.replicate 32 0) (List.replicate 64 0)).cs from rfl, root_sig (by simp) (by simp) (by simp) hy] at h1
  rw [three_set C1 _ _ _ (bvs (List.replicate 32 0) ++ (bvs (List.replicate 32 0) ++ (bvs (List.replicate 32 0) ++ bvs y))) _ _ _ h1] at h2
  have e2 : C2.toList = [.int .u64 (numV f1), .int .u64 (numV f2), .int .u64 (numV f3)] ++ (bvs (List.replicate 32 0) ++ (bvs (List.replicate 32 0) ++ (bvs (List.replicate 32 0) ++ bvs y))) := by rw [h2]; rfl
  rw [l4, show Nat.min 32 32 = 32 from rfl, e2, List.take_of_length_le (l := f4) (by omega), seg_put (off := 3) (n := 32) rfl z (by rw [bvs_length, l4])] at h3
  have e3 : C3.toList = ([.int .u64 (numV f1), .int .u64 (numV f2), .int .u64 (numV f3)] ++ bvs f4) ++ (bvs (List.replicate 32 0) ++ (bvs (List.replicate 32 0) ++ bvs y)) := by rw [h3, List.append_assoc]
  rw [l5, show Nat.min 32 32 = 32 from rfl, e3, List.take_of_length_le (l := f5) (by omega), seg_put (off := 35) (n := 32) (by rw [List.length_append, bvs_length, l4]; rfl) z (by rw [bvs_length, l5])] at h4
  have e4 : C4.toList = (([.int .u64 (numV f1), .int .u64 (numV f2), .int .u64 (numV f3)] ++ bvs f4) ++ bvs f5) ++ (bvs (List.replicate 32 0) ++ bvs y) := by rw [h4, ← List.append_assoc]
  rw [l6, show Nat.min 32 32 = 32 from rfl, e4, List.take_of_length_le (l := f6) (by omega), seg_put (off := 67) (n := 32) (by rw [List.length_append, List.length_append, bvs_length, bvs_length, l4, l5]; rfl) z (by rw [bvs_length, l6])] at h5
  rw [h5]
  simp [RootV.cs, RootV.vs]
theorem three_at {w : World} {b : Nat} {C : Array Value} {t : TypeId} {f : Nat × Nat} (h : w.heap[b]? = some (.cells C t f)) (h3 : 3 ≤ C.size) : ∃ u0 u1 u2, w.cell? ⟨b, 0, none⟩ = some u0 ∧ w.cell? ⟨b, 1, none⟩ = some u1 ∧ w.cell? ⟨b, 2, none⟩ = some u2 := by
  refine ⟨C[0], C[1], C[2], ?_, ?_, ?_⟩ <;> rw [cell_of_row w b _ _ _ _ h] <;> simp
theorem three_put {w v : World} {Z C : Array Value} {f1 f2 f3 : List UInt8} (h : WB w v Z C) : WB w (((v.setCell ⟨w.heap.size + 1, 0, none⟩ (.int .u64 (numV f1))).setCell ⟨w.heap.size + 1, 1, none⟩ (.int .u64 (numV f2))).setCell ⟨w.heap.size + 1, 2, none⟩ (.int .u64 (numV f3))) Z (((C.setIfInBounds 0 (.int .u64 (numV f1))).setIfInBounds 1 (.int .u64 (numV f2))).setIfInBounds 2 (.int .u64 (numV f3))) ∧
    Frm [w.heap.size + 1] v (((v.setCell ⟨w.heap.size + 1, 0, none⟩ (.int .u64 (numV f1))).setCell ⟨w.heap.size + 1, 1, none⟩ (.int .u64 (numV f2))).setCell ⟨w.heap.size + 1, 2, none⟩ (.int .u64 (numV f3))) := by
  have h1 := heap_setCell_same v (w.heap.size + 1) 0 _ _ (.int .u64 (numV f1)) h.s
  have h2 := heap_setCell_same _ (w.heap.size + 1) 1 _ _ (.int .u64 (numV f2)) h1
  have h3 := heap_setCell_same _ (w.heap.size + 1) 2 _ _ (.int .u64 (numV f3)) h2
  have hf := ((Frm.setCell v (w.heap.size + 1) 0 (.int .u64 (numV f1))).trans (Frm.setCell _ (w.heap.size + 1) 1 (.int .u64 (numV f2)))).trans (Frm.setCell _ (w.heap.size + 1) 2 (.int .u64 (numV f3)))
  exact ⟨h.put hf (by simp) h3, hf⟩
end Go.Proofs.Ytbpgbihcihnieaa

namespace Go.Proofs.Ytbpgbihcihnieaa
open Go.RowKit
set_option maxRecDepth 100000 in
set_option maxHeartbeats 4000000 in
theorem wDR_f (A : Option Addr) (c : Nat) (b : List UInt8) (w : World) (hr : Reads w w.heap.size 1 A b.length (bvs b)) (hc : b.length ≤ c) (hm : b.length ≤ 140737488355328)
    (x y f1 f2 f3 f4 f5 f6 : List UInt8) (i1 i2 j1 j2 j3 j4 j5 j6 : Bool) (h1 : (openV b signedW 2).getD (noFields 2) = [x, y] ∧ (!(openV b signedW 2).isSome) = i1) (h2 : (openV x rootW 6).getD (noFields 6) = [f1, f2, f3, f4, f5, f6] ∧ (!(openV x rootW 6).isSome) = i2)
    (hx : x.length ≤ 140737488355328) (hf : f1.length ≤ 140737488355328 ∧ f2.length ≤ 140737488355328 ∧ f3.length ≤ 140737488355328)
    (hj1 : (i2 || !decide (f1.length = 8)) = j1) (hj2 : (j1 || !decide (f2.length = 8)) = j2) (hj3 : (j2 || !decide (f3.length = 8)) = j3) (hj4 : (j3 || !decide (f4.length = 32)) = j4) (hj5 : (j4 || !decide (f5.length = 32)) = j5) (hj6 : (j5 || !decide (f6.length = 32)) = j6) (hD : rootD b = none) (hF : (i1 || !decide (y.length = 64)) = true) :
    Calls Try.prog 27 #[.slice A b.length c] w (RootPost b w) := by
  obtain ⟨Z, hZ⟩ : ∃ Z : Array Value, Z = rootZ.cs := ⟨_, rfl⟩
  have hz := hz47
  rw [← hZ] at hz
  have HZ := Lib.hid hZ
  have HZz : Hid (Z.size = 163) := by show _ = _; rw [hZ]; decide
  have W0 := Lib.hid (WB.start w Z)
  have R0 : Hid (Reads ((w.alloc (.cells Z 47)).alloc (.cells Z 47)) ((w.alloc (.cells Z 47)).alloc (.cells Z 47)).heap.size 1 A b.length (bvs b)) := (hr.keep fun _ hp => W0.out.below.cell hp).more W0.out.below.size
  have hsz0 : ((w.alloc (.cells Z 47)).alloc (.cells Z 47)).heap.size = w.heap.size + 2 := by simp
  have Hc := Lib.hid hc
  have Hm := Lib.hid hm
  have H1 := Lib.hid h1
  have H2 := Lib.hid h2
  have XL := Lib.hid hx
  have FL1 := Lib.hid hf.1
  have FL2 := Lib.hid hf.2.1
  have FL3 := Lib.hid hf.2.2
  have HJ1 := Lib.hid hj1
  have HJ2 := Lib.hid hj2
  have HJ3 := Lib.hid hj3
  have HJ4 := Lib.hid hj4
  have HJ5 := Lib.hid hj5
  have HJ6 := Lib.hid hj6
  have HF := Lib.hid hF
  have HD := Lib.hid hD
  clear hr hc hm h1 h2 hx hf hj1 hj2 hj3 hj4 hj5 hj6 hF hD hZ
  have TO0 : Hid True := trivial
  have TF0 : Hid True := trivial
  have TN0 : Hid True := trivial
  go_enter Try.func27, Try.ntmps27
  go_wp2_with (first
    | (go_at_call 50; have hx_ := TO1; go_must (refine (open_any Ax cx 6 x rootW 6 rfl (by decide) (by decide) w2 (RX.out.1.reads (Nat.le_of_lt FP2.out.lt)) RX.out.2 XL.out).mono ?_; rintro e w3 ⟨q, rfl, hf, hb⟩; rw [H2.out.1, H2.out.2] at hf; have GQ3 := Lib.hid hf; have FP3 := Lib.hid (FP2.out.keep (Frm.of_below (ps := []) hb) (by simp)); have W3 := Lib.hid (W2.out.frm (Frm.of_below (ps := []) hb) (by simp)); have PQ : Hid (p < w2.heap.size ∧ p < q ∧ w.heap.size + 2 ≤ q) := ⟨FP2.out.lt, by have h_ := hf.lo; have h2_ := FP2.out.lt; omega, by have h_ := hf.lo; have h2_ := FP2.out.lt; have h3_ := FP2.out.lo; omega⟩; have SW : Hid (w.heap.size + 1 < w2.heap.size) := (by show _ < _; have h2_ := FP2.out.lt; have h3_ := FP2.out.lo; omega); clear hf hb TO1 hx_))
    | (go_at_call 50; have hx_ := TO0; go_must (refine (open_any A c 2 b signedW 2 rfl (by decide) (by decide) _ R0.out Hc.out Hm.out).mono ?_; rintro e w1 ⟨p, rfl, hf, hb⟩; rw [H1.out.1, H1.out.2, hsz0] at hf; have FP1 := Lib.hid hf; have W1 := Lib.hid (W0.out.frm (Frm.of_below (ps := []) hb) (by simp)); have TO1 := hx_; clear hf hb TO0 hx_))
    | (go_at_call 51; go_must (refine (next_any x [y] i1 p (w.heap.size + 2) w1 FP1.out).mono ?_; rintro e w2 ⟨Ax, cx, rfl, hcx, hx, hf, hfr⟩; have FP2 := Lib.hid hf; have RX := Lib.hid (And.intro hx hcx); have W2 := Lib.hid (W1.out.frm hfr (by simp; exact FP1.out.lo)); clear hcx hx hf hfr))
    | (go_at_call 52; have hx_ := TF3; go_must (refine (fixed_any f6 [] j5 32 32 q w2.heap.size (w.heap.size + 1) 67 C4 47 _ GQ10.out W10.out.s (by rw [Z4.out]; decide) (.inl SW.out)).mono ?_; rintro e w11 ⟨rfl, hf, hfr, hs⟩; rw [HJ6.out] at hf; have GQ11 := Lib.hid hf; obtain ⟨C5, hC⟩ : ∃ C5, C5 = (C4.toList.take 67 ++ bvs (f6.take 32) ++ C4.toList.drop (67 + Nat.min f6.length 32)).toArray := ⟨_, rfl⟩; rw [← hC] at hs; have HC5 := Lib.hid hC; have Z5 : Hid (C5.size = 163) := (by show _ = _; rw [hC, put_size (by rw [Z4.out]; decide)]; exact Z4.out); have W11 := Lib.hid (W10.out.put hfr (by simp; have h_ := PQ.out.2.2; omega) hs); have FP11 := Lib.hid (FP10.out.keep hfr (by simp; have h_ := PQ.out.2.1; omega)); obtain ⟨e2, hfz2⟩ := GQ11.out.bad_at; obtain ⟨e1, hfz1⟩ := FP11.out.bad_at; have TF4 := hx_; clear hf hfr hs hC TF3 hx_))
    | (go_at_call 52; have hx_ := TF2; go_must (refine (fixed_any f5 [f6] j4 32 32 q w2.heap.size (w.heap.size + 1) 35 C3 47 _ GQ9.out W9.out.s (by rw [Z3.out]; decide) (.inl SW.out)).mono ?_; rintro e w10 ⟨rfl, hf, hfr, hs⟩; rw [HJ5.out] at hf; have GQ10 := Lib.hid hf; obtain ⟨C4, hC⟩ : ∃ C4, C4 = (C3.toList.take 35 ++ bvs (f5.take 32) ++ C3.toList.drop (35 + Nat.min f5.length 32)).toArray := ⟨_, rfl⟩; rw [← hC] at hs; have HC4 := Lib.hid hC; have Z4 : Hid (C4.size = 163) := (by show _ = _; rw [hC, put_size (by rw [Z3.out]; decide)]; exact Z3.out); have W10 := Lib.hid (W9.out.put hfr (by simp; have h_ := PQ.out.2.2; omega) hs); have FP10 := Lib.hid (FP9.out.keep hfr (by simp; have h_ := PQ.out.2.1; omega)); have TF3 := hx_; clear hf hfr hs hC TF2 hx_))
    | (go_at_call 52; have hx_ := TF1; go_must (refine (fixed_any f4 [f5, f6] j3 32 32 q w2.heap.size (w.heap.size + 1) 3 C2 47 _ GQ8.out W8.out.1.s (by rw [Z2.out]; decide) (.inl SW.out)).mono ?_; rintro e w9 ⟨rfl, hf, hfr, hs⟩; rw [HJ4.out] at hf; have GQ9 := Lib.hid hf; obtain ⟨C3, hC⟩ : ∃ C3, C3 = (C2.toList.take 3 ++ bvs (f4.take 32) ++ C2.toList.drop (3 + Nat.min f4.length 32)).toArray := ⟨_, rfl⟩; rw [← hC] at hs; have HC3 := Lib.hid hC; have Z3 : Hid (C3.size = 163) := (by show _ = _; rw [hC, put_size (by rw [Z2.out]; decide)]; exact Z2.out); have W9 := Lib.hid (W8.out.1.put hfr (by simp; have h_ := PQ.out.2.2; omega) hs); have FP9 := Lib.hid (FP8.out.keep hfr (by simp; have h_ := PQ.out.2.1; omega)); have TF2 := hx_; clear hf hfr hs hC TF1 hx_))
    | (go_at_call 52; have hx_ := TF0; go_must (refine (fixed_any y [] i1 64 64 p (w.heap.size + 2) (w.heap.size + 1) 99 Z 47 w3 FP3.out W3.out.s (by rw [HZz.out]; decide) (.inl (by omega))).mono ?_; rintro e w4 ⟨rfl, hf, hfr, hs⟩; rw [HF.out] at hf; have FP4 := Lib.hid hf; obtain ⟨C1, hC1⟩ : ∃ C1, C1 = (Z.toList.take 99 ++ bvs (y.take 64) ++ Z.toList.drop (99 + Nat.min y.length 64)).toArray := ⟨_, rfl⟩; rw [← hC1] at hs; have HC1 := Lib.hid hC1; have Z1 : Hid (C1.size = 163) := (by show _ = _; rw [hC1, put_size (by rw [HZz.out]; decide)]; exact HZz.out); have W4 := Lib.hid (W3.out.put hfr (by simp; have h_ := FP3.out.lo; omega) hs); have GQ4 := Lib.hid (GQ3.out.keep hfr (by simp; have h_ := PQ.out.1; have h2_ := FP3.out.lo; omega)); have TF1 := hx_; clear hf hfr hs hC1 TF0 hx_))
    | (go_at_call 53; have hx_ := TN2; go_must (refine (num_any f3 [f4, f5, f6] j2 q w2.heap.size w6 GQ6.out FL3.out).mono ?_; rintro e w7 ⟨rfl, hg, hfr⟩; rw [HJ3.out] at hg; have GQ7 := Lib.hid hg; have FP7 := Lib.hid (FP6.out.keep hfr (by simp; exact .inr PQ.out.2.1)); have W7 := Lib.hid (W6.out.frm hfr (by simp; exact PQ.out.2.2)); obtain ⟨u0, u1, u2, c0, c1_, c2_⟩ := three_at W7.out.s (by rw [Z1.out]; decide); have hfz : ∀ i, w7.frozen? ⟨w.heap.size + 1, i, none⟩ = false := (fun i => frozen_row W7.out.s i); have W8 := Lib.hid (three_put (f1 := f1) (f2 := f2) (f3 := f3) W7.out); obtain ⟨C2, hC2⟩ : ∃ C2, C2 = ((C1.setIfInBounds 0 (.int .u64 (numV f1))).setIfInBounds 1 (.int .u64 (numV f2))).setIfInBounds 2 (.int .u64 (numV f3)) := ⟨_, rfl⟩; rw [← hC2] at W8; have HC2 := Lib.hid hC2; have Z2 : Hid (C2.size = 163) := (by show _ = _; rw [hC2]; simp; exact Z1.out); have FP8 := Lib.hid (FP7.out.keep W8.out.2 (by simp)); have GQ8 := Lib.hid (GQ7.out.keep W8.out.2 (by simp; exact .inl SW.out)); clear hC2; have TN3 := hx_; clear hg hfr TN2 hx_))
    | (go_at_call 53; have hx_ := TN1; go_must (refine (num_any f2 [f3, f4, f5, f6] j1 q w2.heap.size w5 GQ5.out FL2.out).mono ?_; rintro e w6 ⟨rfl, hg, hfr⟩; rw [HJ2.out] at hg; have GQ6 := Lib.hid hg; have FP6 := Lib.hid (FP5.out.keep hfr (by simp; exact .inr PQ.out.2.1)); have W6 := Lib.hid (W5.out.frm hfr (by simp; exact PQ.out.2.2)); have TN2 := hx_; clear hg hfr TN1 hx_))
    | (go_at_call 53; have hx_ := TN0; go_must (refine (num_any f1 [f2, f3, f4, f5, f6] i2 q w2.heap.size w4 GQ4.out FL1.out).mono ?_; rintro e w5 ⟨rfl, hg, hfr⟩; rw [HJ1.out] at hg; have GQ5 := Lib.hid hg; have FP5 := Lib.hid (FP4.out.keep hfr (by simp; exact .inr PQ.out.2.1)); have W5 := Lib.hid (W4.out.frm hfr (by simp; exact PQ.out.2.2)); have TN1 := hx_; clear hg hfr TN0 hx_))
    | (refine wpList_store_row rfl _ _ _ rfl w.heap.size Z rfl rfl 47 Z (by with_reducible exact W11.out.t2) (by rw [HZz.out]; kernel_rfl) (by rfl) (by rw [HZ.out]; exact root_one) ?_))
  have hld := ret47r (heap_setRow (cs := Z) W11.out.t2) HZz.out
  refine bodyPost_ret (v := .tuple #[.agg Z, .int .i64 2]) (by simp [results, Try.results27, asAddr, hld]) rfl ⟨by rw [(root_no HD.out).1, (root_no HD.out).2, ← HZ.out], ?_⟩
  exact W11.out.below.trans ((Frm.setRow _ _ _).1.below W11.out.below.size (by simp))
end Go.Proofs.Ytbpgbihcihnieaa

namespace Go.Proofs.Ytbpgbihcihnieaa
open Go.RowKit
set_option maxRecDepth 100000 in
set_option maxHeartbeats 4000000 in
theorem wDR_g (A : Option Addr) (c : Nat) (b : List UInt8) (w : World) (hr : Reads w w.heap.size 1 A b.length (bvs b)) (hc : b.length ≤ c) (hm : b.length ≤ 140737488355328)
    (x y f1 f2 f3 f4 f5 f6 : List UInt8) (i1 i2 j1 j2 j3 j4 j5 : Bool) (h1 : (openV b signedW 2).getD (noFields 2) = [x, y] ∧ (!(openV b signedW 2).isSome) = i1) (h2 : (openV x rootW 6).getD (noFields 6) = [f1, f2, f3, f4, f5, f6] ∧ (!(openV x rootW 6).isSome) = i2)
    (hx : x.length ≤ 140737488355328) (hf : f1.length ≤ 140737488355328 ∧ f2.length ≤ 140737488355328 ∧ f3.length ≤ 140737488355328)
    (hj1 : (i2 || !decide (f1.length = 8)) = j1) (hj2 : (j1 || !decide (f2.length = 8)) = j2) (hj3 : (j2 || !decide (f3.length = 8)) = j3) (hj4 : (j3 || !decide (f4.length = 32)) = j4) (hj5 : (j4 || !decide (f5.length = 32)) = j5) (hj6 : (j5 || !decide (f6.length = 32)) = true) (hD : rootD b = none) (hF : (i1 || !decide (y.length = 64)) = false) :
    Calls Try.prog 27 #[.slice A b.length c] w (RootPost b w) := by
  obtain ⟨Z, hZ⟩ : ∃ Z : Array Value, Z = rootZ.cs := ⟨_, rfl⟩
  have hz := hz47
  rw [← hZ] at hz
  have HZ := Lib.hid hZ
  have HZz : Hid (Z.size = 163) := by show _ = _; rw [hZ]; decide
  have W0 := Lib.hid (WB.start w Z)
  have R0 : Hid (Reads ((w.alloc (.cells Z 47)).alloc (.cells Z 47)) ((w.alloc (.cells Z 47)).alloc (.cells Z 47)).heap.size 1 A b.length (bvs b)) := (hr.keep fun _ hp => W0.out.below.cell hp).more W0.out.below.size
  have hsz0 : ((w.alloc (.cells Z 47)).alloc (.cells Z 47)).heap.size = w.heap.size + 2 := by simp
  have Hc := Lib.hid hc
  have Hm := Lib.hid hm
  have H1 := Lib.hid h1
  have H2 := Lib.hid h2
  have XL := Lib.hid hx
  have FL1 := Lib.hid hf.1
  have FL2 := Lib.hid hf.2.1
  have FL3 := Lib.hid hf.2.2
  have HJ1 := Lib.hid hj1
  have HJ2 := Lib.hid hj2
  have HJ3 := Lib.hid hj3
  have HJ4 := Lib.hid hj4
  have HJ5 := Lib.hid hj5
  have HJ6 := Lib.hid hj6
  have HF := Lib.hid hF
  have HD := Lib.hid hD
  clear hr hc hm h1 h2 hx hf hj1 hj2 hj3 hj4 hj5 hj6 hF hD hZ
  have TO0 : Hid True := trivial
  have TF0 : Hid True := trivial
  have TN0 : Hid True := trivial
  go_enter Try.func27, Try.ntmps27
  go_wp2_with (first
    | (go_at_call 50; have hx_ := TO1; go_must (refine (open_any Ax cx 6 x rootW 6 rfl (by decide) (by decide) w2 (RX.out.1.reads (Nat.le_of_lt FP2.out.lt)) RX.out.2 XL.out).mono ?_; rintro e w3 ⟨q, rfl, hf, hb⟩; rw [H2.out.1, H2.out.2] at hf; have GQ3 := Lib.hid hf; have FP3 := Lib.hid (FP2.out.keep (Frm.of_below (ps := []) hb) (by simp)); have W3 := Lib.hid (W2.out.frm (Frm.of_below (ps := []) hb) (by simp)); have PQ : Hid (p < w2.heap.size ∧ p < q ∧ w.heap.size + 2 ≤ q) := ⟨FP2.out.lt, by have h_ := hf.lo; have h2_ := FP2.out.lt; omega, by have h_ := hf.lo; have h2_ := FP2.out.lt; have h3_ := FP2.out.lo; omega⟩; have SW : Hid (w.heap.size + 1 < w2.heap.size) := (by show _ < _; have h2_ := FP2.out.lt; have h3_ := FP2.out.lo; omega); clear hf hb TO1 hx_))
    | (go_at_call 50; have hx_ := TO0; go_must (refine (open_any A c 2 b signedW 2 rfl (by decide) (by decide) _ R0.out Hc.out Hm.out).mono ?_; rintro e w1 ⟨p, rfl, hf, hb⟩; rw [H1.out.1, H1.out.2, hsz0] at hf; have FP1 := Lib.hid hf; have W1 := Lib.hid (W0.out.frm (Frm.of_below (ps := []) hb) (by simp)); have TO1 := hx_; clear hf hb TO0 hx_))
    | (go_at_call 51; go_must (refine (next_any x [y] i1 p (w.heap.size + 2) w1 FP1.out).mono ?_; rintro e w2 ⟨Ax, cx, rfl, hcx, hx, hf, hfr⟩; have FP2 := Lib.hid hf; have RX := Lib.hid (And.intro hx hcx); have W2 := Lib.hid (W1.out.frm hfr (by simp; exact FP1.out.lo)); clear hcx hx hf hfr))
    | (go_at_call 52; have hx_ := TF3; go_must (refine (fixed_any f6 [] j5 32 32 q w2.heap.size (w.heap.size + 1) 67 C4 47 _ GQ10.out W10.out.s (by rw [Z4.out]; decide) (.inl SW.out)).mono ?_; rintro e w11 ⟨rfl, hf, hfr, hs⟩; rw [HJ6.out] at hf; have GQ11 := Lib.hid hf; obtain ⟨C5, hC⟩ : ∃ C5, C5 = (C4.toList.take 67 ++ bvs (f6.take 32) ++ C4.toList.drop (67 + Nat.min f6.length 32)).toArray := ⟨_, rfl⟩; rw [← hC] at hs; have HC5 := Lib.hid hC; have Z5 : Hid (C5.size = 163) := (by show _ = _; rw [hC, put_size (by rw [Z4.out]; decide)]; exact Z4.out); have W11 := Lib.hid (W10.out.put hfr (by simp; have h_ := PQ.out.2.2; omega) hs); have FP11 := Lib.hid (FP10.out.keep hfr (by simp; have h_ := PQ.out.2.1; omega)); obtain ⟨e2, hfz2⟩ := GQ11.out.bad_at; obtain ⟨e1, hfz1⟩ := FP11.out.bad_at; have TF4 := hx_; clear hf hfr hs hC TF3 hx_))
    | (go_at_call 52; have hx_ := TF2; go_must (refine (fixed_any f5 [f6] j4 32 32 q w2.heap.size (w.heap.size + 1) 35 C3 47 _ GQ9.out W9.out.s (by rw [Z3.out]; decide) (.inl SW.out)).mono ?_; rintro e w10 ⟨rfl, hf, hfr, hs⟩; rw [HJ5.out] at hf; have GQ10 := Lib.hid hf; obtain ⟨C4, hC⟩ : ∃ C4, C4 = (C3.toList.take 35 ++ bvs (f5.take 32) ++ C3.toList.drop (35 + Nat.min f5.length 32)).toArray := ⟨_, rfl⟩; rw [← hC] at hs; have HC4 := Lib.hid hC; have Z4 : Hid (C4.size = 163) := (by show _ = _; rw [hC, put_size (by rw [Z3.out]; decide)]; exact Z3.out); have W10 := Lib.hid (W9.out.put hfr (by simp; have h_ := PQ.out.2.2; omega) hs); have FP10 := Lib.hid (FP9.out.keep hfr (by simp; have h_ := PQ.out.2.1; omega)); have TF3 := hx_; clear hf hfr hs hC TF2 hx_))
    | (go_at_call 52; have hx_ := TF1; go_must (refine (fixed_any f4 [f5, f6] j3 32 32 q w2.heap.size (w.heap.size + 1) 3 C2 47 _ GQ8.out W8.out.1.s (by rw [Z2.out]; decide) (.inl SW.out)).mono ?_; rintro e w9 ⟨rfl, hf, hfr, hs⟩; rw [HJ4.out] at hf; have GQ9 := Lib.hid hf; obtain ⟨C3, hC⟩ : ∃ C3, C3 = (C2.toList.take 3 ++ bvs (f4.take 32) ++ C2.toList.drop (3 + Nat.min f4.length 32)).toArray := ⟨_, rfl⟩; rw [← hC] at hs; have HC3 := Lib.hid hC; have Z3 : Hid (C3.size = 163) := (by show _ = _; rw [hC, put_size (by rw [Z2.out]; decide)]; exact Z2.out); have W9 := Lib.hid (W8.out.1.put hfr (by simp; have h_ := PQ.out.2.2; omega) hs); have FP9 := Lib.hid (FP8.out.keep hfr (by simp; have h_ := PQ.out.2.1; omega)); have TF2 := hx_; clear hf hfr hs hC TF1 hx_))
    | (go_at_call 52; have hx_ := TF0; go_must (refine (fixed_any y [] i1 64 64 p (w.heap.size + 2) (w.heap.size + 1) 99 Z 47 w3 FP3.out W3.out.s (by rw [HZz.out]; decide) (.inl (by omega))).mono ?_; rintro e w4 ⟨rfl, hf, hfr, hs⟩; rw [HF.out] at hf; have FP4 := Lib.hid hf; obtain ⟨C1, hC1⟩ : ∃ C1, C1 = (Z.toList.take 99 ++ bvs (y.take 64) ++ Z.toList.drop (99 + Nat.min y.length 64)).toArray := ⟨_, rfl⟩; rw [← hC1] at hs; have HC1 := Lib.hid hC1; have Z1 : Hid (C1.size = 163) := (by show _ = _; rw [hC1, put_size (by rw [HZz.out]; decide)]; exact HZz.out); have W4 := Lib.hid (W3.out.put hfr (by simp; have h_ := FP3.out.lo; omega) hs); have GQ4 := Lib.hid (GQ3.out.keep hfr (by simp; have h_ := PQ.out.1; have h2_ := FP3.out.lo; omega)); have TF1 := hx_; clear hf hfr hs hC1 TF0 hx_))
    | (go_at_call 53; have hx_ := TN2; go_must (refine (num_any f3 [f4, f5, f6] j2 q w2.heap.size w6 GQ6.out FL3.out).mono ?_; rintro e w7 ⟨rfl, hg, hfr⟩; rw [HJ3.out] at hg; have GQ7 := Lib.hid hg; have FP7 := Lib.hid (FP6.out.keep hfr (by simp; exact .inr PQ.out.2.1)); have W7 := Lib.hid (W6.out.frm hfr (by simp; exact PQ.out.2.2)); obtain ⟨u0, u1, u2, c0, c1_, c2_⟩ := three_at W7.out.s (by rw [Z1.out]; decide); have hfz : ∀ i, w7.frozen? ⟨w.heap.size + 1, i, none⟩ = false := (fun i => frozen_row W7.out.s i); have W8 := Lib.hid (three_put (f1 := f1) (f2 := f2) (f3 := f3) W7.out); obtain ⟨C2, hC2⟩ : ∃ C2, C2 = ((C1.setIfInBounds 0 (.int .u64 (numV f1))).setIfInBounds 1 (.int .u64 (numV f2))).setIfInBounds 2 (.int .u64 (numV f3)) := ⟨_, rfl⟩; rw [← hC2] at W8; have HC2 := Lib.hid hC2; have Z2 : Hid (C2.size = 163) := (by show _ = _; rw [hC2]; simp; exact Z1.out); have FP8 := Lib.hid (FP7.out.keep W8.out.2 (by simp)); have GQ8 := Lib.hid (GQ7.out.keep W8.out.2 (by simp; exact .inl SW.out)); clear hC2; have TN3 := hx_; clear hg hfr TN2 hx_))
    | (go_at_call 53; have hx_ := TN1; go_must (refine (num_any f2 [f3, f4, f5, f6] j1 q w2.heap.size w5 GQ5.out FL2.out).mono ?_; rintro e w6 ⟨rfl, hg, hfr⟩; rw [HJ2.out] at hg; have GQ6 := Lib.hid hg; have FP6 := Lib.hid (FP5.out.keep hfr (by simp; exact .inr PQ.out.2.1)); have W6 := Lib.hid (W5.out.frm hfr (by simp; exact PQ.out.2.2)); have TN2 := hx_; clear hg hfr TN1 hx_))
    | (go_at_call 53; have hx_ := TN0; go_must (refine (num_any f1 [f2, f3, f4, f5, f6] i2 q w2.heap.size w4 GQ4.out FL1.out).mono ?_; rintro e w5 ⟨rfl, hg, hfr⟩; rw [HJ1.out] at hg; have GQ5 := Lib.hid hg; have FP5 := Lib.hid (FP4.out.keep hfr (by simp; exact .inr PQ.out.2.1)); have W5 := Lib.hid (W4.out.frm hfr (by simp; exact PQ.out.2.2)); have TN1 := hx_; clear hg hfr TN0 hx_))
    | (refine wpList_store_row rfl _ _ _ rfl w.heap.size Z rfl rfl 47 Z (by with_reducible exact W11.out.t2) (by rw [HZz.out]; kernel_rfl) (by rfl) (by rw [HZ.out]; exact root_one) ?_))
  have hld := ret47r (heap_setRow (cs := Z) W11.out.t2) HZz.out
  refine bodyPost_ret (v := .tuple #[.agg Z, .int .i64 2]) (by simp [results, Try.results27, asAddr, hld]) rfl ⟨by rw [(root_no HD.out).1, (root_no HD.out).2, ← HZ.out], ?_⟩
  exact W11.out.below.trans ((Frm.setRow _ _ _).1.below W11.out.below.size (by simp))
end Go.Proofs.Ytbpgbihcihnieaa

namespace Go.Proofs.Ytbpgbihcihnieaa
open Go.RowKit
set_option maxRecDepth 100000 in
set_option maxHeartbeats 4000000 in
theorem wDR_ok (A : Option Addr) (c : Nat) (b : List UInt8) (w : World) (hr : Reads w w.heap.size 1 A b.length (bvs b)) (hc : b.length ≤ c) (hm : b.length ≤ 140737488355328)
    (x y f1 f2 f3 f4 f5 f6 : List UInt8) (i1 i2 j1 j2 j3 j4 j5 : Bool) (h1 : (openV b signedW 2).getD (noFields 2) = [x, y] ∧ (!(openV b signedW 2).isSome) = i1) (h2 : (openV x rootW 6).getD (noFields 6) = [f1, f2, f3, f4, f5, f6] ∧ (!(openV x rootW 6).isSome) = i2)
    (hx : x.length ≤ 140737488355328) (hf : f1.length ≤ 140737488355328 ∧ f2.length ≤ 140737488355328 ∧ f3.length ≤ 140737488355328)
    (hj1 : (i2 || !decide (f1.length = 8)) = j1) (hj2 : (j1 || !decide (f2.length = 8)) = j2) (hj3 : (j2 || !decide (f3.length = 8)) = j3) (hj4 : (j3 || !decide (f4.length = 32)) = j4) (hj5 : (j4 || !decide (f5.length = 32)) = j5) (hj6 : (j5 || !decide (f6.length = 32)) = false) (hD : rootD b = some ⟨numV f1, numV f2, numV f3, f4, f5, f6, y⟩) (hF : (i1 || !decide (y.length = 64)) = false) (hy : y.length = 64) (l4 : f4.length = 32) (l5 : f5.length = 32) (l6 : f6.length = 32) :
    Calls Try.prog 27 #[.slice A b.length c] w (RootPost b w) := by
  obtain ⟨Z, hZ⟩ : ∃ Z : Array Value, Z = rootZ.cs := ⟨_, rfl⟩
  have hz := hz47
  rw [← hZ] at hz
  have HZ := Lib.hid hZ
  have HZz : Hid (Z.size = 163) := by show _ = _; rw [hZ]; decide
  have W0 := Lib.hid (WB.start w Z)
  have R0 : Hid (Reads ((w.alloc (.cells Z 47)).alloc (.cells Z 47)) ((w.alloc (.cells Z 47)).alloc (.cells Z 47)).heap.size 1 A b.length (bvs b)) := (hr.keep fun _ hp => W0.out.below.cell hp).more W0.out.below.size
  have hsz0 : ((w.alloc (.cells Z 47)).alloc (.cells Z 47)).heap.size = w.heap.size + 2 := by simp
  have Hc := Lib.hid hc
  have Hm := Lib.hid hm
  have H1 := Lib.hid h1
  have H2 := Lib.hid h2
  have XL := Lib.hid hx
  have FL1 := Lib.hid hf.1
  have FL2 := Lib.hid hf.2.1
  have FL3 := Lib.hid hf.2.2
  have HJ1 := Lib.hid hj1
  have HJ2 := Lib.hid hj2
  have HJ3 := Lib.hid hj3
  have HJ4 := Lib.hid hj4
  have HJ5 := Lib.hid hj5
  have HJ6 := Lib.hid hj6
  have HF := Lib.hid hF
  have HD := Lib.hid hD
  have HL := Lib.hid (And.intro hy (And.intro l4 (And.intro l5 l6)))
  clear hr hc hm h1 h2 hx hf hj1 hj2 hj3 hj4 hj5 hj6 hF hD hZ hy l4 l5 l6
  have TO0 : Hid True := trivial
  have TF0 : Hid True := trivial
  have TN0 : Hid True := trivial
  go_enter Try.func27, Try.ntmps27
  go_wp2_with (first
    | (go_at_call 50; have hx_ := TO1; go_must (refine (open_any Ax cx 6 x rootW 6 rfl (by decide) (by decide) w2 (RX.out.1.reads (Nat.le_of_lt FP2.out.lt)) RX.out.2 XL.out).mono ?_; rintro e w3 ⟨q, rfl, hf, hb⟩; rw [H2.out.1, H2.out.2] at hf; have GQ3 := Lib.hid hf; have FP3 := Lib.hid (FP2.out.keep (Frm.of_below (ps := []) hb) (by simp)); have W3 := Lib.hid (W2.out.frm (Frm.of_below (ps := []) hb) (by simp)); have PQ : Hid (p < w2.heap.size ∧ p < q ∧ w.heap.size + 2 ≤ q) := ⟨FP2.out.lt, by have h_ := hf.lo; have h2_ := FP2.out.lt; omega, by have h_ := hf.lo; have h2_ := FP2.out.lt; have h3_ := FP2.out.lo; omega⟩; have SW : Hid (w.heap.size + 1 < w2.heap.size) := (by show _ < _; have h2_ := FP2.out.lt; have h3_ := FP2.out.lo; omega); clear hf hb TO1 hx_))
    | (go_at_call 50; have hx_ := TO0; go_must (refine (open_any A c 2 b signedW 2 rfl (by decide) (by decide) _ R0.out Hc.out Hm.out).mono ?_; rintro e w1 ⟨p, rfl, hf, hb⟩; rw [H1.out.1, H1.out.2, hsz0] at hf; have FP1 := Lib.hid hf; have W1 := Lib.hid (W0.out.frm (Frm.of_below (ps := []) hb) (by simp)); have TO1 := hx_; clear hf hb TO0 hx_))
    | (go_at_call 51; go_must (refine (next_any x [y] i1 p (w.heap.size + 2) w1 FP1.out).mono ?_; rintro e w2 ⟨Ax, cx, rfl, hcx, hx, hf, hfr⟩; have FP2 := Lib.hid hf; have RX := Lib.hid (And.intro hx hcx); have W2 := Lib.hid (W1.out.frm hfr (by simp; exact FP1.out.lo)); clear hcx hx hf hfr))
    | (go_at_call 52; have hx_ := TF3; go_must (refine (fixed_any f6 [] j5 32 32 q w2.heap.size (w.heap.size + 1) 67 C4 47 _ GQ10.out W10.out.s (by rw [Z4.out]; decide) (.inl SW.out)).mono ?_; rintro e w11 ⟨rfl, hf, hfr, hs⟩; rw [HJ6.out] at hf; have GQ11 := Lib.hid hf; obtain ⟨C5, hC⟩ : ∃ C5, C5 = (C4.toList.take 67 ++ bvs (f6.take 32) ++ C4.toList.drop (67 + Nat.min f6.length 32)).toArray := ⟨_, rfl⟩; rw [← hC] at hs; have HC5 := Lib.hid hC; have Z5 : Hid (C5.size = 163) := (by show _ = _; rw [hC, put_size (by rw [Z4.out]; decide)]; exact Z4.out); have W11 := Lib.hid (W10.out.put hfr (by simp; have h_ := PQ.out.2.2; omega) hs); have FP11 := Lib.hid (FP10.out.keep hfr (by simp; have h_ := PQ.out.2.1; omega)); obtain ⟨e2, hfz2⟩ := GQ11.out.bad_at; obtain ⟨e1, hfz1⟩ := FP11.out.bad_at; have TF4 := hx_; clear hf hfr hs hC TF3 hx_))
    | (go_at_call 52; have hx_ := TF2; go_must (refine (fixed_any f5 [f6] j4 32 32 q w2.heap.size (w.heap.size + 1) 35 C3 47 _ GQ9.out W9.out.s (by rw [Z3.out]; decide) (.inl SW.out)).mono ?_; rintro e w10 ⟨rfl, hf, hfr, hs⟩; rw [HJ5.out] at hf; have GQ10 := Lib.hid hf; obtain ⟨C4, hC⟩ : ∃ C4, C4 = (C3.toList.take 35 ++ bvs (f5.take 32) ++ C3.toList.drop (35 + Nat.min f5.length 32)).toArray := ⟨_, rfl⟩; rw [← hC] at hs; have HC4 := Lib.hid hC; have Z4 : Hid (C4.size = 163) := (by show _ = _; rw [hC, put_size (by rw [Z3.out]; decide)]; exact Z3.out); have W10 := Lib.hid (W9.out.put hfr (by simp; have h_ := PQ.out.2.2; omega) hs); have FP10 := Lib.hid (FP9.out.keep hfr (by simp; have h_ := PQ.out.2.1; omega)); have TF3 := hx_; clear hf hfr hs hC TF2 hx_))
    | (go_at_call 52; have hx_ := TF1; go_must (refine (fixed_any f4 [f5, f6] j3 32 32 q w2.heap.size (w.heap.size + 1) 3 C2 47 _ GQ8.out W8.out.1.s (by rw [Z2.out]; decide) (.inl SW.out)).mono ?_; rintro e w9 ⟨rfl, hf, hfr, hs⟩; rw [HJ4.out] at hf; have GQ9 := Lib.hid hf; obtain ⟨C3, hC⟩ : ∃ C3, C3 = (C2.toList.take 3 ++ bvs (f4.take 32) ++ C2.toList.drop (3 + Nat.min f4.length 32)).toArray := ⟨_, rfl⟩; rw [← hC] at hs; have HC3 := Lib.hid hC; have Z3 : Hid (C3.size = 163) := (by show _ = _; rw [hC, put_size (by rw [Z2.out]; decide)]; exact Z2.out); have W9 := Lib.hid (W8.out.1.put hfr (by simp; have h_ := PQ.out.2.2; omega) hs); have FP9 := Lib.hid (FP8.out.keep hfr (by simp; have h_ := PQ.out.2.1; omega)); have TF2 := hx_; clear hf hfr hs hC TF1 hx_))
    | (go_at_call 52; have hx_ := TF0; go_must (refine (fixed_any y [] i1 64 64 p (w.heap.size + 2) (w.heap.size + 1) 99 Z 47 w3 FP3.out W3.out.s (by rw [HZz.out]; decide) (.inl (by omega))).mono ?_; rintro e w4 ⟨rfl, hf, hfr, hs⟩; rw [HF.out] at hf; have FP4 := Lib.hid hf; obtain ⟨C1, hC1⟩ : ∃ C1, C1 = (Z.toList.take 99 ++ bvs (y.take 64) ++ Z.toList.drop (99 + Nat.min y.length 64)).toArray := ⟨_, rfl⟩; rw [← hC1] at hs; have HC1 := Lib.hid hC1; have Z1 : Hid (C1.size = 163) := (by show _ = _; rw [hC1, put_size (by rw [HZz.out]; decide)]; exact HZz.out); have W4 := Lib.hid (W3.out.put hfr (by simp; have h_ := FP3.out.lo; omega) hs); have GQ4 := Lib.hid (GQ3.out.keep hfr (by simp; have h_ := PQ.out.1; have h2_ := FP3.out.lo; omega)); have TF1 := hx_; clear hf hfr hs hC1 TF0 hx_))
    | (go_at_call 53; have hx_ := TN2; go_must (refine (num_any f3 [f4, f5, f6] j2 q w2.heap.size w6 GQ6.out FL3.out).mono ?_; rintro e w7 ⟨rfl, hg, hfr⟩; rw [HJ3.out] at hg; have GQ7 := Lib.hid hg; have FP7 := Lib.hid (FP6.out.keep hfr (by simp; exact .inr PQ.out.2.1)); have W7 := Lib.hid (W6.out.frm hfr (by simp; exact PQ.out.2.2)); obtain ⟨u0, u1, u2, c0, c1_, c2_⟩ := three_at W7.out.s (by rw [Z1.out]; decide); have hfz : ∀ i, w7.frozen? ⟨w.heap.size + 1, i, none⟩ = false := (fun i => frozen_row W7.out.s i); have W8 := Lib.hid (three_put (f1 := f1) (f2 := f2) (f3 := f3) W7.out); obtain ⟨C2, hC2⟩ : ∃ C2, C2 = ((C1.setIfInBounds 0 (.int .u64 (numV f1))).setIfInBounds 1 (.int .u64 (numV f2))).setIfInBounds 2 (.int .u64 (numV f3)) := ⟨_, rfl⟩; rw [← hC2] at W8; have HC2 := Lib.hid hC2; have Z2 : Hid (C2.size = 163) := (by show _ = _; rw [hC2]; simp; exact Z1.out); have FP8 := Lib.hid (FP7.out.keep W8.out.2 (by simp)); have GQ8 := Lib.hid (GQ7.out.keep W8.out.2 (by simp; exact .inl SW.out)); clear hC2; have TN3 := hx_; clear hg hfr TN2 hx_))
    | (go_at_call 53; have hx_ := TN1; go_must (refine (num_any f2 [f3, f4, f5, f6] j1 q w2.heap.size w5 GQ5.out FL2.out).mono ?_; rintro e w6 ⟨rfl, hg, hfr⟩; rw [HJ2.out] at hg; have GQ6 := Lib.hid hg; have FP6 := Lib.hid (FP5.out.keep hfr (by simp; exact .inr PQ.out.2.1)); have W6 := Lib.hid (W5.out.frm hfr (by simp; exact PQ.out.2.2)); have TN2 := hx_; clear hg hfr TN1 hx_))
    | (go_at_call 53; have hx_ := TN0; go_must (refine (num_any f1 [f2, f3, f4, f5, f6] i2 q w2.heap.size w4 GQ4.out FL1.out).mono ?_; rintro e w5 ⟨rfl, hg, hfr⟩; rw [HJ1.out] at hg; have GQ5 := Lib.hid hg; have FP5 := Lib.hid (FP4.out.keep hfr (by simp; exact .inr PQ.out.2.1)); have W5 := Lib.hid (W4.out.frm hfr (by simp; exact PQ.out.2.2)); have TN1 := hx_; clear hg hfr TN0 hx_))
    | (refine wpList_load_arr rfl _ _ rfl (w.heap.size + 1) 0 rfl C5 _ (by with_reducible exact range_row W11.out.s) Try.underlying47 rfl (by rw [Z5.out]; kernel_rfl) ?_)
    | (refine wpList_store_row rfl _ _ _ rfl w.heap.size C5 rfl rfl 47 Z (by with_reducible exact W11.out.t2) (by rw [Z5.out]; kernel_rfl) (by rw [Z5.out, HZz.out]) (by rw [root_written HL.out.1 HL.out.2.1 HL.out.2.2.1 HL.out.2.2.2 (by rw [HC1.out, HZ.out]) HC2.out HC3.out HC4.out HC5.out]; exact root_one) ?_))
  have hld := ret47r (heap_setRow (cs := C5) W11.out.t2) Z5.out
  refine bodyPost_ret (v := .tuple #[.agg C5, .int .i64 0]) (by simp [results, Try.results27, asAddr, hld]) rfl ⟨by rw [(root_yes HD.out).1, (root_yes HD.out).2, root_written HL.out.1 HL.out.2.1 HL.out.2.2.1 HL.out.2.2.2 (by rw [HC1.out, HZ.out]) HC2.out HC3.out HC4.out HC5.out], ?_⟩
  exact W11.out.below.trans ((Frm.setRow _ _ _).1.below W11.out.below.size (by simp))
end Go.Proofs.Ytbpgbihcihnieaa

namespace Go.Proofs.Ytbpgbihcihnieaa
open Go.RowKit
theorem fields_two (l word : List UInt8) : ∃ x y, (openV l word 2).getD (noFields 2) = [x, y] ∧ (∀ ls, openV l word 2 = some ls → ls = [x, y]) ∧ x.length ≤ 140737488355328 := by
  cases h : openV l word 2 with
  | none => exact ⟨[], [], rfl, by simp, by simp⟩
  | some ls =>
    obtain ⟨x, y, rfl⟩ := two_of (openV_length h)
    exact ⟨x, y, rfl, fun ms hm => (Option.some.inj hm).symm, openV_le h x (by simp)⟩
theorem fields_six (l word : List UInt8) : ∃ a b c d e f, (openV l word 6).getD (noFields 6) = [a, b, c, d, e, f] ∧ (∀ ls, openV l word 6 = some ls → ls = [a, b, c, d, e, f]) ∧ (a.length ≤ 140737488355328 ∧ b.length ≤ 140737488355328 ∧ c.length ≤ 140737488355328) := by
  cases h : openV l word 6 with
  | none => exact ⟨[], [], [], [], [], [], rfl, by simp, by simp⟩
  | some ls =>
    obtain ⟨a, b, c, d, e, f, rfl⟩ := six_of (openV_length h)
    exact ⟨a, b, c, d, e, f, rfl, fun ms hm => (Option.some.inj hm).symm, openV_le h a (by simp), openV_le h b (by simp), openV_le h c (by simp)⟩
theorem six_bad : ∀ a b c d e f : Bool, (a && b && c && d && e && f) = false → ((((((false || !a) || !b) || !c) || !d) || !e) || !f) = true := by decide
theorem DecodeRoot_any (A : Option Addr) (c : Nat) (b : List UInt8) (w : World) (hr : Reads w w.heap.size 1 A b.length (bvs b)) (hc : b.length ≤ c) (hm : b.length ≤ 140737488355328) : Calls Try.prog 27 #[.slice A b.length c] w (RootPost b w) := by
  obtain ⟨x, y, e1, s1, xl⟩ := fields_two b signedW
  obtain ⟨f1, f2, f3, f4, f5, f6, e2, s2, fl⟩ := fields_six x rootW
  by_cases hF : ((!(openV b signedW 2).isSome) || !decide (y.length = 64)) = true
  · refine wDR_f A c b w hr hc hm x y f1 f2 f3 f4 f5 f6 _ _ _ _ _ _ _ _ ⟨e1, rfl⟩ ⟨e2, rfl⟩ xl fl rfl rfl rfl rfl rfl rfl ?_ hF
    cases h : openV b signedW 2 with
    | none => exact rootD_a h
    | some ls =>
      obtain rfl := s1 ls h
      rw [h] at hF
      exact rootD_b h (by simpa using hF)
  · have hF' : ((!(openV b signedW 2).isSome) || !decide (y.length = 64)) = false := by
      cases hq : ((!(openV b signedW 2).isSome) || !decide (y.length = 64)) with
      | true => exact absurd hq hF
      | false => rfl
    have hO : openV b signedW 2 = some [x, y] ∧ y.length = 64 := by
      cases h : openV b signedW 2 with
      | none => rw [h] at hF'; simp at hF'
      | some ls =>
        obtain rfl := s1 ls h
        rw [h] at hF'
        exact ⟨rfl, by simpa using hF'⟩
    obtain ⟨hO1, hy⟩ := hO
    cases h2 : openV x rootW 6 with
    | none =>
      exact wDR_g A c b w hr hc hm x y f1 f2 f3 f4 f5 f6 _ _ _ _ _ _ _ ⟨e1, rfl⟩ ⟨e2, rfl⟩ xl fl rfl rfl rfl rfl rfl (by rw [h2]; simp) (rootD_c hO1 h2) hF'
    | some ms =>
      obtain rfl := s2 ms h2
      cases hi : innerOK f1 f2 f3 f4 f5 f6 with
      | true =>
        have hI := hi
        simp only [innerOK, Bool.and_eq_true, decide_eq_true_eq] at hI
        obtain ⟨⟨⟨⟨⟨l1, l2⟩, l3⟩, l4⟩, l5⟩, l6⟩ := hI
        exact wDR_ok A c b w hr hc hm x y f1 f2 f3 f4 f5 f6 _ _ _ _ _ _ _ ⟨e1, rfl⟩ ⟨e2, rfl⟩ xl fl rfl rfl rfl rfl rfl (by rw [h2]; simp [l1, l2, l3, l4, l5, l6]) (rootD_d hO1 hy h2 hi) hF' hy l4 l5 l6
      | false =>
        refine wDR_g A c b w hr hc hm x y f1 f2 f3 f4 f5 f6 _ _ _ _ _ _ _ ⟨e1, rfl⟩ ⟨e2, rfl⟩ xl fl rfl rfl rfl rfl rfl ?_ (rootD_e hO1 h2 hi) hF'
        rw [h2]
        exact six_bad _ _ _ _ _ _ hi
end Go.Proofs.Ytbpgbihcihnieaa

namespace Go.Proofs.Ytbpgbihcihnieaa
open Go.RowKit
theorem part8 (xs : Array Value) (i : Nat) (v : Value) (w : World) (h : xs[i]? = some v) : (part 5 xs i).run Try.prog w = .ok v w := by
  have h1 : (isAgg 5).run Try.prog w = .ok false w := by kernel_rfl
  simp [part, Sem.run_bind, h1, h]
theorem eq8 (d : Nat) (a b : UInt8) (w : World) : (Op.equalIn (d + 1) 5 (bv a) (bv b)).run Try.prog w = .ok (a == b) w := by
  unfold bv
  rw [run_equalIn_int w d _ _ _ _ _ Try.underlying5]
  congr 1
  rw [Bool.eq_iff_iff, beq_iff_eq, beq_iff_eq, Int.ofNat_inj]
  exact UInt8.toNat_inj
theorem eqRange {xs ys : List UInt8} (d : Nat) (w : World) (hl : xs.length = ys.length) : ∀ (n k : Nat), k + n = xs.length →
    (forIn (List.range' k n 1) ((none : Option Bool), ()) (fun i (_ : Option Bool × Unit) => do
      if !(← Op.equalIn (d + 1) 5 (← part 5 (bvs xs).toArray (i * 1)) (← part 5 (bvs ys).toArray (i * 1))) then pure (ForInStep.done (some false, ())) else pure (ForInStep.yield (none, ())))).run Try.prog w =
      .ok (if xs.drop k = ys.drop k then none else some false, ()) w := by
  intro n
  induction n with
  | zero =>
    intro k hk
    rw [List.drop_eq_nil_of_le (by omega), List.drop_eq_nil_of_le (by omega)]
    simp
  | succ n ih =>
    intro k hk
    have hx : k < xs.length := by omega
    have hy : k < ys.length := by omega
    rw [List.range'_succ, List.forIn_cons]
    simp only [Sem.run_bind, Nat.mul_one]
    rw [part8 _ k (bv xs[k]) w (by simp [bvs, hx])]
    simp only [Result.andThen_ok]
    rw [part8 _ k (bv ys[k]) w (by simp [bvs, hy])]
    simp only [Result.andThen_ok, eq8]
    rw [List.drop_eq_getElem_cons hx, List.drop_eq_getElem_cons hy]
    by_cases he : xs[k] = ys[k]
    · rw [he]
      simp only [beq_self_eq_true, Bool.not_true, Bool.false_eq_true, if_false, Sem.run_pure, Result.andThen_ok]
      have h1 := ih (k + 1) (by omega)
      simp only [Nat.mul_one] at h1
      rw [h1]
      simp [-List.getElem_cons_drop]
    · simp [he, -List.getElem_cons_drop]
theorem eq32 (d : Nat) (x y : List UInt8) (hx : x.length = 32) (hy : y.length = 32) (w : World) :
    (Op.equalIn (d + 2) 44 (.agg (bvs x).toArray) (.agg (bvs y).toArray)).run Try.prog w = .ok (x == y) w := by
  have hs : (sizeOf 5).run Try.prog w = .ok 1 w := by kernel_rfl
  have h1 := eqRange (xs := x) (ys := y) d w (by omega) 32 0 (by omega)
  rw [Op.equalIn]
  simp only [Sem.run_bind, run_underlying Try.underlying44, Result.andThen_ok, hs]
  simp only [Std.Legacy.Range.forIn_eq_forIn_range', Std.Legacy.Range.size, Nat.sub_zero, Nat.add_sub_cancel, Nat.div_one]
  refine (congrArg (fun r => Result.andThen r _) h1).trans ?_
  simp only [Result.andThen_ok, List.drop_zero]
  by_cases he : x = y
  · rw [if_pos he]; simp [he]
  · rw [if_neg he]; simp [he]
theorem bin32 (x y : List UInt8) (hx : x.length = 32) (hy : y.length = 32) (w : World) :
    (binOp .eql 44 (.agg (bvs x).toArray) (.agg (bvs y).toArray)).run Try.prog w = .ok (.bool (x == y)) w := by
  rw [run_eql_struct, eq32 9998 x y hx hy w]
  rfl
theorem bin32n (x y : List UInt8) (hx : x.length = 32) (hy : y.length = 32) (w : World) :
    (binOp .neq 44 (.agg (bvs x).toArray) (.agg (bvs y).toArray)).run Try.prog w = .ok (.bool (x != y)) w := by
  rw [run_neq_struct, eq32 9998 x y hx hy w]
  rfl
end Go.Proofs.Ytbpgbihcihnieaa

namespace Go.Proofs.Ytbpgbihcihnieaa
open Go.RowKit
theorem eq64 (d : Nat) (x y : List UInt8) (hx : x.length = 64) (hy : y.length = 64) (w : World) :
    (Op.equalIn (d + 2) 45 (.agg (bvs x).toArray) (.agg (bvs y).toArray)).run Try.prog w = .ok (x == y) w := by
  have hs : (sizeOf 5).run Try.prog w = .ok 1 w := by kernel_rfl
  have h1 := eqRange (xs := x) (ys := y) d w (by omega) 64 0 (by omega)
  rw [Op.equalIn]
  simp only [Sem.run_bind, run_underlying Try.underlying45, Result.andThen_ok, hs]
  simp only [Std.Legacy.Range.forIn_eq_forIn_range', Std.Legacy.Range.size, Nat.sub_zero, Nat.add_sub_cancel, Nat.div_one]
  refine (congrArg (fun r => Result.andThen r _) h1).trans ?_
  simp only [Result.andThen_ok, List.drop_zero]
  by_cases he : x = y
  · rw [if_pos he]; simp [he]
  · rw [if_neg he]; simp [he]
end Go.Proofs.Ytbpgbihcihnieaa

namespace Go.Proofs.Ytbpgbihcihnieaa
open Go.RowKit
theorem AnyC.narrow {P : Program} {ops : Array Oper} {C C' : World → Prop} {Q : Act → World → Prop} {fuel : Nat} {listed : Array Bool} {a : Act} {w : World} (hC : ∀ w, C' w → C w) (h : AnyC P ops C' Q fuel listed a w) : AnyC P ops C Q fuel listed a w :=
  fun hD => ⟨hC _ (h hD).1, anyZ_mono _ _ _ _ (fun _ w hw => hC w hw) (h hD).2⟩
theorem eqFields_same (d : Nat) (xs : Array Value) (w : World) : ∀ fs : List Field, (∀ p ∈ fs.map (fun f => (f.name, f.type, f.offset)), p.1 ≠ "_" ∧ ∃ v, (part p.2.1 xs p.2.2).run Try.prog w = .ok v w ∧ (Op.equalIn d p.2.1 v v).run Try.prog w = .ok true w) → (Op.eqFields d xs xs fs).run Try.prog w = .ok true w
  | [], _ => by simp [Op.eqFields]
  | f :: fs, h => by
    obtain ⟨h1, v, h2, h3⟩ := h (f.name, f.type, f.offset) (by simp)
    have ih := eqFields_same d xs w fs (fun p hp => h p (by simp only [List.map_cons, List.mem_cons]; exact .inr hp))
    unfold Op.eqFields
    rw [if_pos h1]
    simp only [Sem.run_bind, h2, Result.andThen_ok, h3, Bool.not_true, Bool.false_eq_true, if_false]
    exact ih
theorem part64 (xs : Array Value) (i : Nat) (v : Value) (w : World) (h : xs[i]? = some v) : (part 34 xs i).run Try.prog w = .ok v w := by
  have h1 : (isAgg 34).run Try.prog w = .ok false w := by kernel_rfl
  simp [part, Sem.run_bind, h1, h]
theorem partRow (n : Nat) (t : TypeId) (xs : Array Value) (i : Nat) (l : List UInt8) (w : World) (h1 : (isAgg t).run Try.prog w = .ok true w) (h2 : (sizeOf t).run Try.prog w = .ok n w) (h : xs.extract i (i + n) = (bvs l).toArray) : (part t xs i).run Try.prog w = .ok (.agg (bvs l).toArray) w := by
  simp [part, Sem.run_bind, h1, h2, h]
theorem extract_seg {cs : Array Value} {pre mid post : List Value} {i n : Nat} (h : cs = (pre ++ (mid ++ post)).toArray) (h1 : pre.length = i) (h2 : mid.length = n) : cs.extract i (i + n) = mid.toArray := by
  subst h h1 h2
  apply Array.ext'
  simp
theorem root_fields : ((Try.prog).fieldsOf 47).toList.map (fun f => (f.name, f.type, f.offset)) = [("Epoch", 34, 0), ("Kind", 34, 1), ("Gen", 34, 2), ("Prev", 44, 3), ("Hash", 44, 35), ("Link", 44, 67), ("Sig", 45, 99)] := by kernel_rfl
theorem eq_root {r : RootV} (hr : r.ok) (w : World) : (Op.equalIn 10000 47 (.agg r.cs) (.agg r.cs)).run Try.prog w = .ok true w := by
  rw [run_equalIn_struct w 9999 47 r.cs r.cs (by kernel_rfl) (by kernel_rfl)]
  refine eqFields_same 9999 r.cs w _ ?_
  rw [root_fields]
  have a32 : (isAgg 44).run Try.prog w = .ok true w := by kernel_rfl
  have s32 : (sizeOf 44).run Try.prog w = .ok 32 w := by kernel_rfl
  have a64 : (isAgg 45).run Try.prog w = .ok true w := by kernel_rfl
  have s64 : (sizeOf 45).run Try.prog w = .ok 64 w := by kernel_rfl
  have eu : ∀ n : Nat, (Op.equalIn 9999 34 (.int .u64 (n : Int)) (.int .u64 (n : Int))).run Try.prog w = .ok true w := fun n => by
    rw [run_equalIn_int w 9998 _ _ _ _ _ Try.underlying34]; simp
  have e32 : ∀ l : List UInt8, l.length = 32 → (Op.equalIn 9999 44 (.agg (bvs l).toArray) (.agg (bvs l).toArray)).run Try.prog w = .ok true w := fun l hl => by
    rw [eq32 9997 l l hl hl w]; simp
  have e64 : ∀ l : List UInt8, l.length = 64 → (Op.equalIn 9999 45 (.agg (bvs l).toArray) (.agg (bvs l).toArray)).run Try.prog w = .ok true w := fun l hl => by
    rw [eq64 9997 l l hl hl w]; simp
  have p3 : r.cs.extract 3 (3 + 32) = (bvs r.p).toArray := extract_seg (pre := [.int .u64 r.e, .int .u64 r.k, .int .u64 r.g]) (post := bvs r.h ++ (bvs r.l ++ bvs r.s)) rfl rfl (by rw [bvs_length, hr.p])
  have p35 : r.cs.extract 35 (35 + 32) = (bvs r.h).toArray := extract_seg (pre := [.int .u64 r.e, .int .u64 r.k, .int .u64 r.g] ++ bvs r.p) (post := bvs r.l ++ bvs r.s) (by rw [List.append_assoc]; rfl) (by rw [List.length_append, bvs_length, hr.p]; rfl) (by rw [bvs_length, hr.h])
  have p67 : r.cs.extract 67 (67 + 32) = (bvs r.l).toArray := extract_seg (pre := [.int .u64 r.e, .int .u64 r.k, .int .u64 r.g] ++ (bvs r.p ++ bvs r.h)) (post := bvs r.s) (by simp [RootV.cs, RootV.vs]) (by rw [List.length_append, List.length_append, bvs_length, bvs_length, hr.p, hr.h]; rfl) (by rw [bvs_length, hr.l])
  have p99 : r.cs.extract 99 (99 + 64) = (bvs r.s).toArray := extract_seg (pre := [.int .u64 r.e, .int .u64 r.k, .int .u64 r.g] ++ (bvs r.p ++ (bvs r.h ++ bvs r.l))) (post := []) (by simp [RootV.cs, RootV.vs]) (by rw [List.length_append, List.length_append, List.length_append, bvs_length, bvs_length, bvs_length, hr.p, hr.h, hr.l]; rfl) (by rw [bvs_length, hr.s])
  intro p hp
  simp only [List.mem_cons, List.not_mem_nil, or_false] at hp
  rcases hp with rfl | rfl | rfl | rfl | rfl | rfl | rfl
  · exact ⟨by decide, _, part64 r.cs 0 _ w rfl, eu r.e⟩
  · exact ⟨by decide, _, part64 r.cs 1 _ w rfl, eu r.k⟩
  · exact ⟨by decide, _, part64 r.cs 2 _ w rfl, eu r.g⟩
  · exact ⟨by decide, _, partRow 32 _ r.cs 3 r.p w a32 s32 p3, e32 r.p hr.p⟩
  · exact ⟨by decide, _, partRow 32 _ r.cs 35 r.h w a32 s32 p35, e32 r.h hr.h⟩
  · exact ⟨by decide, _, partRow 32 _ r.cs 67 r.l w a32 s32 p67, e32 r.l hr.l⟩
  · exact ⟨by decide, _, partRow 64 _ r.cs 99 r.s w a64 s64 p99, e64 r.s hr.s⟩
end Go.Proofs.Ytbpgbihcihnieaa
