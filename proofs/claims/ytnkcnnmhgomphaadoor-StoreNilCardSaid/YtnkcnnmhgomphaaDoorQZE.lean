/- The texts Z10 of this work, merged by wip/merge.py. No conditions. -/
import Derived.Test.YtnkcnnmhgomphaaDoorQZC
namespace Go.Proofs.YtnkcnnmhgomphaaDoor
open Go.RowKit
theorem mod_pad (n : Nat) (a : Int) (h : (n : Int) % 64 = a) : (119 - a) % 64 + 1 = (padN n : Int) ∧ 1 + (119 - a) % 64 = (padN n : Int) := by
  unfold padN
  omega
theorem st_agg {w : World} {g : Nat} {t : TypeId} {R : R8} {cur : Array Value} (h : ST w g t cur R) : w.rangeAt g 0 #[Value.int .u32 R.a, .int .u32 R.c, .int .u32 R.d, .int .u32 R.e, .int .u32 R.f, .int .u32 R.g, .int .u32 R.i, .int .u32 R.j].toList := by
  intro j v hv
  rw [Nat.zero_add]
  match j, hv with
  | 0, hv => simp at hv; subst hv; exact h.cell 0 _ rfl
  | 1, hv => simp at hv; subst hv; exact h.cell 1 _ rfl
  | 2, hv => simp at hv; subst hv; exact h.cell 2 _ rfl
  | 3, hv => simp at hv; subst hv; exact h.cell 3 _ rfl
  | 4, hv => simp at hv; subst hv; exact h.cell 4 _ rfl
  | 5, hv => simp at hv; subst hv; exact h.cell 5 _ rfl
  | 6, hv => simp at hv; subst hv; exact h.cell 6 _ rfl
  | 7, hv => simp at hv; subst hv; exact h.cell 7 _ rfl
  | n + 8, hv => simp at hv
theorem Hs.st {w : World} {g : Nat} {K : List Int} {m : List UInt8} (h : Hs w g K m) : ∃ cur, ST w g 122 cur (stF K m) := by
  obtain ⟨buf, hb, _, hc⟩ := h
  exact ⟨_, hsC_st hc hb⟩
theorem ret32 {wr : World} {b : Nat} {cs : Array Value} {t : TypeId} (h : wr.heap[b]? = some (.cells cs t (0, 0))) (hs : cs.size = 32) :
    (loadVar 90 ⟨b, 0, none⟩).run Tryd.prog wr = .ok (.agg cs) wr := by
  have h1 := run_loadVar_mid (P := Tryd.prog) wr b 0 90 cs.toList _ (range_row h) Tryd.underlying90 rfl (by rw [Array.length_toList, hs]; kernel_rfl)
  rw [Array.toArray_toList] at h1
  exact h1
theorem padL_read {w : World} {g : Nat} {n : Nat} (h : w.heap[g]? = some (.cells (overL (bvs (128 :: List.replicate 71 0)).toArray (padN n) (appB (8 * (n : Int)) 8 8)) 5 (0, 0))) : Reads w w.heap.size 1 (some ⟨g, 0, none⟩) (padN n + 8) (bvs (padF n)) := by
  refine ⟨by rw [bvs_length, padF_len]; omega, fun _ => ⟨_, rfl, lt_heap h, fun j u hu => ?_⟩⟩
  rw [add_none, cell_of_row w g (0 + j) _ _ _ h, Nat.zero_add]
  unfold overL
  rw [List.getElem?_toArray, List.toList_toArray]
  have e : bvs (padF n) = (bvs (128 :: List.replicate 71 0)).take (padN n) ++ bvs (appB (8 * (n : Int)) 8 8) := by
    unfold padF; rw [bvs_append]; simp [bvs, List.map_take]
  rw [e] at hu
  rw [List.getElem?_append_left (List.getElem?_eq_some_iff.1 hu).1]
  exact hu
theorem stF_range (K : List Int) (m : List UInt8) {j : Nat} {v : Int} (h : (stF K m).l[j]? = some v) : 0 ≤ v ∧ v < 4294967296 := by
  have hm : v ∈ (stF K m).l := List.mem_of_getElem? h
  unfold stF at hm
  cases hn : m.length / 64 with
  | zero =>
    rw [hn] at hm
    simp only [stN, z8, R8.l, List.mem_cons, List.not_mem_nil, or_false] at hm
    omega
  | succ i =>
    rw [hn] at hm
    simp only [stN, blockF, addR, R8.l, List.mem_cons, List.not_mem_nil, or_false] at hm
    omega
theorem overL_all (cs : Array Value) (l : List UInt8) (h : cs.size = l.length) : overL cs 0 l = (bvs l).toArray := by
  unfold overL
  rw [List.drop_of_length_le (by simp; omega)]
  simp
set_option maxRecDepth 100000 in
set_option maxHeartbeats 2000000 in
theorem Sum_any (g : Nat) (K : List Int) (m : List UInt8) (w : World) (hh : Hs w g K m) (hkt : KT w K) (hl : m.length ≤ 1125899906842624) : Calls Tryd.prog 54 #[.pointer (some ⟨g, 0, none⟩)] w (SumPost (sumF K m) w) := by
  obtain ⟨zs, hzs⟩ : ∃ zs : Array Value, zs = (bvs (List.replicate 32 0)).toArray := ⟨_, rfl⟩
  have hz32 := zero32
  rw [← hzs] at hz32
  obtain ⟨ys, hys⟩ : ∃ ys : Array Value, ys = hsC ⟨0, 0, 0, 0, 0, 0, 0, 0⟩ (List.replicate 64 0) 0 := ⟨_, rfl⟩
  have hz73 := zero73
  rw [← hys] at hz73
  have hyz : Hid (ys.size = 73) := by show _ = _; rw [hys]; rfl
  have hzz : Hid (zs.size = 32) := by show _ = _; rw [hzs]; rfl
  obtain ⟨buf, hb, htl, hrow⟩ := hh
  obtain ⟨nI, hnI⟩ : ∃ nI : Int, nI = (m.length : Int) := ⟨_, rfl⟩
  rw [← hnI] at hrow
  obtain ⟨CS, hCS⟩ : ∃ CS, CS = hsC (stF K m) buf nI := ⟨_, rfl⟩
  rw [← hCS] at hrow
  have hcz : Hid (CS.size = 73) := by show _ = _; rw [hCS]; exact hsC_size _ _ _ hb
  have hc1 : Hid (CS.all (·.oneCell') = true) := by
    show _ = _
    rw [hCS]
    unfold hsC
    refine all_oneCell_toArray fun u hu => ?_
    rcases List.mem_append.1 hu with hu | hu
    · rcases List.mem_append.1 hu with hu | hu
      · simp only [w32s, List.mem_map] at hu
        obtain ⟨_, _, rfl⟩ := hu; rfl
      · exact bvs_one _ u hu
    · simp at hu; subst hu; rfl
  have HY : Hid ((((w.alloc (.cells zs 90)).alloc (.cells zs 90)).alloc (.cells ys 122)).heap[w.heap.size + 1 + 1]? = some (.cells ys 122 (0, 0))) := by
    show _ = _
    have h_ := heap_alloc_new ((w.alloc (.cells zs 90)).alloc (.cells zs 90)) (.cells ys 122)
    rw [show ((w.alloc (.cells zs 90)).alloc (.cells zs 90)).heap.size = w.heap.size + 1 + 1 from by simp] at h_
    exact h_
  have B0 : Below w.heap.size w ((w.alloc (.cells zs 90)).alloc (.cells zs 90)) := ((Below.refl _ _).alloc (Nat.le_refl _) _).alloc (by simp) _
  obtain ⟨w2, hw2⟩ : ∃ w2, (((w.alloc (.cells zs 90)).alloc (.cells zs 90)).alloc (.cells ys 122)).setRow (w.heap.size + 1 + 1) CS = w2 := ⟨_, rfl⟩
  have B2 : Hid (Below w.heap.size w w2) := by
    show Below _ _ _
    rw [← hw2]
    exact (B0.alloc (by simp; omega) _).trans ((Frm.setRow _ _ _).1.below (by simp; omega) (by simp; omega))
  have R2 : Hid (w2.heap[w.heap.size]? = some (.cells zs 90 (0, 0)) ∧ w2.heap[w.heap.size + 1]? = some (.cells zs 90 (0, 0)) ∧ w2.heap[w.heap.size + 1 + 1]? = some (.cells CS 122 (0, 0)) ∧ w2.heap.size = w.heap.size + 3) := by
    show _ ∧ _
    have hf := (Frm.setRow (((w.alloc (.cells zs 90)).alloc (.cells zs 90)).alloc (.cells ys 122)) (w.heap.size + 1 + 1) CS)
    rw [hw2] at hf
    refine ⟨hf.1.heap ?_ (by simp; omega), hf.1.heap ?_ (by simp), ?_, by rw [hf.2]; simp⟩
    · rw [Below.heap_alloc _ _ _ (by simp; omega), Below.heap_alloc _ _ _ (by simp)]; exact heap_alloc_new w _
    · rw [Below.heap_alloc _ _ _ (by simp)]
      have h_ := heap_alloc_new (w.alloc (.cells zs 90)) (.cells zs 90)
      rw [show (w.alloc (.cells zs 90)).heap.size = w.heap.size + 1 from by simp] at h_
      exact h_
    · rw [← hw2]; exact heap_setRow HY.out
  have HROW := Lib.hid hrow
  have G1 := Lib.hid (heap_below hrow B0)
  have G2 := Lib.hid (heap_below hrow B2.out)
  have HKT := Lib.hid hkt
  have HB := Lib.hid hb
  have HTL := Lib.hid htl
  have HC := Lib.hid hCS
  have HN := Lib.hid hnI
  have HZ := Lib.hid hzs
  have n0 : (0 : Int) ≤ nI := by omega
  have n1 : nI ≤ 1125899906842624 := by omega
  have c72 : w2.cell? ⟨g, 72, none⟩ = some (.int .u64 nI) := by have h_ := G2.out; rw [hCS] at h_; exact hsC_num h_ hb
  obtain ⟨a, ha⟩ : ∃ a : Int, nI % 64 = a := ⟨_, rfl⟩
  have ha0 : 0 ≤ a := by omega
  have ha1 : a < 64 := by omega
  obtain ⟨P, hP⟩ : ∃ P, P = padN m.length := ⟨_, rfl⟩
  have hPP := mod_pad m.length a (by rw [← hnI]; exact ha)
  rw [← hP] at hPP
  have HP := Lib.hid hP
  have hpl := padN_le m.length
  rw [← hP] at hpl
  have hmk := make72 P (by omega)
  obtain ⟨PZ, hPZ⟩ : ∃ PZ : Array Value, PZ = (bvs (List.replicate 72 0)).toArray := ⟨_, rfl⟩
  obtain ⟨PC, hPC⟩ : ∃ PC : Array Value, PC = (bvs (128 :: List.replicate 71 0)).toArray := ⟨_, rfl⟩
  have hset : PZ.setIfInBounds 0 (.int .u8 128) = PC := by rw [hPZ, hPC]; rfl
  have hp0 : PZ[0]? = some (.int .u8 0) := by rw [hPZ]; rfl
  have hpz : PZ.size = 72 := by rw [hPZ]; rfl
  rw [← hPZ] at hmk
  have HPC := Lib.hid hPC
  clear hPZ hPC
  have hgl := lt_heap G2.out
  have d72 : ∀ o, (w2.alloc o).cell? ⟨g, 72, none⟩ = some (.int .u64 nI) := fun o => (World.cell?_alloc_lt w2 o ⟨g, 72, none⟩ hgl).trans c72
  have hp1 : (1 : Int) ≤ (P : Int) := by omega
  have hp2 : (P : Int) ≤ 64 := by omega
  have e1 := hPP.1
  have e2 := hPP.2
  have HM := Lib.hid hl
  clear hzs hys hb htl hrow hnI hCS hkt hP hPP hpl hl B0
  go_enter Tryd.func54, Tryd.ntmps54
  have gC : Hid (w.heap.size + 1 + 1 < w2.heap.size ∧ w.heap.size + 1 + 1 ≠ 0) := by show _ ∧ _; have := R2.out.2.2.2; omega
  have HSIZE : Hid (∀ w3 : World, RowIn (w2.alloc (.cells PC 5)) w2.heap.size 5 (overL PC P (appB (nI * 8) 8 8)) w3 → Frm [w2.heap.size] w2 w3 ∧ Hs w3 (w.heap.size + 1 + 1) K m ∧ KT w3 K ∧ Reads w3 w3.heap.size 1 (some ⟨w2.heap.size, 0, none⟩) (P + 8) (bvs (padF m.length))) := by
    show ∀ _, _
    intro w3 h3
    have hf : Frm [w2.heap.size] w2 w3 := by
      refine ⟨h3.2.os, h3.2.tape, h3.2.output, Nat.le_trans (by simp) h3.2.size, fun k hk hn => ?_⟩
      rw [h3.2.block k (by simp; omega) (by simpa using hn)]
      exact heap_alloc_old w2 _ hk
    refine ⟨hf, ⟨buf, HB.out, HTL.out, ?_⟩, (HKT.out.bel B2.out).frm hf (by have := gC.out; simp; omega), ?_⟩
    · have h_ := R2.out.2.2.1
      rw [HC.out, HN.out] at h_
      exact hf.heap h_ (by have := gC.out.1; simp; omega)
    · have h_ := h3.1
      rw [HPC.out, HP.out, HN.out, Int.mul_comm] at h_
      have h2_ := padL_read h_
      rw [← HP.out] at h2_
      exact h2_
  have T0 : Hid True := trivial
  go_wp2_with (first
    | (refine wpList_load_arr rfl _ _ rfl g 0 rfl CS _ (by with_reducible exact range_row G1.out) Tryd.underlying122 rfl (by rw [hcz.out]; kernel_rfl) ?_)
    | (refine wpList_store_row rfl _ _ _ rfl (w.heap.size + 1 + 1) CS rfl rfl 122 ys (by with_reducible exact HY.out) (by rw [hcz.out]; kernel_rfl) (by rw [hyz.out, hcz.out]) hc1.out ?_; rw [hw2]; clear hw2)
    | (go_at_call 68; go_must (refine (appended8 w2.heap.size P 72 5 PC (nI * 8) _ (heap_alloc_new w2 _) (by omega) (by rw [HPC.out]; decide)).mono ?_; rintro e w3 ⟨rfl, h3⟩; have H3 := Lib.hid (HSIZE.out w3 h3); clear h3 d72 hset hp0 hpz))
    | (go_at_call 53; go_must (refine (HWrite_any (some ⟨w2.heap.size, 0, none⟩) (P + 8) 72 (w.heap.size + 1 + 1) K m (padF m.length) w3 H3.out.2.1 H3.out.2.2.1 gC.out.2 H3.out.2.2.2 (by omega) (by have h_ := gC.out; intro ad e; cases e; show w2.heap.size ≠ _; omega) (by have h_ := HM.out; rw [padF_len]; have h2_ := padN_le m.length; omega)).mono ?_; rintro e w4 ⟨rfl, hf4, hs4⟩; have H4 := Lib.hid (And.intro hf4 hs4); obtain ⟨cur4, hst4⟩ := hs4.st; have HST := Lib.hid hst4; clear hf4 hs4 hst4))
    | (have hx_ := HST; obtain ⟨R, hR⟩ : ∃ R, R = stF K (m ++ padF m.length) := ⟨_, rfl⟩; rw [← hR] at HST; have HR := Lib.hid hR; clear hR; refine wpList_load_arr rfl _ _ rfl (w.heap.size + 1 + 1) 0 rfl #[.int .u32 R.a, .int .u32 R.c, .int .u32 R.d, .int .u32 R.e, .int .u32 R.f, .int .u32 R.g, .int .u32 R.i, .int .u32 R.j] _ (by with_reducible exact st_agg HST.out) Tryd.underlying119 rfl (by kernel_rfl) ?_))
  clear hx_
  have HL : Hid (∀ (j : Nat) (v : Int), R.l[j]? = some v → 0 ≤ v ∧ v < 4294967296) := by
    show ∀ _, _
    intro j v h
    rw [HR.out] at h
    exact stF_range K _ h
  have W4 : Hid (Below w.heap.size w w4 ∧ w4.heap[w.heap.size]? = some (.cells zs 90 (0, 0)) ∧ w4.heap[w.heap.size + 1]? = some (.cells zs 90 (0, 0))) := by
    show _ ∧ _
    have hf3 := H3.out.1
    have hf4 := H4.out.1
    have hsz := R2.out.2.2.2
    refine ⟨(B2.out.trans (hf3.below (by omega) (by simp; omega))).trans (hf4.below (by have := hf3.size; omega) (by simp; omega)), hf4.heap (hf3.heap R2.out.1 (by simp; omega)) (by simp; omega), hf4.heap (hf3.heap R2.out.2.1 (by simp; omega)) (by simp)⟩
  go_loopw [35] (fun i wr => ∃ n : Nat, n ≤ 8 ∧ i = .int .i64 (n : Int) ∧ Hid (Frm [w.heap.size + 1] w4 wr ∧ wr.heap[w.heap.size + 1]? = some (.cells (overL zs 0 (outB R n)) 90 (0, 0)))) (fun i _ => 8 - (intOf i).toNat)
  case atStart => exact ⟨0, Nat.zero_le _, rfl, Frm.refl _ _, by rw [show outB R 0 = [] from rfl, overL_nil]; exact W4.out.2.2⟩
  case round =>
    obtain ⟨n, hn, rfl, hO⟩ := hrel
    by_cases hlt : n < 8
    · have hlt' : (n : Int) < 8 := by omega
      have hn0 : (0 : Int) ≤ (n : Int) := by omega
      obtain ⟨x, hx⟩ : ∃ x, R.l[n]? = some x := ⟨R.l[n]'(by rw [l_len]; exact hlt), List.getElem?_eq_getElem _⟩
      have hidx := run_index8s R n x hx
      have hsl : ∀ w_, (Instr.sliceAt 90 (.pointer (some ⟨w.heap.size + 1, 0, none⟩)) none (some (.int .i64 (4 * (n : Int)))) none).run Tryd.prog w_ = .ok (.slice (some ⟨w.heap.size + 1, 0, none⟩) (4 * n) 32) w_ := fun w_ => by
        have h_ := slH32 (w.heap.size + 1) 0 (4 * n) (by omega) w_
        rw [show ((4 * n : Nat) : Int) = 4 * (n : Int) from by omega] at h_
        exact h_
      have hx0 := (HL.out n x hx).1
      have hx1 := (HL.out n x hx).2
      have SN : Hid (overL (overL zs 0 (outB R n)) (4 * n) (appB x 4 4) = overL zs 0 (outB R (n + 1))) := by
        show _ = _
        have h_ := overL_snoc zs 0 (outB R n) (appB x 4 4) (by rw [outB_len R n (by omega), appB_len, hzz.out]; omega)
        rw [outB_len R n (by omega), Nat.zero_add] at h_
        rw [h_, outB_succ hx]
      have HSZ : Hid ((overL zs 0 (outB R n)).size = 32) := by show _ = _; rw [overL_size _ _ _ (by rw [outB_len R n (by omega), hzz.out]; omega), hzz.out]
      have HO := Lib.hid hO.out
      have HN := Lib.hid hlt
      clear hO hx hlt hn
      go_wp2_with (go_at_call 68; go_must (refine (appended4 (w.heap.size + 1) (4 * n) 32 90 (overL zs 0 (outB R n)) x wr HO.out.2 (by have := HN.out; omega) (by rw [HSZ.out]; omega)).mono ?_; rintro e w5 ⟨rfl, h5⟩; have H5 := Lib.hid h5; clear h5))
      go_roundw
      case rel =>
        refine ⟨n + 1, HN.out, by go_num, HO.out.1.trans ⟨H5.out.2.os, H5.out.2.tape, H5.out.2.output, H5.out.2.size, fun k hk hn_ => H5.out.2.block k hk (by simpa using hn_)⟩, ?_⟩
        rw [← SN.out]
        exact H5.out.1
      case measure => simp [intOf]; omega
    · have hn8 : n = 8 := by omega
      have hd9 : decide ((n : Int) < 8) = false := by simp; omega
      obtain ⟨OUT, hOUT⟩ : ∃ OUT, OUT = (bvs (sumF K m)).toArray := ⟨_, rfl⟩
      have HO : Hid (Frm [w.heap.size + 1] w4 wr ∧ wr.heap[w.heap.size + 1]? = some (.cells OUT 90 (0, 0)) ∧ wr.heap[w.heap.size]? = some (.cells zs 90 (0, 0))) := by
        show _ ∧ _
        refine ⟨hO.out.1, ?_, hO.out.1.heap W4.out.2.1 (by simp)⟩
        have h3 := hO.out.2
        rw [hn8, overL_all zs _ (by rw [hzz.out, outB_len R 8 (by omega)]), HR.out] at h3
        rw [hOUT]
        exact h3
      have HOZ : Hid (OUT.size = 32) := by show _ = _; rw [hOUT]; simp [bvs_length, sumF_len]
      have HO1 : Hid (OUT.all (·.oneCell') = true) := by show _ = _; rw [hOUT]; exact all_oneCell_toArray (bvs_one _)
      have HOUT := Lib.hid hOUT
      clear hO hlt hn hn8 hOUT
      go_wp2_with (first
        | (refine wpList_load_arr rfl _ _ rfl (w.heap.size + 1) 0 rfl OUT _ (by with_reducible exact range_row HO.out.2.1) Tryd.underlying90 rfl (by rw [HOZ.out]; kernel_rfl) ?_)
        | (refine wpList_store_row rfl _ _ _ rfl w.heap.size OUT rfl rfl 90 zs (by with_reducible exact HO.out.2.2) (by rw [HOZ.out]; kernel_rfl) (by rw [hzz.out, HOZ.out]) HO1.out ?_))
      have hld := ret32 (heap_setRow (cs := OUT) HO.out.2.2) HOZ.out
      refine bodyPost_ret (v := .agg OUT) (by simp [results, Tryd.results54, asAddr, Act.put, hld]) rfl ⟨by rw [HOUT.out], ?_⟩
      exact (W4.out.1.trans (HO.out.1.below W4.out.1.size (by simp))).trans ((Frm.setRow _ _ _).1.below (by have h_ := W4.out.1.size; have h2_ := HO.out.1.size; omega) (by simp))
end Go.Proofs.YtnkcnnmhgomphaaDoor
