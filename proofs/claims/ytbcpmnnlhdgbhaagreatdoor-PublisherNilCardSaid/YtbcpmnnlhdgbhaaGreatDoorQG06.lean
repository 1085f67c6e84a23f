/- The texts Z9 Z10 Q1 Q4 of this work, merged by wip/merge.py. No conditions. -/
import Derived.Test.YtbcpmnnlhdgbhaaGreatDoorQG05
import Derived.Test.YtbcpmnnlhdgbhaaGreatDoorQG00
import Derived.Test.YtbcpmnnlhdgbhaaGreatDoorQG04
namespace Go.Proofs.YtbcpmnnlhdgbhaaGreatDoor
open Go.RowKit
/-- What is written behind n bytes. -/
def padN (n : Nat) : Nat := 1 + (119 - n % 64) % 64
def padF (n : Nat) : List UInt8 := (128 :: List.replicate 71 0).take (padN n) ++ appB (8 * (n : Int)) 8 8
def outB (R : R8) (i : Nat) : List UInt8 := (R.l.take i).flatMap fun x => appB x 4 4
/-- SHA-256. -/
def sumF (K : List Int) (m : List UInt8) : List UInt8 := outB (stF K (m ++ padF m.length)) 8
theorem outB_succ {R : R8} {i : Nat} {x : Int} (h : R.l[i]? = some x) : outB R (i + 1) = outB R i ++ appB x 4 4 := by
  unfold outB
  rw [List.take_add_one, h]
  simp
theorem outB_len (R : R8) (i : Nat) (h : i ≤ 8) : (outB R i).length = 4 * i := by
  induction i with
  | zero => rfl
  | succ i ih =>
    rw [outB_succ (x := R.l[i]'(by rw [l_len]; omega)) (List.getElem?_eq_getElem _), List.length_append, ih (by omega), appB_len]
    omega
theorem sumF_len (K : List Int) (m : List UInt8) : (sumF K m).length = 32 := outB_len _ 8 (by omega)
theorem padN_le (n : Nat) : 1 ≤ padN n ∧ padN n ≤ 64 := by unfold padN; omega
theorem padF_len (n : Nat) : (padF n).length = padN n + 8 := by
  have := padN_le n
  unfold padF
  rw [List.length_append, List.length_take, appB_len]
  simp
  omega
def SumPost (y : List UInt8) (w : World) (e : Ending) (w' : World) : Prop := e = .returned (.agg (bvs y).toArray) ∧ Below w.heap.size w w'
theorem zeroZ32 : ∀ w, (zeroValue 31).run Tryz.prog w = .ok (.agg (bvs (List.replicate 32 0)).toArray) w := fun w => by kernel_rfl
theorem zero73 : ∀ w, (zeroValue 234).run Tryz.prog w = .ok (.agg (hsC ⟨0, 0, 0, 0, 0, 0, 0, 0⟩ (List.replicate 64 0) 0)) w := fun w => by kernel_rfl
theorem make72 (P : Nat) (hP : P ≤ 72) (w : World) : (Instr.makeSlice 96 (.int .u64 (P : Int)) (.int .i64 72)).run Tryz.prog w = .ok (.slice (some ⟨w.heap.size, 0, none⟩) P 72) (w.alloc (.cells (bvs (List.replicate 72 0)).toArray 5)) := by
  obtain ⟨i0, hi0, hz0, hz1, hz2⟩ := info_parts u8info
  have h1 := run_makeSlice (P := Tryz.prog) (w := w) 96 _ i0 _ Tryz.underlying96 hi0 hz0 .u64 .i64 (P : Int) (72 : Int) (by omega) (by omega) (by rw [hz1]; simp) (by rw [hz2]; omega) (by omega)
  rw [hz1] at h1
  have e : madeCells (Value.int .u8 0).cells (72 * 1) = (bvs (List.replicate 72 0)).toArray := by
    apply Array.ext_getElem?
    intro i
    rw [← Array.getElem?_toList, show (Value.int .u8 0).cells = #[.int .u8 0] from rfl, toList_madeCells_one]
    simp [bvs, bv]
  simpa [e] using h1
theorem run_index8s (R : R8) (k : Nat) (x : Int) (h : R.l[k]? = some x) (w : World) :
    (Instr.index 231 (.agg #[.int .u32 R.a, .int .u32 R.c, .int .u32 R.d, .int .u32 R.e, .int .u32 R.f, .int .u32 R.g, .int .u32 R.i, .int .u32 R.j]) (.int .i64 (k : Int))).run Tryz.prog w = .ok (.int .u32 x) w := by
  match k, h with
  | 0, h => simp [R8.l] at h; subst h; change _ = _; kernel_rfl
  | 1, h => simp [R8.l] at h; subst h; change _ = _; kernel_rfl
  | 2, h => simp [R8.l] at h; subst h; change _ = _; kernel_rfl
  | 3, h => simp [R8.l] at h; subst h; change _ = _; kernel_rfl
  | 4, h => simp [R8.l] at h; subst h; change _ = _; kernel_rfl
  | 5, h => simp [R8.l] at h; subst h; change _ = _; kernel_rfl
  | 6, h => simp [R8.l] at h; subst h; change _ = _; kernel_rfl
  | 7, h => simp [R8.l] at h; subst h; change _ = _; kernel_rfl
  | n + 8, h => simp [R8.l] at h
theorem slH32 (g o h : Nat) (hh : h ≤ 32) (w : World) : (Instr.sliceAt 31 (.pointer (some ⟨g, o, none⟩)) none (some (.int .i64 (h : Int))) none).run Tryz.prog w = .ok (.slice (some ⟨g, o, none⟩) h 32) w := by
  have e64 : Tryz.prog.arrayLen 31 = 32 := by kernel_rfl
  have h1 := run_sliceAt_array_h (P := Tryz.prog) w 31 ⟨g, o, none⟩ (by kernel_rfl) .i64 (h : Int) (by omega) (by rw [e64]; omega)
  have hs : (sizeOf (Tryz.prog.elem 31)).run Tryz.prog w = .ok 1 w := by kernel_rfl
  rw [h1, hs, Result.andThen_ok, e64]
  unfold slicedAt
  rw [if_neg (by omega), add_none, Nat.zero_mul, Nat.add_zero, Int.toNat_natCast]
  rfl
end Go.Proofs.YtbcpmnnlhdgbhaaGreatDoor

namespace Go.Proofs.YtbcpmnnlhdgbhaaGreatDoor
open Go.RowKit
theorem mod_pad (n : Nat) (a : Int) (h : (n : Int) % 64 = a) : (119 - a) % 64 + 1 = (padN n : Int) ∧ 1 + (119 - a) % 64 = (padN n : Int) := by
  unfold padN
  omega
theorem st_agg {w : World} {g : Nat} {t : TypeId} {R : R8} {cur : Array Value} (h : ST w g t cur R) : w.rangeAt g 0 #[Value.int .u32 R.a, .int .u32 R.c, .int .u32 R.d, .int .u32 R.e, .int .u32 R.f, .int .u32 R.g, .int .u32 R.i, .int .u32 R.j].toList := by
  intro j v hv
  rw [Nat.zero_add]
  match j, hv with
  | 0, hv => simp at hv; subst hv; exact h.cell 0 _ rfl
  | 1, hv => simp at hv; subst hv; exact h.cell 1 _ rfl
  | 2, hv => simp at hv; subst hv; exact h.cell 2 _ rfl
  | 3, hv => simp at hv; subst hv; exact h.cell 3 _ rfl
  | 4, hv => simp at hv; subst hv; exact h.cell 4 _ rfl
  | 5, hv => simp at hv; subst hv; exact h.cell 5 _ rfl
  | 6, hv => simp at hv; subst hv; exact h.cell 6 _ rfl
  | 7, hv => simp at hv; subst hv; exact h.cell 7 _ rfl
  | n + 8, hv => simp at hv
theorem Hs.st {w : World} {g : Nat} {K : List Int} {m : List UInt8} (h : Hs w g K m) : ∃ cur, ST w g 234 cur (stF K m) := by
  obtain ⟨buf, hb, _, hc⟩ := h
  exact ⟨_, hsC_st hc hb⟩
theorem retZ32 {wr : World} {b : Nat} {cs : Array Value} {t : TypeId} (h : wr.heap[b]? = some (.cells cs t (0, 0))) (hs : cs.size = 32) :
    (loadVar 31 ⟨b, 0, none⟩).run Tryz.prog wr = .ok (.agg cs) wr := by
  have h1 := run_loadVar_mid (P := Tryz.prog) wr b 0 31 cs.toList _ (range_row h) Tryz.underlying31 rfl (by rw [Array.length_toList, hs]; kernel_rfl)
  rw [Array.toArray_toList] at h1
  exact h1
theorem padL_read {w : World} {g : Nat} {n : Nat} (h : w.heap[g]? = some (.cells (overL (bvs (128 :: List.replicate 71 0)).toArray (padN n) (appB (8 * (n : Int)) 8 8)) 5 (0, 0))) : Reads w w.heap.size 1 (some ⟨g, 0, none⟩) (padN n + 8) (bvs (padF n)) := by
  refine ⟨by rw [bvs_length, padF_len]; omega, fun _ => ⟨_, rfl, lt_heap h, fun j u hu => ?_⟩⟩
  rw [add_none, cell_of_row w g (0 + j) _ _ _ h, Nat.zero_add]
  unfold overL
  rw [List.getElem?_toArray, List.toList_toArray]
  have e : bvs (padF n) = (bvs (128 :: List.replicate 71 0)).take (padN n) ++ bvs (appB (8 * (n : Int)) 8 8) := by
    unfold padF; rw [bvs_append]; simp [bvs, List.map_take]
  rw [e] at hu
  rw [List.getElem?_append_left (List.getElem?_eq_some_iff.1 hu).1]
  exact hu
theorem stF_range (K : List Int) (m : List UInt8) {j : Nat} {v : Int} (h : (stF K m).l[j]? = some v) : 0 ≤ v ∧ v < 4294967296 := by
  have hm : v ∈ (stF K m).l := List.mem_of_getElem? h
  unfold stF at hm
  cases hn : m.length / 64 with
  | zero =>
    rw [hn] at hm
    simp only [stN, z8, R8.l, List.mem_cons, List.not_mem_nil, or_false] at hm
    omega
  | succ i =>
    rw [hn] at hm
    simp only [stN, blockF, addR, R8.l, List.mem_cons, List.not_mem_nil, or_false] at hm
    omega
theorem overL_all (cs : Array Value) (l : List UInt8) (h : cs.size = l.length) : overL cs 0 l = (bvs l).toArray := by
  unfold overL
  rw [List.drop_of_length_le (by simp; omega)]
  simp
set_option maxRecDepth 100000 in
set_option maxHeartbeats 2000000 in
theorem Sum_any (g : Nat) (K : List Int) (m : List UInt8) (w : World) (hh : Hs w g K m) (hkt : KT w K) (hl : m.length ≤ 1125899906842624) : Calls Tryz.prog 98 #[.pointer (some ⟨g, 0, none⟩)] w (SumPost (sumF K m) w) := by
  obtain ⟨zs, hzs⟩ : ∃ zs : Array Value, zs = (bvs (List.replicate 32 0)).toArray := ⟨_, rfl⟩
  have hz32 := zeroZ32
  rw [← hzs] at hz32
  obtain ⟨ys, hys⟩ : ∃ ys : Array Value, ys = hsC ⟨0, 0, 0, 0, 0, 0, 0, 0⟩ (List.replicate 64 0) 0 := ⟨_, rfl⟩
  have hz73 := zero73
  rw [← hys] at hz73
  have hyz : Hid (ys.size = 73) := by show _ = _; rw [hys]; rfl
  have hzz : Hid (zs.size = 32) := by show _ = _; rw [hzs]; rfl
  obtain ⟨buf, hb, htl, hrow⟩ := hh
  obtain ⟨nI, hnI⟩ : ∃ nI : Int, nI = (m.length : Int) := ⟨_, rfl⟩
  rw [← hnI] at hrow
  obtain ⟨CS, hCS⟩ : ∃ CS, CS = hsC (stF K m) buf nI := ⟨_, rfl⟩
  rw [← hCS] at hrow
  have hcz : Hid (CS.size = 73) := by show _ = _; rw [hCS]; exact hsC_size _ _ _ hb
  have hc1 : Hid (CS.all (·.oneCell') = true) := by
    show _ = _
    rw [hCS]
    unfold hsC
    refine all_oneCell_toArray fun u hu => ?_
    rcases List.mem_append.1 hu with hu | hu
    · rcases List.mem_append.1 hu with hu | hu
      · simp only [w32s, List.mem_map] at hu
        obtain ⟨_, _, rfl⟩ := hu; rfl
      · exact bvs_one _ u hu
    · simp at hu; subst hu; rfl
  have HY : Hid ((((w.alloc (.cells zs 31)).alloc (.cells zs 31)).alloc (.cells ys 234)).heap[w.heap.size + 1 + 1]? = some (.cells ys 234 (0, 0))) := by
    show _ = _
    have h_ := heap_alloc_new ((w.alloc (.cells zs 31)).alloc (.cells zs 31)) (.cells ys 234)
    rw [show ((w.alloc (.cells zs 31)).alloc (.cells zs 31)).heap.size = w.heap.size + 1 + 1 from by simp] at h_
    exact h_
  have B0 : Below w.heap.size w ((w.alloc (.cells zs 31)).alloc (.cells zs 31)) := ((Below.refl _ _).alloc (Nat.le_refl _) _).alloc (by simp) _
  obtain ⟨w2, hw2⟩ : ∃ w2, (((w.alloc (.cells zs 31)).alloc (.cells zs 31)).alloc (.cells ys 234)).setRow (w.heap.size + 1 + 1) CS = w2 := ⟨_, rfl⟩
  have B2 : Hid (Below w.heap.size w w2) := by
    show Below _ _ _
    rw [← hw2]
    exact (B0.alloc (by simp; omega) _).trans ((Frm.setRow _ _ _).1.below (by simp; omega) (by simp; omega))
  have R2 : Hid (w2.heap[w.heap.size]? = some (.cells zs 31 (0, 0)) ∧ w2.heap[w.heap.size + 1]? = some (.cells zs 31 (0, 0)) ∧ w2.heap[w.heap.size + 1 + 1]? = some (.cells CS 234 (0, 0)) ∧ w2.heap.size = w.heap.size + 3) := by
    show _ ∧ _
    have hf := (Frm.setRow (((w.alloc (.cells zs 31)).alloc (.cells zs 31)).alloc (.cells ys 234)) (w.heap.size + 1 + 1) CS)
    rw [hw2] at hf
    refine ⟨hf.1.heap ?_ (by simp; omega), hf.1.heap ?_ (by simp), ?_, by rw [hf.2]; simp⟩
    · rw [Below.heap_alloc _ _ _ (by simp; omega), Below.heap_alloc _ _ _ (by simp)]; exact heap_alloc_new w _
    · rw [Below.heap_alloc _ _ _ (by simp)]
      have h_ := heap_alloc_new (w.alloc (.cells zs 31)) (.cells zs 31)
      rw [show (w.alloc (.cells zs 31)).heap.size = w.heap.size + 1 from by simp] at h_
      exact h_
    · rw [← hw2]; exact heap_setRow HY.out
  have HROW := Lib.hid hrow
  have G1 := Lib.hid (heap_below hrow B0)
  have G2 := Lib.hid (heap_below hrow B2.out)
  have HKT := Lib.hid hkt
  have HB := Lib.hid hb
  have HTL := Lib.hid htl
  have HC := Lib.hid hCS
  have HN := Lib.hid hnI
  have HZ := Lib.hid hzs
  have n0 : (0 : Int) ≤ nI := by omega
  have n1 : nI ≤ 1125899906842624 := by omega
  have c72 : w2.cell? ⟨g, 72, none⟩ = some (.int .u64 nI) := by have h_ := G2.out; rw [hCS] at h_; exact hsC_num h_ hb
  obtain ⟨a, ha⟩ : ∃ a : Int, nI % 64 = a := ⟨_, rfl⟩
  have ha0 : 0 ≤ a := by omega
  have ha1 : a < 64 := by omega
  obtain ⟨P, hP⟩ : ∃ P, P = padN m.length := ⟨_, rfl⟩
  have hPP := mod_pad m.length a (by rw [← hnI]; exact ha)
  rw [← hP] at hPP
  have HP := Lib.hid hP
  have hpl := padN_le m.length
  rw [← hP] at hpl
  have hmk := make72 P (by omega)
  obtain ⟨PZ, hPZ⟩ : ∃ PZ : Array Value, PZ = (bvs (List.replicate 72 0)).toArray := ⟨_, rfl⟩
  obtain ⟨PC, hPC⟩ : ∃ PC : Array Value, PC = (bvs (128 :: List.replicate 71 0)).toArray := ⟨_, rfl⟩
  have hset : PZ.setIfInBounds 0 (.int .u8 128) = PC := by rw [hPZ, hPC]; rfl
  have hp0 : PZ[0]? = some (.int .u8 0) := by rw [hPZ]; rfl
  have hpz : PZ.size = 72 := by rw [hPZ]; rfl
  rw [← hPZ] at hmk
  have HPC := Lib.hid hPC
  clear hPZ hPC
  have hgl := lt_heap G2.out
  have d72 : ∀ o, (w2.alloc o).cell? ⟨g, 72, none⟩ = some (.int .u64 nI) := fun o => (World.cell?_alloc_lt w2 o ⟨g, 72, none⟩ hgl).trans c72
  have hp1 : (1 : Int) ≤ (P : Int) := by omega
  have hp2 : (P : Int) ≤ 64 := by omega
  have e1 := hPP.1
  have e2 := hPP.2
  have HM := Lib.hid hl
  clear hzs hys hb htl hrow hnI hCS hkt hP hPP hpl hl B0
  go_enter Tryz.func98, Tryz.ntmps98
  have gC : Hid (w.heap.size + 1 + 1 < w2.heap.size ∧ w.heap.size + 1 + 1 ≠ 1) := by show _ ∧ _; have := R2.out.2.2.2; have := HKT.out.1; omega
  have HSIZE : Hid (∀ w3 : World, RowIn (w2.alloc (.cells PC 5)) w2.heap.size 5 (overL PC P (appB (nI * 8) 8 8)) w3 → Frm [w2.heap.size] w2 w3 ∧ Hs w3 (w.heap.size + 1 + 1) K m ∧ KT w3 K ∧ Reads w3 w3.heap.size 1 (some ⟨w2.heap.size, 0, none⟩) (P + 8) (bvs (padF m.length))) := by
    show ∀ _, _
    intro w3 h3
    have hf : Frm [w2.heap.size] w2 w3 := by
      refine ⟨h3.2.os, h3.2.tape, h3.2.output, Nat.le_trans (by simp) h3.2.size, fun k hk hn => ?_⟩
      rw [h3.2.block k (by simp; omega) (by simpa using hn)]
      exact heap_alloc_old w2 _ hk
    refine ⟨hf, ⟨buf, HB.out, HTL.out, ?_⟩, (HKT.out.bel B2.out).frm hf (by have := gC.out; simp; omega), ?_⟩
    · have h_ := R2.out.2.2.1
      rw [HC.out, HN.out] at h_
      exact hf.heap h_ (by have := gC.out.1; simp; omega)
    · have h_ := h3.1
      rw [HPC.out, HP.out, HN.out, Int.mul_comm] at h_
      have h2_ := padL_read h_
      rw [← HP.out] at h2_
      exact h2_
  have T0 : Hid True := trivial
  go_wp2_with (first
    | (refine wpList_load_arr rfl _ _ rfl g 0 rfl CS _ (by with_reducible exact range_row G1.out) Tryz.underlying234 rfl (by rw [hcz.out]; kernel_rfl) ?_)
    | (refine wpList_store_row rfl _ _ _ rfl (w.heap.size + 1 + 1) CS rfl rfl 234 ys (by with_reducible exact HY.out) (by rw [hcz.out]; kernel_rfl) (by rw [hyz.out, hcz.out]) hc1.out ?_; rw [hw2]; clear hw2)
    | (go_at_call 128; go_must (refine (appended8 w2.heap.size P 72 5 PC (nI * 8) _ (heap_alloc_new w2 _) (by omega) (by rw [HPC.out]; decide)).mono ?_; rintro e w3 ⟨rfl, h3⟩; have H3 := Lib.hid (HSIZE.out w3 h3); clear h3 d72 hset hp0 hpz))
    | (go_at_call 97; go_must (refine (HWrite_any (some ⟨w2.heap.size, 0, none⟩) (P + 8) 72 (w.heap.size + 1 + 1) K m (padF m.length) w3 H3.out.2.1 H3.out.2.2.1 gC.out.2 H3.out.2.2.2 (by omega) (by have h_ := gC.out; intro ad e; cases e; show w2.heap.size ≠ _; omega) (by have h_ := HM.out; rw [padF_len]; have h2_ := padN_le m.length; omega)).mono ?_; rintro e w4 ⟨rfl, hf4, hs4⟩; have H4 := Lib.hid (And.intro hf4 hs4); obtain ⟨cur4, hst4⟩ := hs4.st; have HST := Lib.hid hst4; clear hf4 hs4 hst4))
    | (have hx_ := HST; obtain ⟨R, hR⟩ : ∃ R, R = stF K (m ++ padF m.length) := ⟨_, rfl⟩; rw [← hR] at HST; have HR := Lib.hid hR; clear hR; refine wpList_load_arr rfl _ _ rfl (w.heap.size + 1 + 1) 0 rfl #[.int .u32 R.a, .int .u32 R.c, .int .u32 R.d, .int .u32 R.e, .int .u32 R.f, .int .u32 R.g, .int .u32 R.i, .int .u32 R.j] _ (by with_reducible exact st_agg HST.out) Tryz.underlying231 rfl (by kernel_rfl) ?_))
  clear hx_
  have HL : Hid (∀ (j : Nat) (v : Int), R.l[j]? = some v → 0 ≤ v ∧ v < 4294967296) := by
    show ∀ _, _
    intro j v h
    rw [HR.out] at h
    exact stF_range K _ h
  have W4 : Hid (Below w.heap.size w w4 ∧ w4.heap[w.heap.size]? = some (.cells zs 31 (0, 0)) ∧ w4.heap[w.heap.size + 1]? = some (.cells zs 31 (0, 0))) := by
    show _ ∧ _
    have hf3 := H3.out.1
    have hf4 := H4.out.1
    have hsz := R2.out.2.2.2
    refine ⟨(B2.out.trans (hf3.below (by omega) (by simp; omega))).trans (hf4.below (by have := hf3.size; omega) (by simp; omega)), hf4.heap (hf3.heap R2.out.1 (by simp; omega)) (by simp; omega), hf4.heap (hf3.heap R2.out.2.1 (by simp; omega)) (by simp)⟩
  go_loopw [35] (fun i wr => ∃ n : Nat, n ≤ 8 ∧ i = .int .i64 (n : Int) ∧ Hid (Frm [w.heap.size + 1] w4 wr ∧ wr.heap[w.heap.size + 1]? = some (.cells (overL zs 0 (outB R n)) 31 (0, 0)))) (fun i _ => 8 - (intOf i).toNat)
  case atStart => exact ⟨0, Nat.zero_le _, rfl, Frm.refl _ _, by rw [show outB R 0 = [] from rfl, overL_nil]; exact W4.out.2.2⟩
  case round =>
    obtain ⟨n, hn, rfl, hO⟩ := hrel
    by_cases hlt : n < 8
    · have hlt' : (n : Int) < 8 := by omega
      have hn0 : (0 : Int) ≤ (n : Int) := by omega
      obtain ⟨x, hx⟩ : ∃ x, R.l[n]? = some x := ⟨R.l[n]'(by rw [l_len]; exact hlt), List.getElem?_eq_getElem _⟩
      have hidx := run_index8s R n x hx
      have hsl : ∀ w_, (Instr.sliceAt 31 (.pointer (some ⟨w.heap.size + 1, 0, none⟩)) none (some (.int .i64 (4 * (n : Int)))) none).run Tryz.prog w_ = .ok (.slice (some ⟨w.heap.size + 1, 0, none⟩) (4 * n) 32) w_ := fun w_ => by
        have h_ := slH32 (w.heap.size + 1) 0 (4 * n) (by omega) w_
        rw [show ((4 * n : Nat) : Int) = 4 * (n : Int) from by omega] at h_
        exact h_
      have hx0 := (HL.out n x hx).1
      have hx1 := (HL.out n x hx).2
      have SN : Hid (overL (overL zs 0 (outB R n)) (4 * n) (appB x 4 4) = overL zs 0 (outB R (n + 1))) := by
        show _ = _
        have h_ := overL_snoc zs 0 (outB R n) (appB x 4 4) (by rw [outB_len R n (by omega), appB_len, hzz.out]; omega)
        rw [outB_len R n (by omega), Nat.zero_add] at h_
        rw [h_, outB_succ hx]
      have HSZ : Hid ((overL zs 0 (outB R n)).size = 32) := by show _ = _; rw [overL_size _ _ _ (by rw [outB_len R n (by omega), hzz.out]; omega), hzz.out]
      have HO := Lib.hid hO.out
      have HN := Lib.hid hlt
      clear hO hx hlt hn
      go_wp2_with (go_at_call 128; go_must (refine (appended4 (w.heap.size + 1) (4 * n) 32 31 (overL zs 0 (outB R n)) x wr HO.out.2 (by have := HN.out; omega) (by rw [HSZ.out]; omega)).mono ?_; rintro e w5 ⟨rfl, h5⟩; have H5 := Lib.hid h5; clear h5))
      go_roundw
      case rel =>
        refine ⟨n + 1, HN.out, by go_num, HO.out.1.trans ⟨H5.out.2.os, H5.out.2.tape, H5.out.2.output, H5.out.2.size, fun k hk hn_ => H5.out.2.block k hk (by simpa using hn_)⟩, ?_⟩
        rw [← SN.out]
        exact H5.out.1
      case measure => simp [intOf]; omega
    · have hn8 : n = 8 := by omega
      have hd9 : decide ((n : Int) < 8) = false := by simp; omega
      obtain ⟨OUT, hOUT⟩ : ∃ OUT, OUT = (bvs (sumF K m)).toArray := ⟨_, rfl⟩
      have HO : Hid (Frm [w.heap.size + 1] w4 wr ∧ wr.heap[w.heap.size + 1]? = some (.cells OUT 31 (0, 0)) ∧ wr.heap[w.heap.size]? = some (.cells zs 31 (0, 0))) := by
        show _ ∧ _
        refine ⟨hO.out.1, ?_, hO.out.1.heap W4.out.2.1 (by simp)⟩
        have h3 := hO.out.2
        rw [hn8, overL_all zs _ (by rw [hzz.out, outB_len R 8 (by omega)]), HR.out] at h3
        rw [hOUT]
        exact h3
      have HOZ : Hid (OUT.size = 32) := by show _ = _; rw [hOUT]; simp [bvs_length, sumF_len]
      have HO1 : Hid (OUT.all (·.oneCell') = true) := by show _ = _; rw [hOUT]; exact all_oneCell_toArray (bvs_one _)
      have HOUT := Lib.hid hOUT
      clear hO hlt hn hn8 hOUT
      go_wp2_with (first
        | (refine wpList_load_arr rfl _ _ rfl (w.heap.size + 1) 0 rfl OUT _ (by with_reducible exact range_row HO.out.2.1) Tryz.underlying31 rfl (by rw [HOZ.out]; kernel_rfl) ?_)
        | (refine wpList_store_row rfl _ _ _ rfl w.heap.size OUT rfl rfl 31 zs (by with_reducible exact HO.out.2.2) (by rw [HOZ.out]; kernel_rfl) (by rw [hzz.out, HOZ.out]) HO1.out ?_))
      have hld := retZ32 (heap_setRow (cs := OUT) HO.out.2.2) HOZ.out
      refine bodyPost_ret (v := .agg OUT) (by simp [results, Tryz.results98, asAddr, Act.put, hld]) rfl ⟨by rw [HOUT.out], ?_⟩
      exact (W4.out.1.trans (HO.out.1.below W4.out.1.size (by simp))).trans ((Frm.setRow _ _ _).1.below (by have h_ := W4.out.1.size; have h2_ := HO.out.1.size; omega) (by simp))
end Go.Proofs.YtbcpmnnlhdgbhaaGreatDoor

namespace Go.Proofs.YtbcpmnnlhdgbhaaGreatDoor
open Go.RowKit
def rotQ (x : Int) (s : Nat) : Int := bits .or .u64 (IntKind.u64.wrap (x * (2 ^ s : Nat))) (x / (2 ^ (64 - s) : Nat))
set_option maxRecDepth 100000 in
theorem rotq14 (x : Int) (w : World) : Calls Tryz.prog 256 #[.int .u64 x, .int .i64 (-14)] w fun e w' => e = .returned (.int .u64 (rotQ x 50)) ∧ w' = w := by
  have e : bits BinOp.and IntKind.u64 (IntKind.u64.wrap (-14)) 63 = 50 := by kernel_rfl
  go_enter Tryz.func256, Tryz.ntmps256
  go_wp2
  go_ret
  exact ⟨rfl, rfl⟩
set_option maxRecDepth 100000 in
theorem rotq18 (x : Int) (w : World) : Calls Tryz.prog 256 #[.int .u64 x, .int .i64 (-18)] w fun e w' => e = .returned (.int .u64 (rotQ x 46)) ∧ w' = w := by
  have e : bits BinOp.and IntKind.u64 (IntKind.u64.wrap (-18)) 63 = 46 := by kernel_rfl
  go_enter Tryz.func256, Tryz.ntmps256
  go_wp2
  go_ret
  exact ⟨rfl, rfl⟩
set_option maxRecDepth 100000 in
theorem rotq41 (x : Int) (w : World) : Calls Tryz.prog 256 #[.int .u64 x, .int .i64 (-41)] w fun e w' => e = .returned (.int .u64 (rotQ x 23)) ∧ w' = w := by
  have e : bits BinOp.and IntKind.u64 (IntKind.u64.wrap (-41)) 63 = 23 := by kernel_rfl
  go_enter Tryz.func256, Tryz.ntmps256
  go_wp2
  go_ret
  exact ⟨rfl, rfl⟩
set_option maxRecDepth 100000 in
theorem rotq19 (x : Int) (w : World) : Calls Tryz.prog 256 #[.int .u64 x, .int .i64 (-19)] w fun e w' => e = .returned (.int .u64 (rotQ x 45)) ∧ w' = w := by
  have e : bits BinOp.and IntKind.u64 (IntKind.u64.wrap (-19)) 63 = 45 := by kernel_rfl
  go_enter Tryz.func256, Tryz.ntmps256
  go_wp2
  go_ret
  exact ⟨rfl, rfl⟩
set_option maxRecDepth 100000 in
theorem rotq61 (x : Int) (w : World) : Calls Tryz.prog 256 #[.int .u64 x, .int .i64 (-61)] w fun e w' => e = .returned (.int .u64 (rotQ x 3)) ∧ w' = w := by
  have e : bits BinOp.and IntKind.u64 (IntKind.u64.wrap (-61)) 63 = 3 := by kernel_rfl
  go_enter Tryz.func256, Tryz.ntmps256
  go_wp2
  go_ret
  exact ⟨rfl, rfl⟩
set_option maxRecDepth 100000 in
theorem rotq1 (x : Int) (w : World) : Calls Tryz.prog 256 #[.int .u64 x, .int .i64 (-1)] w fun e w' => e = .returned (.int .u64 (rotQ x 63)) ∧ w' = w := by
  have e : bits BinOp.and IntKind.u64 (IntKind.u64.wrap (-1)) 63 = 63 := by kernel_rfl
  go_enter Tryz.func256, Tryz.ntmps256
  go_wp2
  go_ret
  exact ⟨rfl, rfl⟩
set_option maxRecDepth 100000 in
theorem rotq8 (x : Int) (w : World) : Calls Tryz.prog 256 #[.int .u64 x, .int .i64 (-8)] w fun e w' => e = .returned (.int .u64 (rotQ x 56)) ∧ w' = w := by
  have e : bits BinOp.and IntKind.u64 (IntKind.u64.wrap (-8)) 63 = 56 := by kernel_rfl
  go_enter Tryz.func256, Tryz.ntmps256
  go_wp2
  go_ret
  exact ⟨rfl, rfl⟩
set_option maxRecDepth 100000 in
theorem rotq28 (x : Int) (w : World) : Calls Tryz.prog 256 #[.int .u64 x, .int .i64 (-28)] w fun e w' => e = .returned (.int .u64 (rotQ x 36)) ∧ w' = w := by
  have e : bits BinOp.and IntKind.u64 (IntKind.u64.wrap (-28)) 63 = 36 := by kernel_rfl
  go_enter Tryz.func256, Tryz.ntmps256
  go_wp2
  go_ret
  exact ⟨rfl, rfl⟩
set_option maxRecDepth 100000 in
theorem rotq34 (x : Int) (w : World) : Calls Tryz.prog 256 #[.int .u64 x, .int .i64 (-34)] w fun e w' => e = .returned (.int .u64 (rotQ x 30)) ∧ w' = w := by
  have e : bits BinOp.and IntKind.u64 (IntKind.u64.wrap (-34)) 63 = 30 := by kernel_rfl
  go_enter Tryz.func256, Tryz.ntmps256
  go_wp2
  go_ret
  exact ⟨rfl, rfl⟩
set_option maxRecDepth 100000 in
theorem rotq39 (x : Int) (w : World) : Calls Tryz.prog 256 #[.int .u64 x, .int .i64 (-39)] w fun e w' => e = .returned (.int .u64 (rotQ x 25)) ∧ w' = w := by
  have e : bits BinOp.and IntKind.u64 (IntKind.u64.wrap (-39)) 63 = 25 := by kernel_rfl
  go_enter Tryz.func256, Tryz.ntmps256
  go_wp2
  go_ret
  exact ⟨rfl, rfl⟩
end Go.Proofs.YtbcpmnnlhdgbhaaGreatDoor

namespace Go.Proofs.YtbcpmnnlhdgbhaaGreatDoor
open Go.RowKit
def sigQ1 (x : Int) : Int := bits .xor .u64 (bits .xor .u64 (rotQ x 45) (rotQ x 3)) (x / 64)
def sigQ0 (x : Int) : Int := bits .xor .u64 (bits .xor .u64 (rotQ x 63) (rotQ x 56)) (x / 128)
/-- The words of a block: 16 of its bytes, then each of those ahead. -/
def schedQ (l : List UInt8) : Nat → List Int
  | 0 => []
  | t + 1 => schedQ l t ++ [if t < 16 then wordI ((l.drop (8 * t)).take 8) else
      IntKind.u64.wrap (IntKind.u64.wrap (IntKind.u64.wrap (sigQ1 ((schedQ l t).getD (t - 2) 0) + (schedQ l t).getD (t - 7) 0) + sigQ0 ((schedQ l t).getD (t - 15) 0)) + (schedQ l t).getD (t - 16) 0)]
theorem schedQ_len (l : List UInt8) : ∀ t, (schedQ l t).length = t
  | 0 => rfl
  | t + 1 => by rw [schedQ, List.length_append, schedQ_len l t]; rfl
/-- A row of 32-bit words. -/
def WQ (w : World) (g : Nat) (t : TypeId) (m : Nat) (L : List Int) : Prop := ∃ cur, w.heap[g]? = some (.cells cur t (0, 0)) ∧ cur.size = m ∧ ∀ (j : Nat), j < L.length → cur[j]? = some (.int .u64 (L.getD j 0))
theorem WQ.cell {w : World} {g m : Nat} {t : TypeId} {L : List Int} (h : WQ w g t m L) (j : Nat) (hj : j < L.length) : w.cell? ⟨g, j, none⟩ = some (.int .u64 (L.getD j 0)) := by
  obtain ⟨cur, h1, _, h3⟩ := h
  rw [cell_of_row w g j _ _ _ h1]; exact h3 j hj
theorem WQ.any {w : World} {g m : Nat} {t : TypeId} {L : List Int} (h : WQ w g t m L) (j : Nat) (hj : j < m) : ∃ v, w.cell? ⟨g, j, none⟩ = some v := by
  obtain ⟨cur, h1, h2, _⟩ := h
  rw [cell_of_row w g j _ _ _ h1]
  exact ⟨cur[j], by simp [h2, hj]⟩
theorem WQ.unfrozen {w : World} {g m : Nat} {t : TypeId} {L : List Int} (h : WQ w g t m L) (i : Nat) : w.frozen? ⟨g, i, none⟩ = false := by
  obtain ⟨cur, h1, _⟩ := h
  simp [World.frozen?, h1]
theorem WQ.put {w : World} {g m : Nat} {t : TypeId} {L : List Int} (h : WQ w g t m L) (k : Nat) (hk : k = L.length) (hm : k < m) (x : Int) : WQ (w.setCell ⟨g, k, none⟩ (.int .u64 x)) g t m (L ++ [x]) := by
  subst hk
  obtain ⟨cur, h1, h2, h3⟩ := h
  refine ⟨cur.setIfInBounds L.length (.int .u64 x), heap_setCell_same w g L.length cur t (.int .u64 x) h1, by simpa using h2, fun j hj => ?_⟩
  rw [List.length_append] at hj
  simp at hj
  rw [Array.getElem?_setIfInBounds]
  by_cases e : L.length = j
  · subst e
    rw [if_pos rfl, if_pos (by omega)]
    simp
  · rw [if_neg e, h3 j (by omega)]
    simp [List.getD, List.getElem?_append_left (show j < L.length by omega)]
theorem WQ.grown {w w' : World} {g m : Nat} {t : TypeId} {L : List Int} {row : Option Nat} (h : WQ w g t m L) (hg : w.grownBy w' row) (hne : some g ≠ row) : WQ w' g t m L := by
  obtain ⟨cur, h1, h2⟩ := h
  exact ⟨cur, (hg.block g (lt_heap h1) hne).trans h1, h2⟩
theorem WQ.bel {w w' : World} {g m : Nat} {t : TypeId} {L : List Int} (h : WQ w g t m L) (hb : Below w.heap.size w w') : WQ w' g t m L := by
  obtain ⟨cur, h1, h2⟩ := h
  exact ⟨cur, (hb.block g (lt_heap h1)).trans h1, h2⟩
def bigQ1 (x : Int) : Int := bits .xor .u64 (bits .xor .u64 (rotQ x 50) (rotQ x 46)) (rotQ x 23)
def bigQ0 (x : Int) : Int := bits .xor .u64 (bits .xor .u64 (rotQ x 36) (rotQ x 30)) (rotQ x 25)
def t1Q (j s1 f g i k w : Int) : Int := IntKind.u64.wrap (IntKind.u64.wrap (IntKind.u64.wrap (IntKind.u64.wrap (j + s1) + bits .xor .u64 (bits .and .u64 f g) (bits .and .u64 (bits .xor .u64 (if IntKind.u64.signed = true then -1 else IntKind.u64.max) f) i)) + k) + w)
def rndQ (X : R8) (k w : Int) : R8 :=
  ⟨IntKind.u64.wrap (t1Q X.j (bigQ1 X.f) X.f X.g X.i k w + IntKind.u64.wrap (bigQ0 X.a + bits .xor .u64 (bits .xor .u64 (bits .and .u64 X.a X.c) (bits .and .u64 X.a X.d)) (bits .and .u64 X.c X.d))), X.a, X.c, X.d, IntKind.u64.wrap (X.e + t1Q X.j (bigQ1 X.f) X.f X.g X.i k w), X.f, X.g, X.i⟩
def rndsQ (K W : List Int) (R : R8) : Nat → R8
  | 0 => R
  | n + 1 => rndQ (rndsQ K W R n) (K.getD n 0) (W.getD n 0)
def addQ (R X : R8) : R8 := ⟨IntKind.u64.wrap (R.a + X.a), IntKind.u64.wrap (R.c + X.c), IntKind.u64.wrap (R.d + X.d), IntKind.u64.wrap (R.e + X.e), IntKind.u64.wrap (R.f + X.f), IntKind.u64.wrap (R.g + X.g), IntKind.u64.wrap (R.i + X.i), IntKind.u64.wrap (R.j + X.j)⟩
/-- What a block makes of a state. -/
def blockQ (K : List Int) (R : R8) (l : List UInt8) : R8 := addQ R (rndsQ K (schedQ l 80) R 80)
def w64s (l : List Int) : List Value := l.map (Value.int .u64)
end Go.Proofs.YtbcpmnnlhdgbhaaGreatDoor
