/- The texts Z6 Z7 Z8 Z9 of this work, merged by wip/merge.py. No conditions. -/
import Derived.Test.YtnkcnnmhgomphaaDoorQZB
namespace Go.Proofs.YtnkcnnmhgomphaaDoor
open Go.RowKit
def z8 : R8 := ⟨1779033703, 3144134277, 1013904242, 2773480762, 1359893119, 2600822924, 528734635, 1541459225⟩
/-- The state behind i blocks. -/
def stN (K : List Int) (m : List UInt8) : Nat → R8
  | 0 => z8
  | i + 1 => blockF K (stN K m i) ((m.drop (64 * i)).take 64)
def stF (K : List Int) (m : List UInt8) : R8 := stN K m (m.length / 64)
theorem stN_app (K : List Int) (m x : List UInt8) : ∀ i, 64 * i ≤ m.length → stN K (m ++ x) i = stN K m i
  | 0, _ => rfl
  | i + 1, h => by
    rw [stN, stN, stN_app K m x i (by omega)]
    congr 1
    rw [List.drop_append_of_le_length (by omega), List.take_append_of_le_length (by rw [List.length_drop]; omega)]
theorem stF_same (K : List Int) (m x : List UInt8) (h : m.length % 64 + x.length < 64) : stF K (m ++ x) = stF K m := by
  unfold stF
  have e : (m ++ x).length / 64 = m.length / 64 := by rw [List.length_append]; omega
  rw [e, stN_app K m x _ (by omega)]
def tailF (m : List UInt8) : List UInt8 := m.drop (64 * (m.length / 64))
theorem tailF_len (m : List UInt8) : (tailF m).length = m.length % 64 := by unfold tailF; rw [List.length_drop]; omega
theorem tailF_same (m x : List UInt8) (h : m.length % 64 + x.length < 64) : tailF (m ++ x) = tailF m ++ x := by
  unfold tailF
  have e : (m ++ x).length / 64 = m.length / 64 := by rw [List.length_append]; omega
  rw [e, List.drop_append_of_le_length (by omega)]
theorem stF_full (K : List Int) (m x : List UInt8) (h : m.length % 64 + x.length = 64) : stF K (m ++ x) = blockF K (stF K m) (tailF m ++ x) := by
  unfold stF
  have e : (m ++ x).length / 64 = m.length / 64 + 1 := by rw [List.length_append]; omega
  rw [e, stN, stN_app K m x _ (by omega)]
  congr 1
  rw [List.drop_append_of_le_length (by omega)]
  exact List.take_of_length_le (by rw [List.length_append, List.length_drop]; omega)
theorem tailF_full (m x : List UInt8) (h : m.length % 64 + x.length = 64) : tailF (m ++ x) = [] := by
  apply List.eq_nil_of_length_eq_zero
  rw [tailF_len, List.length_append]; omega
/-- The 73 cells of a Hash. -/
def hsC (R : R8) (buf : List UInt8) (n : Int) : Array Value := (w32s R.l ++ bvs buf ++ [Value.int .u64 n]).toArray
theorem w32s_len (R : R8) : (w32s R.l).length = 8 := rfl
theorem hsC_size (R : R8) (buf : List UInt8) (n : Int) (h : buf.length = 64) : (hsC R buf n).size = 73 := by
  simp [hsC, w32s_len, bvs_length, h]
theorem hsC_st {w : World} {g : Nat} {t : TypeId} {R : R8} {buf : List UInt8} {n : Int} (h : w.heap[g]? = some (.cells (hsC R buf n) t (0, 0))) (hb : buf.length = 64) : ST w g t (hsC R buf n) R := by
  refine ⟨h, by rw [hsC_size _ _ _ hb]; omega, fun j v hj => ?_⟩
  have hlt : j < 8 := by
    have := (List.getElem?_eq_some_iff.1 hj).1
    exact this
  simp only [hsC, List.getElem?_toArray]
  rw [List.append_assoc, List.getElem?_append_left (by rw [w32s_len]; exact hlt), w32s, List.getElem?_map, hj]
  rfl
theorem hsC_over (R Y : R8) (buf : List UInt8) (n : Int) : over (hsC R buf n) (w32s Y.l) = hsC Y buf n := by
  unfold over hsC
  rw [w32s_len, List.toList_toArray, List.append_assoc, List.drop_append_of_le_length (by rw [w32s_len]; omega), List.drop_of_length_le (by rw [w32s_len]; omega)]
  simp
theorem hsC_put (R : R8) (buf : List UInt8) (n n' : Int) (hb : buf.length = 64) : (hsC R buf n).setIfInBounds 72 (.int .u64 n') = hsC R buf n' := by
  unfold hsC
  rw [List.setIfInBounds_toArray, List.set_append_right _ _ (by simp [w32s_len, bvs_length, hb])]
  simp [w32s_len, bvs_length, hb]
theorem hsC_copy (R : R8) (buf x : List UInt8) (n : Int) (a k : Nat) (hb : buf.length = 64) (hak : a + k ≤ 64) (hx : x.length = k) :
    ((hsC R buf n).toList.take (8 + a) ++ bvs x ++ (hsC R buf n).toList.drop (8 + a + k)).toArray = hsC R (buf.take a ++ x ++ buf.drop (a + k)) n := by
  unfold hsC
  have h8 := w32s_len R
  rw [List.toList_toArray, List.append_assoc (w32s R.l), List.take_append, List.take_of_length_le (by omega), h8, List.drop_append, List.drop_of_length_le (by omega), h8]
  rw [show 8 + a - 8 = a from by omega, show 8 + a + k - 8 = a + k from by omega, List.take_append_of_le_length (by rw [bvs_length]; omega), List.drop_append_of_le_length (by rw [bvs_length]; omega)]
  simp [bvs, List.map_take, List.map_drop]
theorem hsC_num {w : World} {g : Nat} {t : TypeId} {R : R8} {buf : List UInt8} {n : Int} (h : w.heap[g]? = some (.cells (hsC R buf n) t (0, 0))) (hb : buf.length = 64) : w.cell? ⟨g, 72, none⟩ = some (.int .u64 n) := by
  rw [cell_of_row w g 72 _ _ _ h]
  simp only [hsC, List.getElem?_toArray]
  rw [List.getElem?_append_right (by simp [w32s_len, bvs_length, hb])]
  simp [w32s_len, bvs_length, hb]
theorem hsC_rest {w : World} {g : Nat} {t : TypeId} {R : R8} {buf : List UInt8} {n : Int} (h : w.heap[g]? = some (.cells (hsC R buf n) t (0, 0))) (hb : buf.length = 64) : Reads w w.heap.size 1 (some ⟨g, 8, none⟩) 64 (bvs buf) := by
  refine ⟨by rw [bvs_length, hb], fun _ => ⟨_, rfl, lt_heap h, fun j u hu => ?_⟩⟩
  have hj : j < 64 := by
    have := (List.getElem?_eq_some_iff.1 hu).1
    rw [bvs_length, hb] at this; exact this
  rw [add_none, cell_of_row w g (8 + j) _ _ _ h]
  simp only [hsC, List.getElem?_toArray]
  rw [List.append_assoc, List.getElem?_append_right (by rw [w32s_len]; omega), w32s_len, show 8 + j - 8 = j from by omega, List.getElem?_append_left (by rw [bvs_length]; omega)]
  exact hu
/-- A Hash that has taken m. -/
def Hs (w : World) (g : Nat) (K : List Int) (m : List UInt8) : Prop :=
  ∃ buf : List UInt8, buf.length = 64 ∧ buf.take (m.length % 64) = tailF m ∧ w.heap[g]? = some (.cells (hsC (stF K m) buf (m.length : Int)) 122 (0, 0))
theorem Hs.lt {w : World} {g : Nat} {K : List Int} {m : List UInt8} (h : Hs w g K m) : g < w.heap.size := by obtain ⟨_, _, _, h⟩ := h; exact lt_heap h
theorem Hs.frm {w w' : World} {g : Nat} {K : List Int} {m : List UInt8} {ps : List Nat} (h : Hs w g K m) (hf : Frm ps w w') (hp : g ∉ ps) : Hs w' g K m := by
  obtain ⟨buf, h1, h2, h3⟩ := h
  exact ⟨buf, h1, h2, hf.heap h3 hp⟩
theorem KT.frm {w w' : World} {K : List Int} {ps : List Nat} (h : KT w K) (hf : Frm ps w w') (hp : 0 ∉ ps) : KT w' K :=
  ⟨Nat.lt_of_lt_of_le h.1 hf.size, h.2.1, fun j hj => (World.cell?_of_block (a := ⟨0, j, none⟩) (hf.block 0 h.1 hp)).trans (h.2.2 j hj)⟩
theorem Reads.frm {w w' : World} {size n : Nat} {A : Option Addr} {xs : List Value} {ps : List Nat} (h : Reads w w.heap.size size A n xs) (hf : Frm ps w w') (hp : ∀ ad, A = some ad → ad.block ∉ ps) : Reads w' w'.heap.size size A n xs := by
  refine ⟨h.1, fun hn => ?_⟩
  obtain ⟨ad, e, hb, hc⟩ := h.2 hn
  refine ⟨ad, e, Nat.lt_of_lt_of_le hb hf.size, fun j u hu => ?_⟩
  refine (World.cell?_of_block ?_).trans (hc j u hu)
  rw [block_of_add]
  exact hf.block _ hb (hp ad e)
end Go.Proofs.YtnkcnnmhgomphaaDoor

namespace Go.Proofs.YtnkcnnmhgomphaaDoor
open Go.RowKit
/-- One piece of a Write. -/
theorem Hs.piece {m x buf : List UInt8} {k : Nat} (hb : buf.length = 64) (ht : buf.take (m.length % 64) = tailF m) (hx : x.length = k) (h : m.length % 64 + k < 64) :
    (buf.take (m.length % 64) ++ x ++ buf.drop (m.length % 64 + k)).length = 64 ∧ (buf.take (m.length % 64) ++ x ++ buf.drop (m.length % 64 + k)).take ((m ++ x).length % 64) = tailF (m ++ x) := by
  have e : (m ++ x).length % 64 = m.length % 64 + k := by rw [List.length_append]; omega
  refine ⟨by simp [hb, hx]; omega, ?_⟩
  rw [e, tailF_same m x (by omega), ht, List.take_append_of_le_length (by simp [tailF_len, hx]), List.take_of_length_le (by simp [tailF_len, hx])]
theorem sl64 (g o a : Nat) (ha : a < 64) (w : World) : (Instr.sliceAt 65 (.pointer (some ⟨g, o, none⟩)) (some (.int .i64 (a : Int))) none none).run Tryd.prog w = .ok (.slice (some ⟨g, o + a, none⟩) (64 - a) (64 - a)) w := by
  have e64 : Tryd.prog.arrayLen 65 = 64 := by kernel_rfl
  have h1 := run_sliceAt_array_l (P := Tryd.prog) w 65 ⟨g, o, none⟩ (by kernel_rfl) .i64 (a : Int) (by omega) (by rw [e64]; omega)
  have hs : (sizeOf (Tryd.prog.elem 65)).run Tryd.prog w = .ok 1 w := by kernel_rfl
  rw [h1, hs, Result.andThen_ok, e64]
  unfold slicedAt
  rw [Int.toNat_natCast, if_neg (by omega), Nat.mul_one, add_none]
theorem slAll64 (g o : Nat) (w : World) : (Instr.sliceAt 65 (.pointer (some ⟨g, o, none⟩)) none none none).run Tryd.prog w = .ok (.slice (some ⟨g, o, none⟩) 64 64) w := by
  have e64 : Tryd.prog.arrayLen 65 = 64 := by kernel_rfl
  have h1 := run_sliceAt_array_all (P := Tryd.prog) w 65 ⟨g, o, none⟩ (by kernel_rfl)
  have hs : (sizeOf (Tryd.prog.elem 65)).run Tryd.prog w = .ok 1 w := by kernel_rfl
  rw [h1, hs, Result.andThen_ok, e64]
  unfold slicedAt
  rw [if_neg (by omega), add_none, Nat.zero_mul, Nat.add_zero]
theorem slK8 {A : Option Addr} {n c k : Nat} (hk : k ≤ n) (w : World) : (Instr.slice 48 (.slice A n c) (some (.int .i64 (k : Int))) none none).run Tryd.prog w = .ok (.slice (if c = k then A else A.map (·.add (k * 1))) (n - k) (c - k)) w := by
  have h1 := run_slice_l (P := Tryd.prog) w 48 A n c (by kernel_rfl) .i64 (k : Int) (by omega) (by omega)
  have hs : (sizeOf (Tryd.prog.elem 48)).run Tryd.prog w = .ok 1 w := by kernel_rfl
  rw [h1, hs, Result.andThen_ok]
  unfold sliced
  rw [Int.toNat_natCast]
theorem map_block {A : Option Addr} {c k g : Nat} (h : ∀ ad, A = some ad → ad.block ≠ g) : ∀ ad, (if c = k then A else A.map (·.add (k * 1))) = some ad → ad.block ≠ g := by
  intro ad e
  split at e
  · exact h ad e
  · cases A with
    | none => cases e
    | some a0 =>
      cases e
      rw [block_of_add]
      exact h a0 rfl
def lenV : Value → Nat
  | .slice _ n _ => n
  | _ => 0
def HWritePost (g : Nat) (K : List Int) (m : List UInt8) (w : World) (e : Ending) (w' : World) : Prop := e = .returned (.tuple #[]) ∧ Frm [g] w w' ∧ Hs w' g K m
set_option maxRecDepth 100000 in
set_option maxHeartbeats 2000000 in
theorem HWrite_any (A : Option Addr) (n c g : Nat) (K : List Int) (m b : List UInt8) (w : World) (hh : Hs w g K m) (hkt : KT w K) (hg0 : g ≠ 0) (hr : Reads w w.heap.size 1 A n (bvs b)) (hc : n ≤ c) (hA : ∀ ad, A = some ad → ad.block ≠ g) (hl : m.length + b.length ≤ 4611686018427387904) :
    Calls Tryd.prog 53 #[.pointer (some ⟨g, 0, none⟩), .slice A n c] w (HWritePost g K (m ++ b) w) := by
  have HH := Lib.hid hh
  have HKT := Lib.hid hkt
  have HG := Lib.hid hg0
  have HR := Lib.hid hr
  have HA := Lib.hid hA
  have HL := Lib.hid hl
  have HC := Lib.hid hc
  clear hh hkt hg0 hr hA hl hc
  go_enter Tryd.func53, Tryd.ntmps53
  go_wp2
  go_loopw [1] (fun s wr => ∃ (A : Option Addr) (n c : Nat) (d x : List UInt8), s = .slice A n c ∧ Hid (d ++ x = b ∧ Reads w w.heap.size 1 A n (bvs x) ∧ n ≤ c ∧ (∀ ad, A = some ad → ad.block ≠ g)) ∧ Hid (Frm [g] w wr ∧ Hs wr g K (m ++ d))) (fun s _ => lenV s)
  case atStart => exact ⟨A, n, c, [], b, rfl, ⟨rfl, HR.out, HC.out, HA.out⟩, ⟨Frm.refl _ _, by rw [List.append_nil]; exact HH.out⟩⟩
  case round =>
    obtain ⟨A1, n1, c1, d, x, rfl, hI, hO⟩ := hrel
    obtain ⟨M, hM⟩ : ∃ M, M = m ++ d := ⟨_, rfl⟩
    by_cases h0 : n1 = 0
    · subst h0
      have hx : x = [] := by
        have := hI.out.2.1.1
        rw [bvs_length] at this
        exact List.eq_nil_of_length_eq_zero (by omega)
      go_wp2
      go_end0
      refine ⟨rfl, hO.out.1, ?_⟩
      have h1 := hI.out.1
      rw [hx, List.append_nil] at h1
      rw [← h1]
      exact hO.out.2
    · have hn0 : (0 : Int) < (n1 : Int) := by omega
      obtain ⟨buf, hb, ht, hcells⟩ := hO.out.2
      rw [← hM] at hcells ht
      have hxl : x.length = n1 := by have := hI.out.2.1.1; rw [bvs_length] at this; omega
      have hMl : M.length + n1 ≤ 4611686018427387904 := by
        have h1 := HL.out
        rw [← hI.out.1, List.length_append] at h1
        rw [hM, List.length_append]
        omega
      obtain ⟨a, ha⟩ : ∃ a, a = M.length % 64 := ⟨_, rfl⟩
      obtain ⟨nI, hnI⟩ : ∃ nI : Int, nI = (M.length : Int) := ⟨_, rfl⟩
      have hmod : nI % 64 = (a : Int) := by rw [hnI, ha]; omega
      have ha64 : (a : Int) < 64 := by omega
      have ha0 : (0 : Int) ≤ (a : Int) := by omega
      have hn1 : (0 : Int) ≤ nI := by omega
      have hn2 : nI + (n1 : Int) ≤ 4611686018427387904 := by omega
      rw [← hnI] at hcells
      have c72 := hsC_num hcells hb
      obtain ⟨w1, hcp, hw1, hfr, hsz⟩ := copy_row (off := 8 + a) (n := 64 - a) (c := 64 - a) (c2 := c1) hcells (hI.out.2.1.frm hO.out.1 (fun ad e hp => hI.out.2.2.2 ad e (by simpa using hp))) hxl (by rw [hsC_size _ _ _ hb]; omega)
      obtain ⟨k, hk⟩ : ∃ k, k = Nat.min n1 (64 - a) := ⟨_, rfl⟩
      rw [← hk] at hcp hw1
      have hsl := sl64 g 8 a (by omega)
      have hkn : k ≤ n1 := by rw [hk]; exact Nat.min_le_left _ _
      have hk64 : a + k ≤ 64 := by have h_ : k ≤ 64 - a := by rw [hk]; exact Nat.min_le_right _ _
                                   omega
      have hk0 : 0 < k := by
        rcases Nat.lt_or_ge n1 (64 - a) with h_ | h_
        · rw [hk, show Nat.min n1 (64 - a) = n1 from Nat.min_eq_left (Nat.le_of_lt h_)]; omega
        · rw [hk, show Nat.min n1 (64 - a) = 64 - a from Nat.min_eq_right h_]; omega
      have hxk : x.take (64 - a) = x.take k := by
        rcases Nat.lt_or_ge n1 (64 - a) with h_ | h_
        · rw [hk, show Nat.min n1 (64 - a) = n1 from Nat.min_eq_left (Nat.le_of_lt h_), List.take_of_length_le (by omega), List.take_of_length_le (by omega)]
        · rw [hk, show Nat.min n1 (64 - a) = 64 - a from Nat.min_eq_right h_]
      have hxl2 : (x.take k).length = k := by rw [List.length_take]; omega
      obtain ⟨buf1, hbuf1⟩ : ∃ y, y = buf.take a ++ x.take k ++ buf.drop (a + k) := ⟨_, rfl⟩
      have hb1 : buf1.length = 64 := by rw [hbuf1]; simp [hb, hxl2]; omega
      rw [hxk, hsC_copy _ _ _ _ a k hb hk64 hxl2, ← hbuf1] at hw1
      have d72 := hsC_num hw1 hb1
      have hfz := frozen_row hw1
      obtain ⟨A2, hA2⟩ : ∃ A2, A2 = (if c1 = k then A1 else A1.map (·.add (k * 1))) := ⟨_, rfl⟩
      have hrs := slK8 (A := A1) (c := c1) hkn
      rw [← hA2] at hrs
      have hlen1 : n1 - k < n1 := by omega
      have hIn : Hid (d ++ x.take k ++ x.drop k = b ∧ Reads w w.heap.size 1 A2 (n1 - k) (bvs (x.drop k)) ∧ n1 - k ≤ c1 - k ∧ (∀ ad, A2 = some ad → ad.block ≠ g)) := by
        show _ ∧ _
        refine ⟨by rw [List.append_assoc, List.take_append_drop]; exact hI.out.1, ?_, by have := hI.out.2.2.1; omega, by rw [hA2]; exact map_block hI.out.2.2.2⟩
        have h_ := hI.out.2.1.cut (k := k) (cap := c1) hkn hI.out.2.2.1
        rw [← hA2, Nat.mul_one] at h_
        simpa [bvs, List.map_drop] using h_
      have hkI : (k : Int) ≤ (n1 : Int) := by omega
      have hkI0 : (0 : Int) ≤ (k : Int) := by omega
      have hakI : (a : Int) + (k : Int) ≤ 64 := by omega
      have P1 : Hid (w1.heap[g]? = some (.cells (hsC (stF K M) buf1 nI) 122 (0, 0)) ∧ Frm [g] w w1 ∧ KT w1 K ∧ nI + (k : Int) = ((M ++ x.take k).length : Int) ∧ M ++ x.take k = m ++ (d ++ x.take k)) := by
        show _ ∧ _
        exact ⟨hw1, hO.out.1.trans hfr, HKT.out.frm (hO.out.1.trans hfr) (by have := HG.out; simp; omega), by rw [List.length_append, hxl2, hnI]; omega, by rw [hM, List.append_assoc]⟩
      by_cases hs : a + k = 64
      · have ht64 : ((a : Int) + (k : Int) == 64) = true := by simp; omega
        have P2 : Hid (stF K (M ++ x.take k) = blockF K (stF K M) buf1 ∧ tailF (M ++ x.take k) = [] ∧ (M ++ x.take k).length % 64 = 0) := by
          show _ ∧ _
          rw [stF_full K M (x.take k) (by rw [hxl2, ← ha]; exact hs), tailF_full M (x.take k) (by rw [hxl2, ← ha]; exact hs)]
          refine ⟨?_, rfl, by rw [List.length_append, hxl2]; omega⟩
          rw [hbuf1, ha, ht, ← ha, hs, List.drop_of_length_le (by omega), List.append_nil]
        have HB1 := Lib.hid hb1
        clear ha hnI hM hk hxk hxl2 hbuf1 hb1 hb ht hA2 hI hxl hMl h0 hcells hw1 hfr hsz hO hs hk0
        have hall := slAll64 g 8
        go_wp2
        obtain ⟨w2, hw2⟩ : ∃ w2, w2 = w1.setCell ⟨g, 72, none⟩ (.int .u64 (nI + (k : Int))) := ⟨_, rfl⟩
        have P3 : Hid (w2.drew.heap[g]? = some (.cells (hsC (stF K M) buf1 (nI + (k : Int))) 122 (0, 0)) ∧ Frm [g] w w2.drew ∧ KT w2.drew K) := by
          show _ ∧ _
          have h1_ := heap_setCell_same w1 g 72 _ _ (.int .u64 (nI + (k : Int))) P1.out.1
          rw [hsC_put _ _ _ _ HB1.out, ← hw2] at h1_
          have h2_ : Frm [g] w w2.drew := by rw [hw2]; exact frm_drew (P1.out.2.1.trans (Frm.setCell w1 g 72 _))
          exact ⟨h1_, h2_, HKT.out.frm h2_ (by have := HG.out; simp; omega)⟩
        rw [← hw2]
        clear hw2 c72 d72 hfz
        refine wp_quiet_tail 7 (by kernel_rfl) (by kernel_rfl) ?_
        simp only [List.take_succ_cons, List.take_zero, List.drop_succ_cons, List.drop_zero]
        repeat (go_big_quiet_step (fail))
        refine wpQuiet_nil ?_
        change wpList _ _ _ _ _ w2.drew
        generalize w2.drew = w3 at P3 ⊢
        go_wp2_with (go_at_call 67; go_must (refine (block_any (some ⟨g, 8, none⟩) 64 g 122 (hsC (stF K M) buf1 (nI + (k : Int))) (stF K M) K buf1 w3 (hsC_st P3.out.1 HB1.out) P3.out.2.2 (hsC_rest P3.out.1 HB1.out) (by omega)).mono ?_; rintro e w4 ⟨rfl, hf4, hc4⟩; rw [hsC_over] at hc4; have H4 := Lib.hid (And.intro hf4 hc4); clear hf4 hc4))
        go_roundw
        case rel =>
          refine ⟨A2, n1 - k, c1 - k, d ++ x.take k, x.drop k, rfl, hIn, P3.out.2.1.trans H4.out.1, buf1, HB1.out, ?_, ?_⟩
          · rw [← P1.out.2.2.2.2, P2.out.2.2, P2.out.2.1]; rfl
          · rw [← P1.out.2.2.2.2, P2.out.1, ← P1.out.2.2.2.1]; exact H4.out.2
        case measure => simp only [lenV]; omega
      · have ht64 : ((a : Int) + (k : Int) == 64) = false := by simp; omega
        have hp := Hs.piece (m := M) hb ht hxl2 (by rw [← ha]; omega)
        have P2 : Hid (stF K (M ++ x.take k) = stF K M ∧ buf1.length = 64 ∧ buf1.take ((M ++ x.take k).length % 64) = tailF (M ++ x.take k)) := by
          show _ ∧ _
          rw [stF_same K M (x.take k) (by rw [hxl2, ← ha]; omega)]
          rw [hbuf1, ha]
          exact ⟨rfl, hp⟩
        have HB1 := Lib.hid hb1
        clear ha hnI hM hk hxk hxl2 hbuf1 hb1 hb ht hA2 hI hxl hMl h0 hcells hw1 hfr hsz hO hs hk0 hp
        go_wp2
        obtain ⟨w2, hw2⟩ : ∃ w2, w2 = w1.setCell ⟨g, 72, none⟩ (.int .u64 (nI + (k : Int))) := ⟨_, rfl⟩
        have P3 : Hid (w2.heap[g]? = some (.cells (hsC (stF K M) buf1 (nI + (k : Int))) 122 (0, 0)) ∧ Frm [g] w w2) := by
          show _ ∧ _
          have h1_ := heap_setCell_same w1 g 72 _ _ (.int .u64 (nI + (k : Int))) P1.out.1
          rw [hsC_put _ _ _ _ HB1.out, ← hw2] at h1_
          have h2_ : Frm [g] w w2 := by rw [hw2]; exact P1.out.2.1.trans (Frm.setCell w1 g 72 _)
          exact ⟨h1_, h2_⟩
        rw [← hw2]
        clear hw2 c72 d72 hfz
        go_roundw
        case rel =>
          refine ⟨A2, n1 - k, c1 - k, d ++ x.take k, x.drop k, rfl, hIn, P3.out.2, buf1, HB1.out, ?_, ?_⟩
          · rw [← P1.out.2.2.2.2]; exact P2.out.2.2
          · rw [← P1.out.2.2.2.2, P2.out.1, ← P1.out.2.2.2.1]; exact P3.out.1
        case measure => simp only [lenV]; omega
end Go.Proofs.YtnkcnnmhgomphaaDoor

namespace Go.Proofs.YtnkcnnmhgomphaaDoor
open Go.RowKit
theorem begin_any (w : World) : Calls Tryd.prog 66 #[] w fun e w' => e = .returned (.agg #[.int .u32 1779033703, .int .u32 3144134277, .int .u32 1013904242, .int .u32 2773480762, .int .u32 1359893119, .int .u32 2600822924, .int .u32 528734635, .int .u32 1541459225]) ∧ Below w.heap.size w w' := by
  go_enter Tryd.func66, Tryd.ntmps66
  go_wp2
  exact bodyPost_ret (v := .agg #[.int .u32 1779033703, .int .u32 3144134277, .int .u32 1013904242, .int .u32 2773480762, .int .u32 1359893119, .int .u32 2600822924, .int .u32 528734635, .int .u32 1541459225]) (by simp [results, Tryd.results66, go_sem]) rfl ⟨rfl, (Below.refl _ _).alloc (Nat.le_refl _) _⟩
theorem wpList_build_to {P : Program} {ops : Array Oper} {rest : List Oper} {o : Oper} {a : Act} {w : World} {Q : Exit → Act → World → Prop} (hg : o.guard = none) (t : TypeId) (parts : Array (Nat × Operand)) (ho : o.op = .build t parts)
    (vs : List (Nat × Value)) (hvs : parts.toList.map (fun p => (p.1, a.eval p.2)) = vs) (cells : Array Value) (hb : P.built t vs = some cells)
    (h : wpList P ops Q rest (a.put o.dst (.agg cells)) w) : wpList P ops Q (o :: rest) a w := by
  have hv : (parts.map fun (i, x) => (i, a.eval x)).toList = vs := by rw [← hvs]; simp
  refine wpList_build hg t parts ho (by rw [hv, hb]; rfl) ?_
  rw [hv, hb]
  exact h
def HNewPost (K : List Int) (w : World) (e : Ending) (w' : World) : Prop := ∃ g, e = .returned (.pointer (some ⟨g, 0, none⟩)) ∧ w.heap.size ≤ g ∧ Below w.heap.size w w' ∧ Hs w' g K []
theorem new_hs (K : List Int) (w : World) : Hs (w.alloc (.cells (hsC z8 (List.replicate 64 0) 0) 122)) w.heap.size K [] :=
  ⟨List.replicate 64 0, by simp, rfl, heap_alloc_new w _⟩
set_option maxRecDepth 100000 in
set_option maxHeartbeats 1000000 in
theorem HNew_any (K : List Int) (w : World) : Calls Tryd.prog 52 #[] w (HNewPost K w) := by
  obtain ⟨CS, hCS⟩ : ∃ CS : Array Value, CS = hsC z8 (List.replicate 64 0) 0 := ⟨_, rfl⟩
  have hbu : Hid (Tryd.prog.built 122 [(0, .agg #[.int .u32 1779033703, .int .u32 3144134277, .int .u32 1013904242, .int .u32 2773480762, .int .u32 1359893119, .int .u32 2600822924, .int .u32 528734635, .int .u32 1541459225])] = some CS) := by show _ = _; rw [hCS]; kernel_rfl
  have HCS := Lib.hid hCS
  clear hCS
  go_enter Tryd.func52, Tryd.ntmps52
  go_wp2_with (first
    | (go_at_call 66; go_must (refine (begin_any _).mono ?_; rintro e w1 ⟨rfl, hb⟩; have HB := Lib.hid hb; clear hb))
    | (refine wpList_build_to rfl _ _ rfl [(0, .agg #[.int .u32 1779033703, .int .u32 3144134277, .int .u32 1013904242, .int .u32 2773480762, .int .u32 1359893119, .int .u32 2600822924, .int .u32 528734635, .int .u32 1541459225])] rfl CS (by with_reducible exact hbu.out) ?_))
  go_ret
  refine ⟨w1.heap.size, rfl, HB.out.size, HB.out.alloc HB.out.size _, ?_⟩
  rw [HCS.out]
  exact new_hs K w1
end Go.Proofs.YtnkcnnmhgomphaaDoor

namespace Go.Proofs.YtnkcnnmhgomphaaDoor
open Go.RowKit
/-- What is written behind n bytes. -/
def padN (n : Nat) : Nat := 1 + (119 - n % 64) % 64
def padF (n : Nat) : List UInt8 := (128 :: List.replicate 71 0).take (padN n) ++ appB (8 * (n : Int)) 8 8
def outB (R : R8) (i : Nat) : List UInt8 := (R.l.take i).flatMap fun x => appB x 4 4
/-- SHA-256. -/
def sumF (K : List Int) (m : List UInt8) : List UInt8 := outB (stF K (m ++ padF m.length)) 8
theorem outB_succ {R : R8} {i : Nat} {x : Int} (h : R.l[i]? = some x) : outB R (i + 1) = outB R i ++ appB x 4 4 := by
  unfold outB
  rw [List.take_add_one, h]
  simp
theorem outB_len (R : R8) (i : Nat) (h : i ≤ 8) : (outB R i).length = 4 * i := by
  induction i with
  | zero => rfl
  | succ i ih =>
    rw [outB_succ (x := R.l[i]'(by rw [l_len]; omega)) (List.getElem?_eq_getElem _), List.length_append, ih (by omega), appB_len]
    omega
theorem sumF_len (K : List Int) (m : List UInt8) : (sumF K m).length = 32 := outB_len _ 8 (by omega)
theorem padN_le (n : Nat) : 1 ≤ padN n ∧ padN n ≤ 64 := by unfold padN; omega
theorem padF_len (n : Nat) : (padF n).length = padN n + 8 := by
  have := padN_le n
  unfold padF
  rw [List.length_append, List.length_take, appB_len]
  simp
  omega
def SumPost (y : List UInt8) (w : World) (e : Ending) (w' : World) : Prop := e = .returned (.agg (bvs y).toArray) ∧ Below w.heap.size w w'
theorem zero32 : ∀ w, (zeroValue 90).run Tryd.prog w = .ok (.agg (bvs (List.replicate 32 0)).toArray) w := fun w => by kernel_rfl
theorem zero73 : ∀ w, (zeroValue 122).run Tryd.prog w = .ok (.agg (hsC ⟨0, 0, 0, 0, 0, 0, 0, 0⟩ (List.replicate 64 0) 0)) w := fun w => by kernel_rfl
theorem make72 (P : Nat) (hP : P ≤ 72) (w : World) : (Instr.makeSlice 48 (.int .u64 (P : Int)) (.int .i64 72)).run Tryd.prog w = .ok (.slice (some ⟨w.heap.size, 0, none⟩) P 72) (w.alloc (.cells (bvs (List.replicate 72 0)).toArray 5)) := by
  obtain ⟨i0, hi0, hz0, hz1, hz2⟩ := info_parts u8info
  have h1 := run_makeSlice (P := Tryd.prog) (w := w) 48 _ i0 _ Tryd.underlying48 hi0 hz0 .u64 .i64 (P : Int) (72 : Int) (by omega) (by omega) (by rw [hz1]; simp) (by rw [hz2]; omega) (by omega)
  rw [hz1] at h1
  have e : madeCells (Value.int .u8 0).cells (72 * 1) = (bvs (List.replicate 72 0)).toArray := by
    apply Array.ext_getElem?
    intro i
    rw [← Array.getElem?_toList, show (Value.int .u8 0).cells = #[.int .u8 0] from rfl, toList_madeCells_one]
    simp [bvs, bv]
  simpa [e] using h1
theorem run_index8s (R : R8) (k : Nat) (x : Int) (h : R.l[k]? = some x) (w : World) :
    (Instr.index 119 (.agg #[.int .u32 R.a, .int .u32 R.c, .int .u32 R.d, .int .u32 R.e, .int .u32 R.f, .int .u32 R.g, .int .u32 R.i, .int .u32 R.j]) (.int .i64 (k : Int))).run Tryd.prog w = .ok (.int .u32 x) w := by
  match k, h with
  | 0, h => simp [R8.l] at h; subst h; change _ = _; kernel_rfl
  | 1, h => simp [R8.l] at h; subst h; change _ = _; kernel_rfl
  | 2, h => simp [R8.l] at h; subst h; change _ = _; kernel_rfl
  | 3, h => simp [R8.l] at h; subst h; change _ = _; kernel_rfl
  | 4, h => simp [R8.l] at h; subst h; change _ = _; kernel_rfl
  | 5, h => simp [R8.l] at h; subst h; change _ = _; kernel_rfl
  | 6, h => simp [R8.l] at h; subst h; change _ = _; kernel_rfl
  | 7, h => simp [R8.l] at h; subst h; change _ = _; kernel_rfl
  | n + 8, h => simp [R8.l] at h
theorem slH32 (g o h : Nat) (hh : h ≤ 32) (w : World) : (Instr.sliceAt 90 (.pointer (some ⟨g, o, none⟩)) none (some (.int .i64 (h : Int))) none).run Tryd.prog w = .ok (.slice (some ⟨g, o, none⟩) h 32) w := by
  have e64 : Tryd.prog.arrayLen 90 = 32 := by kernel_rfl
  have h1 := run_sliceAt_array_h (P := Tryd.prog) w 90 ⟨g, o, none⟩ (by kernel_rfl) .i64 (h : Int) (by omega) (by rw [e64]; omega)
  have hs : (sizeOf (Tryd.prog.elem 90)).run Tryd.prog w = .ok 1 w := by kernel_rfl
  rw [h1, hs, Result.andThen_ok, e64]
  unfold slicedAt
  rw [if_neg (by omega), add_none, Nat.zero_mul, Nat.add_zero, Int.toNat_natCast]
  rfl
end Go.Proofs.YtnkcnnmhgomphaaDoor
