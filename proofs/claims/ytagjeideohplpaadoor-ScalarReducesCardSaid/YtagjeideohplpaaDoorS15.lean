/- The walk of ScalarReduces. No conditions. -/
import Derived.Test.YtagjeideohplpaaDoorS13
namespace Go.Proofs.YtagjeideohplpaaDoor
open Go.RowKit
/-- The 64 bytes, while they are filled. -/
def fillX (l h : List UInt8) : Nat → List UInt8
  | 0 => List.replicate 64 0
  | k + 1 => ((fillX l h k).set k (l.getD k 0)).set (32 + k) (h.getD k 0)
theorem fillX_length (l h : List UInt8) : ∀ k, (fillX l h k).length = 64
  | 0 => by simp [fillX]
  | k + 1 => by simp only [fillX, List.length_set]; exact fillX_length l h k
theorem fillX_at (l h : List UInt8) (hl : l.length = 32) (hh : h.length = 32) : ∀ k, k ≤ 32 → ∀ i, i < 64 → (fillX l h k).getD i 0 = if i < k then (l ++ h).getD i 0 else if 32 ≤ i ∧ i < 32 + k then (l ++ h).getD i 0 else 0
  | 0, _, i, hi => by
    rw [if_neg (by omega), if_neg (by omega)]
    simp only [fillX, List.getD_eq_getElem?_getD, List.getElem?_replicate]
    rw [if_pos hi]
    rfl
  | k + 1, hk, i, hi => by
    have ih := fillX_at l h hl hh k (by omega) i hi
    have hlen := fillX_length l h k
    simp only [fillX]
    by_cases h1 : i = 32 + k
    · subst h1
      rw [if_neg (by omega), if_pos (by omega)]
      simp only [List.getD_eq_getElem?_getD]
      rw [List.getElem?_set_self (by simp [hlen]; omega), List.getElem?_append_right (by omega), show 32 + k - l.length = k from by omega]
      rfl
    · by_cases h2 : i = k
      · subst h2
        rw [if_pos (by omega)]
        simp only [List.getD_eq_getElem?_getD]
        rw [List.getElem?_set_ne (by omega), List.getElem?_set_self (by omega), List.getElem?_append_left (by omega)]
        rfl
      · simp only [List.getD_eq_getElem?_getD] at ih ⊢
        rw [List.getElem?_set_ne (by omega), List.getElem?_set_ne (by omega), ih]
        by_cases h3 : i < k
        · rw [if_pos h3, if_pos (show i < k + 1 by omega)]
        · rw [if_neg h3, if_neg (show ¬ i < k + 1 by omega)]
          by_cases h4 : 32 ≤ i ∧ i < 32 + k
          · rw [if_pos h4, if_pos (show 32 ≤ i ∧ i < 32 + (k + 1) by omega)]
          · rw [if_neg h4, if_neg (show ¬ (32 ≤ i ∧ i < 32 + (k + 1)) by omega)]
theorem fillX_end {l h : List UInt8} (hl : l.length = 32) (hh : h.length = 32) : fillX l h 32 = l ++ h := by
  apply List.ext_getElem?
  intro i
  rcases Nat.lt_or_ge i 64 with hi | hi
  · have h1 := fillX_at l h hl hh 32 (Nat.le_refl _) i hi
    have h2 : (fillX l h 32).getD i 0 = (l ++ h).getD i 0 := by
      rw [h1]
      by_cases h3 : i < 32
      · rw [if_pos h3]
      · rw [if_neg h3, if_pos (by omega)]
    have e1 : i < (fillX l h 32).length := by rw [fillX_length]; exact hi
    have e2 : i < (l ++ h).length := by simp; omega
    rw [List.getD_eq_getElem?_getD, List.getD_eq_getElem?_getD, List.getElem?_eq_getElem e1, List.getElem?_eq_getElem e2] at h2
    rw [List.getElem?_eq_getElem e1, List.getElem?_eq_getElem e2]
    exact congrArg some h2
  · rw [List.getElem?_eq_none (by rw [fillX_length]; omega), List.getElem?_eq_none (by simp; omega)]
theorem bvs_set {l : List UInt8} {k : Nat} {b : UInt8} {v : Value} (hv : v = bv b) : (bvs l).toArray.setIfInBounds k v = (bvs (l.set k b)).toArray := by
  subst hv
  simp [bvs, List.map_set]
theorem bvs_at {l : List UInt8} {k : Nat} (hk : k < l.length) : (bvs l).toArray[k]? = some (bv (l.getD k 0)) := by
  simp [bvs, hk]
def one64 : List UInt8 := (List.replicate 64 0).set 32 1
theorem one64_val : leN one64 = 115792089237316195423570985008687907853269984665640564039457584007913129639936 := by decide +kernel
theorem reduces_math (a b : Nat) : (a + 115792089237316195423570985008687907853269984665640564039457584007913129639936 * b) % ordN = (b * (115792089237316195423570985008687907853269984665640564039457584007913129639936 % ordN) + a) % ordN := by
  rw [Nat.add_mod (b * _) a, Nat.mul_mod b (_ % ordN), Nat.mod_mod, ← Nat.mul_mod, ← Nat.add_mod, Nat.add_comm, Nat.mul_comm]
theorem zero64 : ∃ zs : Array Value, zs = (bvs (List.replicate 64 0)).toArray ∧ (∀ w, (zeroValue 24).run Tryd.prog w = .ok (.agg zs) w) := ⟨_, rfl, fun w => by kernel_rfl⟩
/-- The blocks of ScalarReduces, while the bytes are filled. -/
structure Rf (w2 wr : World) (X : List UInt8) (zs : Array Value) : Prop where
  below : Below w2.heap.size w2 wr
  row : wr.heap[w2.heap.size]? = some (.cells (bvs X).toArray 24 (0, 0))
  one : wr.heap[w2.heap.size + 1]? = some (.cells zs 24 (0, 0))
theorem Rf.drew {w2 wr w' : World} {X : List UInt8} {zs : Array Value} (h : Rf w2 wr X zs) (hb : Below wr.heap.size wr w') : Rf w2 w' X zs := ⟨h.below.trans (hb.mono h.below.size), heap_below h.row hb, heap_below h.one hb⟩
theorem Rf.set {w2 wr : World} {X : List UInt8} {zs : Array Value} (h : Rf w2 wr X zs) {k : Nat} {b : UInt8} : Rf w2 (wr.setCell ⟨w2.heap.size, k, none⟩ (bv b)) (X.set k b) zs := by
  refine ⟨h.below.setCell (p := ⟨w2.heap.size, k, none⟩) (Nat.le_refl _) _, ?_, (Below.heap_setCell _ _ _ _ (by show w2.heap.size + 1 ≠ w2.heap.size; omega)).trans h.one⟩
  have h1 := heap_setCell_same wr w2.heap.size k _ _ (bv b) h.row
  rw [bvs_set rfl] at h1
  exact h1
theorem Rf.start (w2 : World) (zs : Array Value) (hz : zs = (bvs (List.replicate 64 0)).toArray) (l h : List UInt8) : Rf w2 ((w2.alloc (.cells zs 24)).alloc (.cells zs 24)) (fillX l h 0) zs := by
  refine ⟨((Below.refl _ _).alloc (Nat.le_refl _) _).alloc (by simp) _, ?_, ?_⟩
  · rw [Below.heap_alloc _ _ _ (by simp), hz]; exact heap_alloc_new w2 _
  · have h1 := heap_alloc_new (w2.alloc (.cells zs 24)) (.cells zs 24)
    rw [show (w2.alloc (.cells zs 24)).heap.size = w2.heap.size + 1 from by simp] at h1
    exact h1
theorem Lb.cell {bs : List (Nat × Array Value)} {w : World} (h : Lb bs w) {b : Nat} {l : List UInt8} (hm : (b, (bvs l).toArray) ∈ bs) {k : Nat} (hk : k < l.length) : w.cell? ⟨b, k, none⟩ = some (bv (l.getD k 0)) := by
  have h1 := h.range hm k (bv (l.getD k 0)) (by simp [bvs, hk])
  rw [Nat.zero_add] at h1
  exact h1
theorem Lb.cons {bs : List (Nat × Array Value)} {w : World} {b : Nat} {xs : Array Value} {t : TypeId} (hr : w.heap[b]? = some (.cells xs t (0, 0))) (h : Lb bs w) : Lb ((b, xs) :: bs) w := fun e he => by
  rcases List.mem_cons.1 he with rfl | he
  · exact ⟨lt_of_heap hr, range_row hr⟩
  · exact h e he
theorem leN_pair {l h : List UInt8} (hl : l.length = 32) : leN (l ++ h) = leN l + 115792089237316195423570985008687907853269984665640564039457584007913129639936 * leN h := by
  rw [leN_app, hl]
set_option maxRecDepth 100000 in
set_option maxHeartbeats 2000000 in
theorem reduces_any (l h : List UInt8) (hl : l.length = 32) (hh : h.length = 32) (w : World) (ho : Ord w) : Calls Tryd.prog 3 #[.agg (bvs l).toArray, .agg (bvs h).toArray] w (fun e w' => e = .returned (.bool true) ∧ Below w.heap.size w w') := by
  obtain ⟨zs, hz, hz24⟩ := zero64
  obtain ⟨xs, hxs⟩ : ∃ xs : Array Value, xs = (bvs l).toArray := ⟨_, rfl⟩
  obtain ⟨ys, hys⟩ : ∃ ys : Array Value, ys = (bvs h).toArray := ⟨_, rfl⟩
  rw [← hxs, ← hys]
  have HX : Hid (Num xs (leN l)) := by show Num _ _; rw [hxs]; exact Num.of hl
  have HY : Hid (Num ys (leN h)) := by show Num _ _; rw [hys]; exact Num.of hh
  have Hxs := Lib.hid hxs
  have Hys := Lib.hid hys
  have Hz := Lib.hid hz
  have Hl := Lib.hid hl
  have Hh := Lib.hid hh
  have L2 := Lib.hid (Lb.two (w := w) (xs := xs) (ys := ys))
  have Ho := Lib.hid ho
  clear hxs hys hz hl hh ho
  go_enter Tryd.func3, Tryd.ntmps3
  go_wp2_with (first
    | (go_at_call 7; go_must (refine (awake_any _ (Ho.out.below L2.out.2.1)).mono ?_; rintro e w2 ⟨rfl, hb2⟩; have F2 : Hid (Lb [(w.heap.size, xs), (w.heap.size + 1, ys)] w2 ∧ Below w.heap.size w w2) := ⟨L2.out.1.below hb2, L2.out.2.1.trans (hb2.mono L2.out.2.1.size)⟩; clear hb2)))
  go_loopw [10] (fun i wr => ∃ k : Nat, k ≤ 32 ∧ i = .int .i64 k ∧ Hid (Rf w2 wr (fillX l h k) zs)) (fun i _ => 32 - (intOf i).toNat)
  case atStart => exact ⟨0, by omega, rfl, Rf.start w2 zs Hz.out l h⟩
  case round =>
    obtain ⟨k, hk, rfl, hR⟩ := hrel
    by_cases hlt : k < 32
    · have hlt' : (k : Int) < 32 := by omega
      have hk0 : (0 : Int) ≤ (k : Int) := by omega
      go_wp2
      refine AnyC.startB (Lb [(w.heap.size, xs), (w.heap.size + 1, ys)]) (by kernel_rfl) rfl ?_
      intro wd hbd _
      have hD := Lib.hid (hR.out.drew hbd)
      have hLb : Hid (Lb [(w.heap.size, xs), (w.heap.size + 1, ys)] wd) := F2.out.1.below hD.out.below
      clear hbd hR
      obtain ⟨u, hu⟩ : ∃ u, u = l.getD k 0 := ⟨_, rfl⟩
      obtain ⟨v, hv⟩ : ∃ v, v = h.getD k 0 := ⟨_, rfl⟩
      have hcl : ∀ w', Lb [(w.heap.size, xs), (w.heap.size + 1, ys)] w' → w'.cell? ⟨w.heap.size, k, none⟩ = some (.int .u8 (u.toNat : Int)) := fun w' hC => by rw [Hxs.out] at hC; rw [hu]; exact hC.cell (by simp) (by rw [Hl.out]; exact hlt)
      have hch : ∀ w', Lb [(w.heap.size, xs), (w.heap.size + 1, ys)] w' → w'.cell? ⟨w.heap.size + 1, k, none⟩ = some (.int .u8 (v.toNat : Int)) := fun w' hC => by rw [Hys.out] at hC; rw [hv]; exact hC.cell (by simp) (by rw [Hh.out]; exact hlt)
      have Hcl := Lib.hid hcl
      have Hch := Lib.hid hch
      have hD2 : Hid (Rf w2 ((wd.setCell ⟨w2.heap.size, k, none⟩ (.int .u8 (u.toNat : Int))).setCell ⟨w2.heap.size, 32 + k, none⟩ (.int .u8 (v.toNat : Int))) (fillX l h (k + 1)) zs) := by
        show Rf _ _ _ _
        rw [fillX, ← hu, ← hv]
        exact (hD.out.set (b := u)).set (b := v)
      obtain ⟨a1, ha1⟩ : ∃ a, a = (fillX l h k).getD k 0 := ⟨_, rfl⟩
      obtain ⟨a2, ha2⟩ : ∃ a, a = ((fillX l h k).set k u).getD (32 + k) 0 := ⟨_, rfl⟩
      have hin1 : wd.cell? ⟨w2.heap.size, k, none⟩ = some (.int .u8 (a1.toNat : Int)) := by rw [cell_of_row wd w2.heap.size k _ _ _ hD.out.row, bvs_at (by rw [fillX_length]; omega), ← ha1]; rfl
      have hfz1 := frozen_row hD.out.row k
      have hD1 := hD.out.set (k := k) (b := u)
      have hin2 : (wd.setCell ⟨w2.heap.size, k, none⟩ (.int .u8 (u.toNat : Int))).cell? ⟨w2.heap.size, 32 + k, none⟩ = some (.int .u8 (a2.toNat : Int)) := (cell_of_row _ w2.heap.size (32 + k) _ _ _ hD1.row).trans (by rw [bvs_at (by rw [List.length_set, fillX_length]; omega), ← ha2]; rfl)
      have hfz2 : (wd.setCell ⟨w2.heap.size, k, none⟩ (.int .u8 (u.toNat : Int))).frozen? ⟨w2.heap.size, 32 + k, none⟩ = false := frozen_row hD1.row (32 + k)
      have hLb2 : Hid (Lb [(w.heap.size, xs), (w.heap.size + 1, ys)] (wd.setCell ⟨w2.heap.size, k, none⟩ (.int .u8 (u.toNat : Int)))) := F2.out.1.below hD1.below
      have hLb3 : Hid (Lb [(w.heap.size, xs), (w.heap.size + 1, ys)] ((wd.setCell ⟨w2.heap.size, k, none⟩ (.int .u8 (u.toNat : Int))).setCell ⟨w2.heap.size, 32 + k, none⟩ (.int .u8 (v.toNat : Int)))) := F2.out.1.below hD2.out.below
      clear hu hv ha1 ha2 hcl hch hD1
      apply AnyC.take (i := 0) rfl (by kernel_rfl) rfl
      · intro w' hC K hK
        go_wp2
        exact hK
      · rfl
      apply AnyC.take (i := 1) rfl (by kernel_rfl) rfl
      · intro w' hC K hK
        go_wp2
        exact hK
      · rfl
      apply AnyC.take (i := 2) rfl (by kernel_rfl) rfl
      · intro w' hC K hK
        go_wp2
        exact hK
      · rfl
      apply AnyC.take (i := 3) rfl (by kernel_rfl) rfl
      · intro w' hC K hK
        go_wp2
        exact hK
      · rfl
      apply AnyC.take (i := 4) rfl (by kernel_rfl) rfl
      · intro w' hC K hK
        go_wp2
        exact hK
      · rfl
      apply AnyC.take (i := 5) rfl (by kernel_rfl) rfl
      · intro w' hC K hK
        have co := Hcl.out w' hC
        go_wp2
        exact hK
      · rfl
      apply AnyC.take (i := 6) rfl (by kernel_rfl) rfl
      · intro w' hC K hK
        go_wp2
        exact hK
      · rfl
      apply AnyC.take (i := 7) rfl (by kernel_rfl) rfl
      · intro w' hC K hK
        go_wp2
        exact hK
      · rfl
      apply AnyC.take (i := 8) rfl (by kernel_rfl) rfl
      · intro w' hC K hK
        have co := Hch.out w' hC
        go_wp2
        exact hK
      · rfl
      apply AnyC.take (i := 9) rfl (by kernel_rfl) rfl
      · intro w' hC K hK
        go_wp2
        exact hK
      · rfl
      apply AnyC.solo (i := 10) rfl (by kernel_rfl) hLb.out
      go_wp2
      refine ⟨rfl, ?_⟩
      apply AnyC.take (i := 11) rfl (by kernel_rfl) rfl
      · intro w' hC K hK
        go_wp2
        exact hK
      · rfl
      apply AnyC.solo (i := 12) rfl (by kernel_rfl) hLb2.out
      go_wp2
      refine ⟨rfl, ?_⟩
      refine AnyC.done hLb3.out (by kernel_rfl) ?_
      go_wp2
      go_roundw
      case rel => exact ⟨k + 1, hlt, by go_num, hD2⟩
      case measure => simp [intOf]; omega
    · obtain rfl : k = 32 := by omega
      obtain ⟨ws, hws⟩ : ∃ ws : Array Value, ws = (bvs (l ++ h)).toArray := ⟨_, rfl⟩
      obtain ⟨os, hos⟩ : ∃ os : Array Value, os = (bvs one64).toArray := ⟨_, rfl⟩
      have hin1 : wr.cell? ⟨w2.heap.size + 1, 32, none⟩ = some (.int .u8 0) := (cell_of_row wr (w2.heap.size + 1) 32 _ _ _ hR.out.one).trans (by rw [Hz.out]; rfl)
      have hfz1 := frozen_row hR.out.one 32
      have hB5 : Hid (Below w2.heap.size w2 (wr.setCell ⟨w2.heap.size + 1, 32, none⟩ (.int .u8 1))) := hR.out.below.setCell (p := ⟨w2.heap.size + 1, 32, none⟩) (by show w2.heap.size ≤ w2.heap.size + 1; omega) _
      have hL4 : Hid (Lb [(w2.heap.size, ws), (w2.heap.size + 1, os), (w.heap.size, xs), (w.heap.size + 1, ys)] (wr.setCell ⟨w2.heap.size + 1, 32, none⟩ (.int .u8 1))) := by
        have h1 := heap_setCell_same wr (w2.heap.size + 1) 32 _ _ (.int .u8 1) hR.out.one
        have h2 : zs.setIfInBounds 32 (.int .u8 1) = os := by rw [Hz.out, hos, one64]; exact bvs_set rfl
        rw [h2] at h1
        have h3 := (Below.heap_setCell wr ⟨w2.heap.size + 1, 32, none⟩ (.int .u8 1) w2.heap.size (by show w2.heap.size ≠ w2.heap.size + 1; omega)).trans hR.out.row
        rw [fillX_end Hl.out Hh.out, ← hws] at h3
        exact Lb.cons h3 (Lb.cons h1 (F2.out.1.below hB5.out))
      have Hws := Lib.hid hws
      have Hos := Lib.hid hos
      have Hwz : Hid (ws.size = 64) := by show ws.size = 64; rw [hws]; simp [bvs_length, Hl.out, Hh.out]
      have Hoz : Hid (os.size = 64) := by show os.size = 64; rw [hos]; rfl
      clear hws hos hR
      go_wp2
      refine AnyC.startB (Lb [(w2.heap.size, ws), (w2.heap.size + 1, os), (w.heap.size, xs), (w.heap.size + 1, ys)]) (by kernel_rfl) rfl ?_
      intro w4 hb4 _
      have L4 : Hid (Lb [(w2.heap.size, ws), (w2.heap.size + 1, os), (w.heap.size, xs), (w.heap.size + 1, ys)] w4) := hL4.out.below hb4
      have B4 : Hid (Below w.heap.size w w4) := (F2.out.2.trans (hB5.out.mono F2.out.2.size)).trans (hb4.mono (F2.out.2.trans (hB5.out.mono F2.out.2.size)).size)
      clear hb4 hL4 hB5 hin1 hfz1
      apply AnyC.take (i := 0) rfl (by kernel_rfl) rfl
      · intro w' hC K hK
        refine wpList_load_arr rfl _ _ rfl w2.heap.size 0 rfl ws _ (hC.range (by simp)) Tryd.underlying24 rfl (by rw [Hwz.out]; kernel_rfl) ?_
        go_wp2
        exact hK
      · rfl
      apply AnyC.take (i := 2) rfl (by kernel_rfl) rfl
      · intro w' hC K hK
        refine wpList_load_box hC (by kernel_rfl) _ rfl (w.heap.size + 1) ys (by simp) HY.out.size rfl ?_
        go_wp2
        exact hK
      · rfl
      apply AnyC.take (i := 3) rfl (by kernel_rfl) rfl
      · intro w' hC K hK
        refine wpList_load_arr rfl _ _ rfl (w2.heap.size + 1) 0 rfl os _ (hC.range (by simp)) Tryd.underlying24 rfl (by rw [Hoz.out]; kernel_rfl) ?_
        go_wp2
        exact hK
      · rfl
      apply AnyC.take (i := 5) rfl (by kernel_rfl) rfl
      · intro w' hC K hK
        refine wpList_load_box hC (by kernel_rfl) _ rfl (w.heap.size) xs (by simp) HX.out.size rfl ?_
        go_wp2
        exact hK
      · rfl
      apply AnyC.solo (i := 1) rfl (by kernel_rfl) L4.out
      go_wp2_with (go_at_call 8; go_must (have h_ := Reduce_n (l ++ h) (by rw [List.length_append, Hl.out, Hh.out]) (leN_pair Hl.out) w4 (Ho.out.below B4.out); rw [← Hws.out] at h_; refine h_.mono ?_; rintro e w5 ⟨r5, rfl, hn, hb⟩; have N5 := Lib.hid hn; have L5 := Lib.hid (L4.out.below hb); have B5 := Lib.hid (B4.out.trans (hb.mono B4.out.size)); clear hn hb h_))
      refine ⟨rfl, ?_⟩
      apply AnyC.solo (i := 4) rfl (by kernel_rfl) L5.out
      go_wp2_with (go_at_call 8; go_must (have h_ := Reduce_n one64 rfl one64_val w5 (Ho.out.below B5.out); rw [← Hos.out] at h_; refine h_.mono ?_; rintro e w6 ⟨r6, rfl, hn, hb⟩; have N6 := Lib.hid hn; have L6 := Lib.hid (L5.out.below hb); have B6 := Lib.hid (B5.out.trans (hb.mono B5.out.size)); clear hn hb h_))
      refine ⟨rfl, ?_⟩
      apply AnyC.solo (i := 6) rfl (by kernel_rfl) L6.out
      go_wp2_with (go_at_call 9; go_must (refine (MulAdd_n HY.out N6.out HX.out w6 (Ho.out.below B6.out)).mono ?_; rintro e w7 ⟨r7, rfl, hn, hb⟩; have N7 := Lib.hid hn; have L7 := Lib.hid (L6.out.below hb); have B7 := Lib.hid (B6.out.trans (hb.mono B6.out.size)); clear hn hb))
      refine ⟨rfl, ?_⟩
      have heq := eq_true N5.out N7.out (reduces_math _ _)
      apply AnyC.take (i := 7) rfl (by kernel_rfl) rfl
      · intro w' hC K hK
        go_wp2
        exact hK
      · rfl
      apply AnyC.take (i := 8) rfl (by kernel_rfl) rfl
      · intro w' hC K hK
        go_wp2
        exact hK
      · rfl
      refine AnyC.done L7.out (by kernel_rfl) ?_
      go_wp2
      refine bodyPost_ret (v := .bool true) (by simp [results, Tryd.results3]) rfl ⟨rfl, B7.out⟩
end Go.Proofs.YtagjeideohplpaaDoor
