/- The reference: from and bytesOf. No conditions. -/
import Derived.Test.YtagjeideohplpaaDoorS18
namespace Go.Proofs.YtagjeideohplpaaDoor
open Go.RowKit
theorem W4.setw_val (x : W4) {j : Nat} (v : Nat) (hj : j < 4) : (x.setw j v).val + 18446744073709551616 ^ j * x.wd j = x.val + 18446744073709551616 ^ j * v := by
  have h0 : j = 0 ∨ j = 1 ∨ j = 2 ∨ j = 3 := by omega
  rcases h0 with rfl | rfl | rfl | rfl <;> simp [W4.setw, W4.val, W4.wd] <;> omega
theorem W4.wd_le (x : W4) {j : Nat} (hj : j < 4) : 18446744073709551616 ^ j * x.wd j ≤ x.val := by
  have h0 : j = 0 ∨ j = 1 ∨ j = 2 ∨ j = 3 := by omega
  rcases h0 with rfl | rfl | rfl | rfl <;> simp [W4.val, W4.wd] <;> omega
theorem pow_256 {k : Nat} : 256 ^ k = 18446744073709551616 ^ (k / 8) * 2 ^ (8 * (k % 8)) := by
  rw [show (256 : Nat) = 2 ^ 8 from rfl, show (18446744073709551616 : Nat) = 2 ^ 64 from rfl, ← Nat.pow_mul, ← Nat.pow_mul, ← Nat.pow_add]
  congr 1
  omega
theorem leN_take {l : List UInt8} {k : Nat} (hk : k < l.length) : leN (l.take (k + 1)) = leN (l.take k) + 256 ^ k * (l.getD k 0).toNat := by
  rw [List.take_add_one, leN_app, List.getElem?_eq_getElem hk, List.length_take, Nat.min_eq_left (Nat.le_of_lt hk)]
  simp [leN, List.getD, List.getElem?_eq_getElem hk]
theorem from_step {d : W4} {l : List UInt8} {k : Nat} (hk : k < 32) (hl : l.length = 32) (hd : d.ok) (hv : d.val = leN (l.take k)) :
    bits BinOp.or IntKind.u64 (d.wd (k / 8) : Int) (IntKind.u64.wrap (((l.getD k 0).toNat : Int) * 2 ^ (8 * (k % 8)))) = ((d.wd (k / 8) + (l.getD k 0).toNat * 2 ^ (8 * (k % 8)) : Nat) : Int) ∧
    (d.setw (k / 8) (d.wd (k / 8) + (l.getD k 0).toNat * 2 ^ (8 * (k % 8)))).ok ∧ (d.setw (k / 8) (d.wd (k / 8) + (l.getD k 0).toNat * 2 ^ (8 * (k % 8)))).val = leN (l.take (k + 1)) := by
  have hq : k / 8 < 4 := by omega
  have hlt : d.wd (k / 8) < 2 ^ (8 * (k % 8)) := by
    have h1 := d.wd_le hq
    have h2 := leN_lt (l.take k)
    rw [List.length_take, Nat.min_eq_left (by omega), pow_256, ← hv] at h2
    exact Nat.lt_of_mul_lt_mul_left (Nat.lt_of_le_of_lt h1 h2)
  have hb : (l.getD k 0).toNat < 256 := UInt8.toNat_lt _
  have ht := leN_take (l := l) (k := k) (by omega)
  rw [← hv, pow_256] at ht
  rw [ht]
  clear ht
  generalize (l.getD k 0).toNat = b at *
  have hs : 2 ^ (8 * (k % 8)) * 256 ≤ 18446744073709551616 := by
    have h1 : (2 : Nat) ^ (8 * (k % 8) + 8) ≤ 2 ^ 64 := Nat.pow_le_pow_right (by decide) (by omega)
    rw [Nat.pow_add] at h1
    exact h1
  have hbs : b * 2 ^ (8 * (k % 8)) + 2 ^ (8 * (k % 8)) ≤ 18446744073709551616 := by
    have h1 : (b + 1) * 2 ^ (8 * (k % 8)) ≤ 256 * 2 ^ (8 * (k % 8)) := Nat.mul_le_mul_right _ (by omega)
    rw [Nat.add_mul, Nat.one_mul] at h1
    omega
  have hsum : d.wd (k / 8) + b * 2 ^ (8 * (k % 8)) < 18446744073709551616 := by omega
  refine ⟨?_, W4.setw_ok hd hsum, ?_⟩
  · have e1 : ((b : Int) * 2 ^ (8 * (k % 8))) = ((b * 2 ^ (8 * (k % 8)) : Nat) : Int) := by push_cast; rfl
    rw [e1, show IntKind.u64.wrap ((b * 2 ^ (8 * (k % 8)) : Nat) : Int) = ((b * 2 ^ (8 * (k % 8)) : Nat) : Int) from by
      rw [show IntKind.u64.wrap ((b * 2 ^ (8 * (k % 8)) : Nat) : Int) = ((b * 2 ^ (8 * (k % 8)) : Nat) : Int) % 18446744073709551616 from rfl]; omega, bits_or_u64_nat _ _ (by omega) (by omega)]
    congr 1
    rw [Nat.or_comm, Nat.mul_comm b, ← Nat.two_pow_add_eq_or_of_lt hlt, Nat.add_comm]
  · have h1 := d.setw_val (d.wd (k / 8) + b * 2 ^ (8 * (k % 8))) hq
    have e : 18446744073709551616 ^ (k / 8) * (d.wd (k / 8) + b * 2 ^ (8 * (k % 8))) = 18446744073709551616 ^ (k / 8) * d.wd (k / 8) + 18446744073709551616 ^ (k / 8) * 2 ^ (8 * (k % 8)) * b := by
      rw [Nat.mul_add, Nat.mul_comm b, Nat.mul_assoc]
    rw [e] at h1
    omega
theorem P1.set {w wr : World} {d : W4} (h : P1 w wr d) {k v : Nat} (hk : k < 4) : P1 w (wr.setCell ⟨w.heap.size + 1, k, none⟩ (.int .u64 (v : Int))) (d.setw k v) := by
  refine ⟨h.below.setCell (p := ⟨w.heap.size + 1, k, none⟩) (by show w.heap.size ≤ w.heap.size + 1; omega) _, (Below.heap_setCell _ _ _ _ (by show w.heap.size ≠ w.heap.size + 1; omega)).trans h.r0, ?_⟩
  have h1 := heap_setCell_same wr (w.heap.size + 1) k _ _ (.int .u64 (v : Int)) h.d1
  rw [W4.setw_cs d v hk] at h1
  exact h1
set_option maxRecDepth 100000 in
set_option maxHeartbeats 2000000 in
theorem from_any {A : Option Addr} {c : Nat} (l : List UInt8) (hl : l.length = 32) (w : World) (hr : Reads w w.heap.size 1 A l.length (bvs l)) :
    Calls Tryd.prog 26 #[.slice A 32 c] w (NumPost (leN l) w) := by
  have hz48 : ∀ w, (zeroValue 48).run Tryd.prog w = .ok (.agg (W4.mk 0 0 0 0).cs) w := fun w => by kernel_rfl
  obtain ⟨b, off, rfl, hb, hcell⟩ := hr.bytes (by omega)
  have Hcell := Lib.hid hcell
  have Hb := Lib.hid hb
  have Hl := Lib.hid hl
  have HS := Lib.hid (P1.start w)
  clear hr hcell hb hl
  go_enter Tryd.func26, Tryd.ntmps26
  go_wp2
  go_loopw [7] (fun i wr => ∃ (k : Nat) (d : W4), k ≤ 32 ∧ i = .int .i64 (k : Int) ∧ Hid (d.ok ∧ d.val = leN (l.take k)) ∧ Hid (P1 w wr d)) (fun i _ => 32 - (intOf i).toNat)
  case atStart => exact ⟨0, ⟨0, 0, 0, 0⟩, by omega, rfl, ⟨⟨by decide, by decide, by decide, by decide⟩, rfl⟩, HS⟩
  case round =>
    obtain ⟨k, d, hk, rfl, hd, h3⟩ := hrel
    clear HS
    by_cases hlt : k < 32
    · have hlt' : (k : Int) < 32 := by omega
      have hk0 : (0 : Int) ≤ (k : Int) := by omega
      have Hst := Lib.hid (from_step hlt Hl.out hd.out.1 hd.out.2)
      obtain ⟨u, hu⟩ : ∃ u, u = l.getD k 0 := ⟨_, rfl⟩
      rw [← hu] at Hst
      have HC : Hid (∀ w', Below w.heap.size w w' → w'.cell? ⟨b, off + k, none⟩ = some (.int .u8 (u.toNat : Int))) := fun w' hb' => (hb'.cell (p := ⟨b, off + k, none⟩) Hb.out).trans (by have h_ := Hcell.out k (by rw [Hl.out]; exact hlt); rw [← hu] at h_; exact h_)
      have hq4 : k / 8 < 4 := by omega
      have Hq := Lib.hid hq4
      clear hu hq4
      go_wp2
      refine AnyZ.start [18] (by kernel_rfl) rfl ?_
      apply AnyZ.take (i := 0) rfl (by kernel_rfl) (by kernel_rfl) rfl
      · intro w' hC K hK
        go_wp2
        exact hK
      · rfl
      apply AnyZ.take (i := 1) rfl (by kernel_rfl) (by kernel_rfl) rfl
      · intro w' hC K hK
        go_wp2
        exact hK
      · rfl
      apply AnyZ.take (i := 2) rfl (by kernel_rfl) (by kernel_rfl) rfl
      · intro w' hC K hK
        go_wp2
        exact hK
      · rfl
      apply AnyZ.take (i := 3) rfl (by kernel_rfl) (by kernel_rfl) rfl
      · intro w' hC K hK
        go_wp2
        exact hK
      · rfl
      apply AnyZ.take (i := 4) rfl (by kernel_rfl) (by kernel_rfl) rfl
      · intro w' hC K hK
        go_wp2
        exact hK
      · rfl
      apply AnyZ.take (i := 5) rfl (by kernel_rfl) (by kernel_rfl) rfl
      · intro w' hC K hK
        have co := cellw (h3.out.drew hC).d1 Hq.out
        go_wp2
        exact hK
      · rfl
      apply AnyZ.take (i := 6) rfl (by kernel_rfl) (by kernel_rfl) rfl
      · intro w' hC K hK
        go_wp2
        exact hK
      · rfl
      apply AnyZ.take (i := 7) rfl (by kernel_rfl) (by kernel_rfl) rfl
      · intro w' hC K hK
        go_wp2
        exact hK
      · rfl
      apply AnyZ.take (i := 8) rfl (by kernel_rfl) (by kernel_rfl) rfl
      · intro w' hC K hK
        go_wp2
        exact hK
      · rfl
      apply AnyZ.take (i := 9) rfl (by kernel_rfl) (by kernel_rfl) rfl
      · intro w' hC K hK
        have cu := HC.out _ (h3.out.drew hC).below
        go_wp2
        exact hK
      · rfl
      apply AnyZ.take (i := 10) rfl (by kernel_rfl) (by kernel_rfl) rfl
      · intro w' hC K hK
        go_wp2
        exact hK
      · rfl
      apply AnyZ.take (i := 11) rfl (by kernel_rfl) (by kernel_rfl) rfl
      · intro w' hC K hK
        go_wp2
        exact hK
      · rfl
      apply AnyZ.take (i := 12) rfl (by kernel_rfl) (by kernel_rfl) rfl
      · intro w' hC K hK
        go_wp2
        exact hK
      · rfl
      apply AnyZ.take (i := 13) rfl (by kernel_rfl) (by kernel_rfl) rfl
      · intro w' hC K hK
        go_wp2
        exact hK
      · rfl
      apply AnyZ.take (i := 14) rfl (by kernel_rfl) (by kernel_rfl) rfl
      · intro w' hC K hK
        go_wp2
        exact hK
      · rfl
      apply AnyZ.take (i := 15) rfl (by kernel_rfl) (by kernel_rfl) rfl
      · intro w' hC K hK
        go_wp2
        exact hK
      · rfl
      apply AnyZ.take (i := 16) rfl (by kernel_rfl) (by kernel_rfl) rfl
      · intro w' hC K hK
        have hor := Hst.out.1
        go_wp2
        exact hK
      · rfl
      apply AnyZ.take (i := 17) rfl (by kernel_rfl) (by kernel_rfl) rfl
      · intro w' hC K hK
        go_wp2
        exact hK
      · rfl
      apply AnyZ.soloW (i := 18) rfl (by kernel_rfl)
      intro wb hCb
      have hb := Lib.hid (h3.out.drew hCb)
      clear hCb
      have co := cellw hb.out.d1 Hq.out
      have hfz := frozen_row hb.out.d1 (k / 8)
      go_wp2
      refine ⟨rfl, ?_⟩
      refine AnyW.done (by kernel_rfl) ?_
      go_wp2
      go_roundw
      case rel => exact ⟨k + 1, _, hlt, by go_num, Hst.out.2, by
        have e1 : IntKind.u64.wrap (u.toNat : Int) = (u.toNat : Int) := by
          rw [show IntKind.u64.wrap (u.toNat : Int) = (u.toNat : Int) % 18446744073709551616 from rfl]
          have := u.toNat_lt
          omega
        show P1 _ _ _
        rw [e1, Hst.out.1]
        exact hb.out.set Hq.out⟩
      case measure => simp [intOf]; omega
    · obtain rfl : k = 32 := by omega
      obtain ⟨e0, e1, e2, e3⟩ := cell4 h3.out.d1
      obtain ⟨z0, z1, z2, z3⟩ := cell4 h3.out.r0
      have hfz : ∀ i, wr.frozen? ⟨w.heap.size, i, none⟩ = false := fun i => frozen_row h3.out.r0 i
      have hld : (loadVar 48 ⟨w.heap.size, 0, none⟩).run Tryd.prog (wr.setCells w.heap.size 0 d.cs.toList) = .ok (.agg d.cs) (wr.setCells w.heap.size 0 d.cs.toList) := ret48 (World.rangeAt_setCells_same _ _ _ _ (there_row h3.out.r0 (Nat.le_refl 4)))
      go_wp2
      refine bodyPost_ret (v := .agg d.cs) (by simp [results, Tryd.results26, asAddr]; exact hld) rfl ⟨d, rfl, hd.out.1, ?_, ?_⟩
      · rw [hd.out.2, List.take_of_length_le (by rw [Hl.out]; exact Nat.le_refl _)]
      · exact below4 h3.out.below (Nat.le_refl _)
set_option maxRecDepth 100000 in
set_option maxHeartbeats 1000000 in
theorem bytesOf_any (x : W4) (hx : x.ok) (w : World) : Calls Tryd.prog 28 #[.agg x.cs] w (BytesPost (genL (byteW x) 32) w) := by
  obtain ⟨zs, hzs⟩ : ∃ zs : Array Value, zs = genC (byteW x) 32 0 := ⟨_, rfl⟩
  have hz32 : ∀ w, (zeroValue 22).run Tryd.prog w = .ok (.agg zs) w := fun w => by rw [hzs]; kernel_rfl
  have Hzs := Lib.hid hzs
  have hzz : zs.size = 32 := by rw [hzs]; exact genC_size _ _ _
  have Hx := Lib.hid hx
  have hthz := there_new (w.alloc (.cells x.cs 48)) zs 22 32 (by omega)
  have hX : ((w.alloc (.cells x.cs 48)).alloc (.cells zs 22)).heap[w.heap.size]? = some (.cells x.cs 48 (0, 0)) := by
    rw [Below.heap_alloc _ _ _ (by simp)]; exact heap_alloc_new w _
  rw [show (w.alloc (.cells x.cs 48)).heap.size = w.heap.size + 1 from by simp] at hthz
  have HX := Lib.hid hX
  have Hth := Lib.hid hthz
  clear hzs hzz hx hX hthz
  go_enter Tryd.func28, Tryd.ntmps28
  go_wp2
  go_loopw [5] (fun i wr => ∃ (k : Nat) (cs : Array Value) (wz : World), k ≤ 32 ∧ i = .int .i64 k ∧ Hid (cs = genC (byteW x) 32 k) ∧ wr = wz.alloc (.cells cs 22) ∧ Hid (w.heap.size + 2 = wz.heap.size) ∧ Hid (wz.there (w.heap.size + 1) 0 32 ∧ wz.heap[w.heap.size]? = some (.cells x.cs 48 (0, 0))) ∧ Hid (Below w.heap.size w wz)) (fun i _ => 32 - (intOf i).toNat)
  case atStart => exact ⟨0, _, _, by omega, rfl, Hzs.out, rfl, (by simp : w.heap.size + 2 = ((w.alloc _).alloc _).heap.size), ⟨Hth.out, HX.out⟩, (((Below.refl _ _).alloc (Nat.le_refl _) _).alloc (by simp) _)⟩
  case round =>
    obtain ⟨k, cs, wz, hk, rfl, hcs, rfl, hsz, hth, hbw⟩ := hrel
    clear HX Hth
    have hsz' : w.heap.size + 2 = wz.heap.size := hsz.out
    by_cases hlt : k < 32
    · have hlt' : (k : Int) < 32 := by omega
      have hk0 : (0 : Int) ≤ (k : Int) := by omega
      have hcell : (wz.alloc (.cells cs 22)).cell? ⟨wz.heap.size, k, none⟩ = cs[k]? := cell_new _ _ _ _
      have hck : cs[k]? = some (.int .u8 0) := by rw [hcs.out]; simp [genC, hlt]
      have hbox : (wz.alloc (.cells cs 22)).cell? ⟨w.heap.size, k / 8, none⟩ = some (.int .u64 (x.wd (k / 8) : Int)) := by
        rw [World.cell?_alloc_lt _ _ _ (by simp; omega), cell_of_row wz w.heap.size (k / 8) _ _ _ hth.out.2]
        exact x.at_ (by omega)
      go_wp2
      go_roundw
      case rel => exact ⟨k + 1, _, wz, hlt, by go_num, (by show _ = _; rw [hcs.out]; exact genC_set _ 32 k hlt (byte_val x k)), rfl, hsz, hth, hbw⟩
      case measure => simp [intOf]; omega
    · obtain rfl : k = 32 := by omega
      have hrange : (wz.alloc (.cells cs 22)).rangeAt wz.heap.size 0 cs.toList := fun j v hv => by rw [Nat.zero_add, cell_new]; simpa using hv
      have hr := Lib.hid hrange
      have h64 : Hid (cs.size = 32) := by show cs.size = 32; rw [hcs.out]; exact genC_size _ _ _
      clear hrange
      go_wp2_with (first
        | (refine wpList_load_mid rfl _ _ rfl (w.heap.size + 1 + 1) 0 rfl cs.toList _ (by rw [show w.heap.size + 1 + 1 = wz.heap.size from hsz']; exact hr.out) Tryd.underlying22 rfl (by rw [Array.length_toList, h64.out]; kernel_rfl) ?_; rw [Array.toArray_toList])
        | (refine wpList_store_mid rfl _ _ _ rfl (w.heap.size + 1) 0 cs rfl rfl (by rw [h64.out]; exact there_alloc hth.out.1 (by omega) _) (by rw [h64.out]; kernel_rfl) (by rw [hcs.out, genC_last]; exact all_oneCell_toArray (bvs_one _)) ?_))
      have hld : (loadVar 22 ⟨w.heap.size + 1, 0, none⟩).run Tryd.prog ((wz.alloc (.cells cs 22)).setCells (w.heap.size + 1) 0 cs.toList) = .ok (.agg cs.toList.toArray) ((wz.alloc (.cells cs 22)).setCells (w.heap.size + 1) 0 cs.toList) :=
        run_loadVar_mid _ _ _ _ cs.toList _ (World.rangeAt_setCells_same _ _ _ _ (by rw [Array.length_toList, h64.out]; exact there_alloc hth.out.1 (by omega) _)) Tryd.underlying22 rfl (by rw [Array.length_toList, h64.out]; kernel_rfl)
      refine bodyPost_ret (v := .agg cs.toList.toArray) (by simp [results, Tryd.results28, Act.put, asAddr, hld]) rfl ⟨?_, ?_⟩
      · rw [hcs.out, genC_last]
      · exact below_setCells _ _ _ (hbw.out.alloc hbw.out.size _) (by omega)
end Go.Proofs.YtagjeideohplpaaDoor
