/- The walks of Canonical, Neg. No conditions. -/
import Derived.Test.YtagjeideohplpaaDoorS8
import Derived.Test.YtagjeideohplpaaDoorEq32
namespace Go.Proofs.YtagjeideohplpaaDoor
open Go.RowKit
theorem range_row {w : World} {b : Nat} {cs : Array Value} {t : TypeId} {f : Nat × Nat} (h : w.heap[b]? = some (.cells cs t f)) : w.rangeAt b 0 cs.toList := fun j v hv => by
  rw [Nat.zero_add, cell_of_row w b j cs t f h]
  simpa using hv
theorem wpList_load_arr {P : Program} {ops : Array Oper} {rest : List Oper} {op : Oper} {a : Act} {w : World} {Q : Exit → Act → World → Prop} (hgd : op.guard = none) (ty : TypeId) (x : Operand) (ho : op.op = .load ty x)
    (b o : Nat) (hx : a.eval x = .pointer (some ⟨b, o, none⟩)) (cs : Array Value) (d : TypeDesc) (hc : w.rangeAt b o cs.toList)
    (hu : P.underlying ty = some d) (hd : d.isRow = true) (hi : (P.info? ty).map (·.size) = some cs.size)
    (h : wpList P ops Q rest (a.put op.dst (.agg cs)) w) : wpList P ops Q (op :: rest) a w :=
  wpList_load_mid hgd ty x ho b o hx cs.toList d hc hu hd (by rw [Array.length_toList]; exact hi) (by rw [Array.toArray_toList]; exact h)
set_option maxRecDepth 100000 in
set_option maxHeartbeats 1000000 in
theorem Canonical_any (l : List UInt8) (hl : l.length = 32) (w : World) (ho : Ord w) : Calls Tryd.prog 12 #[.agg (bvs l).toArray] w (fun e w' => e = .returned (.bool (decide (leN l < ordN))) ∧ Below w.heap.size w w') := by
  obtain ⟨xs, hxs⟩ : ∃ xs : Array Value, xs = (bvs l).toArray := ⟨_, rfl⟩
  rw [← hxs]
  have hX : (w.alloc (.cells xs 22)).heap[w.heap.size]? = some (.cells xs 22 (0, 0)) := heap_alloc_new w _
  have F : Hid (Below w.heap.size w (w.alloc (.cells xs 22)) ∧ (w.alloc (.cells xs 22)).heap[w.heap.size]? = some (.cells xs 22 (0, 0))) := ⟨(Below.refl _ _).alloc (Nat.le_refl _) _, hX⟩
  have Hl := Lib.hid hl
  have Ho := Lib.hid ho
  have Hxs := Lib.hid hxs
  have Hxz : Hid (xs.size = 32) := (by show xs.size = 32; rw [hxs]; simp [bvs_length, hl])
  clear hl ho hxs hX
  go_enter Tryd.func12, Tryd.ntmps12
  go_wp2
  refine AnyC.startB (fun w' => w'.heap[w.heap.size]? = some (.cells xs 22 (0, 0))) (by kernel_rfl) rfl ?_
  intro w4 hb4 hs4
  have F4 : Hid (Below w.heap.size w w4 ∧ w4.heap[w.heap.size]? = some (.cells xs 22 (0, 0))) := ⟨F.out.1.trans (hb4.mono F.out.1.size), heap_below F.out.2 hb4⟩
  clear hb4 hs4 F
  apply AnyC.take (i := 0) rfl (by kernel_rfl) rfl
  · intro w' hC K hK
    go_wp2
    exact hK
  · rfl
  apply AnyC.take (i := 3) rfl (by kernel_rfl) rfl
  · intro w' hC K hK
    refine wpList_load_arr rfl _ _ rfl w.heap.size 0 rfl xs _ (range_row hC) Tryd.underlying22 rfl (by rw [Hxz.out]; kernel_rfl) ?_
    go_wp2
    exact hK
  · rfl
  apply AnyC.solo (i := 1) rfl (by kernel_rfl) F4.out.2
  go_wp2_with (go_at_call 18; go_must (have h_ := reduce_any (m := 4) (c := 32) l Hl.out ⟨by omega, by omega⟩ _ (reads_row (by rw [F4.out.2, Hxs.out])) (Ho.out.below F4.out.1); rw [Hl.out] at h_; refine h_.mono ?_; rintro e w5 ⟨x, rfl, hx, hxv, hb5⟩; have X5 := Lib.hid (And.intro hx (And.intro hxv hb5)); clear hx hxv hb5))
  refine ⟨rfl, ?_⟩
  apply AnyC.solo (i := 2) rfl (by kernel_rfl) (heap_below F4.out.2 X5.out.2.2)
  go_wp2_with (go_at_call 19; go_must (refine (bytes_any x X5.out.1 _).mono ?_; rintro e w9 ⟨rfl, hb9⟩; rw [byteW_val X5.out.1, X5.out.2.1]; have B9 := Lib.hid (X5.out.2.2.trans (hb9.mono X5.out.2.2.size)); clear hb9; obtain ⟨cs, hcs⟩ : ∃ cs, (bvs (toB (leN l % ordN))).toArray = cs := ⟨_, rfl⟩; rw [hcs]; have Hcs := Lib.hid hcs; clear hcs))
  refine ⟨rfl, ?_⟩
  obtain ⟨bb, hbb⟩ : ∃ bb : Bool, bb = decide (leN l < ordN) := ⟨_, rfl⟩
  have Hbb := Lib.hid hbb
  clear hbb
  have heq : ∀ w, (Op.equalIn 10000 22 (.agg cs) (.agg xs)).run Tryd.prog w = .ok bb w := fun w => by rw [← Hcs.out, Hxs.out, eq32 9998 _ _ (toB_length _) Hl.out w, canon_iff Hl.out, Hbb.out]
  apply AnyC.take (i := 4) rfl (by kernel_rfl) rfl
  · intro w' hC K hK
    go_wp2
    exact hK
  · rfl
  apply AnyC.take (i := 5) rfl (by kernel_rfl) rfl
  · intro w' hC K hK
    go_wp2
    exact hK
  · rfl
  refine AnyC.done (heap_below F4.out.2 B9.out) (by kernel_rfl) ?_
  go_wp2
  refine bodyPost_ret (v := .bool bb) (by simp [results, Tryd.results12]) rfl ⟨by rw [Hbb.out], F4.out.1.trans (B9.out.mono F4.out.1.size)⟩
theorem neg_of {d x : W4} {c A : Nat} (hx : x.val = A % ordN) (hd : d.ok) (hc : c ≤ 1) (hv : ordW.val + c * 115792089237316195423570985008687907853269984665640564039457584007913129639936 = d.val + x.val) : lessN d.val = negN A := by
  have h1 := Nat.mod_lt A ordN_pos
  have h2 := d.val_lt hd
  have h3 : ordN = 7237005577332262213973186563042994240857116359379907606001950938285454250989 := rfl
  rw [ordW_val] at hv
  unfold negN
  rw [← hx] at h1 ⊢
  have hc0 : c = 0 := by
    rw [h3] at h1 hv
    clear h3
    omega
  subst hc0
  have e : d.val = ordN - x.val := by
    clear h3
    omega
  rw [e, lessN_mod (by clear h3; omega)]
set_option maxRecDepth 100000 in
set_option maxHeartbeats 2000000 in
theorem Neg_any (l : List UInt8) (hl : l.length = 32) (w : World) (ho : Ord w) : Calls Tryd.prog 11 #[.agg (bvs l).toArray] w (BytesPost (toB (negN (leN l))) w) := by
  obtain ⟨zs, hzz, hz32⟩ := zero32
  have hz35 : ∀ w, (zeroValue 35).run Tryd.prog w = .ok (.agg (W4.mk 0 0 0 0).cs) w := fun w => by kernel_rfl
  obtain ⟨z0, hz0⟩ : ∃ z0 : Array Value, z0 = (W4.mk 0 0 0 0).cs := ⟨_, rfl⟩
  rw [← hz0] at hz35
  have hz4 : z0.size = 4 := by rw [hz0]; rfl
  obtain ⟨xs, hxs⟩ : ∃ xs : Array Value, xs = (bvs l).toArray := ⟨_, rfl⟩
  rw [← hxs]
  have F : Hid (Below w.heap.size w ((w.alloc (.cells xs 22)).alloc (.cells zs 22)) ∧
      ((w.alloc (.cells xs 22)).alloc (.cells zs 22)).heap[w.heap.size]? = some (.cells (bvs l).toArray 22) ∧
      ((w.alloc (.cells xs 22)).alloc (.cells zs 22)).there (w.heap.size + 1) 0 32) := by
    refine ⟨((Below.refl _ _).alloc (Nat.le_refl _) _).alloc (by simp) _, ?_, ?_⟩
    · rw [Below.heap_alloc _ _ _ (by simp), hxs]; exact heap_alloc_new w _
    · have h1 := there_new (w.alloc (.cells xs 22)) zs 22 32 (by omega)
      rw [show (w.alloc (.cells xs 22)).heap.size = w.heap.size + 1 from by simp] at h1
      exact h1
  have Hl := Lib.hid hl
  have Ho := Lib.hid ho
  have Hxs := Lib.hid hxs
  have Hzs := Lib.hid hzz
  have Hz4 := Lib.hid hz4
  have Hz0 := Lib.hid hz0
  clear hl ho hxs hzz hz4 hz0
  go_enter Tryd.func11, Tryd.ntmps11
  go_wp2
  refine AnyC.startB Ord (by kernel_rfl) rfl ?_
  intro w4 hb4 hs4
  have F4 : Hid (Below w.heap.size w w4 ∧ w4.heap[w.heap.size]? = some (.cells (bvs l).toArray 22) ∧ w4.there (w.heap.size + 1) 0 32 ∧ w.heap.size + 2 = w4.heap.size) :=
    ⟨F.out.1.trans (hb4.mono F.out.1.size), heap_below F.out.2.1 hb4, there_below F.out.2.2 (by simp) hb4, by rw [hs4]; simp⟩
  clear hb4 hs4 F
  have O4 : Hid (Ord w4) := Ho.out.below F4.out.1
  apply AnyC.take (i := 0) rfl (by kernel_rfl) rfl
  · intro w' hC K hK
    obtain ⟨_, o0, o1, o2, o3⟩ := hC
    go_wp2
    exact hK
  · rfl
  apply AnyC.take (i := 1) rfl (by kernel_rfl) rfl
  · intro w' hC K hK
    go_wp2
    exact hK
  · rfl
  apply AnyC.two (i := 2) (j := 7) rfl rfl (by kernel_rfl) O4.out
  · go_wp2_with (go_at_call 18; go_must (have h_ := reduce_any (m := 4) (c := 32) l Hl.out ⟨by omega, by omega⟩ _ (reads_row (heap_below F4.out.2.1 (Below.refl w4.heap.size w4))) (O4.out.below (Below.refl w4.heap.size w4)); rw [Hl.out] at h_; refine h_.mono ?_; rintro e w5 ⟨x, rfl, hx, hxv, hb5⟩; have X5 := Lib.hid (And.intro hx (And.intro hxv (((Below.refl w4.heap.size w4)).trans (hb5.mono ((Below.refl w4.heap.size w4)).size)))); have L5 := Lib.hid hb5; clear hx hxv hb5))
    refine ⟨rfl, ?_⟩
    apply AnyC.two (i := 3) (j := 7) rfl rfl (by kernel_rfl) (O4.out.below X5.out.2.2)
    · go_wp2_with (go_at_call 24; go_must (refine (sub_any ordW x ordW_ok X5.out.1 _).mono ?_; rintro e w6 ⟨d, c, rfl, hd, hc, hv, hb6⟩; have D6 := Lib.hid (And.intro hd (And.intro (neg_of X5.out.2.1 hd hc hv) ((X5.out.2.2).trans (hb6.mono (X5.out.2.2).size)))); skip; clear hd hc hv hb6))
      refine ⟨rfl, ?_⟩
      apply AnyC.take (i := 4) rfl (by kernel_rfl) rfl
      · intro w' hC K hK
        go_wp2
        exact hK
      · rfl
      apply AnyC.take (i := 5) rfl (by kernel_rfl) rfl
      · intro w' hC K hK
        go_wp2
        exact hK
      · rfl
      apply AnyC.take (i := 6) rfl (by kernel_rfl) rfl
      · intro w' hC K hK
        go_wp2
        exact hK
      · rfl
      apply AnyC.solo (i := 7) rfl (by kernel_rfl) (O4.out.below (D6.out.2.2))
      go_wp2
      refine ⟨rfl, ?_⟩
      have HV : Hid (Below w4.heap.size w4 (w6.alloc (.cells z0 35)) ∧ (w6.alloc (.cells z0 35)).there w6.heap.size 0 4 ∧ w4.heap.size ≤ w6.heap.size) := ⟨D6.out.2.2.alloc D6.out.2.2.size _, there_new _ _ _ _ (by rw [Hz4.out]; omega), D6.out.2.2.size⟩
      apply AnyC.solo (i := 8) rfl (by kernel_rfl) (O4.out.below (HV.out.1))
      refine wpList_store_mid rfl _ _ _ rfl w6.heap.size 0 d.cs rfl rfl HV.out.2.1 (by kernel_rfl) (by kernel_rfl) ?_
      go_wp2
      refine ⟨rfl, ?_⟩
      have HW : Hid (Below w4.heap.size w4 ((w6.alloc (.cells z0 35)).setCells w6.heap.size 0 d.cs.toList) ∧ ((w6.alloc (.cells z0 35)).setCells w6.heap.size 0 d.cs.toList).rangeAt w6.heap.size 0 d.cs.toList) := ⟨below_setCells _ _ _ HV.out.1 HV.out.2.2, World.rangeAt_setCells_same _ _ _ _ HV.out.2.1⟩
      apply AnyC.solo (i := 9) rfl (by kernel_rfl) (O4.out.below (HW.out.1))
      go_wp2
      refine ⟨rfl, ?_⟩
      refine AnyC.done (O4.out.below HW.out.1) (by kernel_rfl) ?_
      have e0 : ((w6.alloc (.cells z0 35)).setCells w6.heap.size 0 d.cs.toList).cell? ⟨w6.heap.size, 0, none⟩ = some (.int .u64 d.a) := HW.out.2 0 _ rfl
      have e1 : ((w6.alloc (.cells z0 35)).setCells w6.heap.size 0 d.cs.toList).cell? ⟨w6.heap.size, 1, none⟩ = some (.int .u64 d.b) := HW.out.2 1 _ rfl
      have e2 : ((w6.alloc (.cells z0 35)).setCells w6.heap.size 0 d.cs.toList).cell? ⟨w6.heap.size, 2, none⟩ = some (.int .u64 d.c) := HW.out.2 2 _ rfl
      have e3 : ((w6.alloc (.cells z0 35)).setCells w6.heap.size 0 d.cs.toList).cell? ⟨w6.heap.size, 3, none⟩ = some (.int .u64 d.d) := HW.out.2 3 _ rfl
      go_wp2_with (first
        | (go_at_call 23; go_must (refine (less_any d D6.out.1 _ (O4.out.below HW.out.1)).mono ?_; rintro e w8 ⟨f, rfl, hf, hfv, hb8⟩; have E8 := Lib.hid (And.intro hf (And.intro (hfv.trans D6.out.2.1) (HW.out.1.trans (hb8.mono HW.out.1.size)))); clear hf hfv hb8))
        | (go_at_call 19; go_must (refine (bytes_any f E8.out.1 _).mono ?_; rintro e w9 ⟨rfl, hb9⟩; rw [byteW_val E8.out.1, E8.out.2.1]; have B9 := Lib.hid (E8.out.2.2.trans (hb9.mono E8.out.2.2.size)); clear hb9; obtain ⟨cs, hcs⟩ : ∃ cs, (bvs (toB (negN (leN l)))).toArray = cs := ⟨_, rfl⟩; rw [hcs]; have Hcs := Lib.hid hcs; have Hcz : Hid (cs.size = 32) := (by show cs.size = 32; rw [← hcs]; simp [bvs_length, toB_length]); have Hth := Lib.hid (there_below F4.out.2.2.1 (by have h_ := F4.out.2.2.2; omega) B9.out); clear hcs))
        | (refine wpList_store_mid rfl _ _ _ rfl (w.heap.size + 1) 0 cs rfl rfl (by rw [Hcz.out]; exact Hth.out) (by rw [Hcz.out]; kernel_rfl) (by rw [← Hcs.out]; exact all_oneCell_toArray (bvs_one _)) ?_))
      have hld := ret32 Hth.out Hcz.out
      refine bodyPost_ret (v := .agg cs) (by simp [results, Tryd.results11, Act.put, asAddr, hld]) rfl ⟨by rw [← Hcs.out], ?_⟩
      exact below_setCells _ _ _ (F4.out.1.trans (B9.out.mono F4.out.1.size)) (by omega)
    · go_wp2
      refine ⟨rfl, ?_⟩
      have X6 : Hid (Below w4.heap.size w4 (w5.alloc (.cells z0 35)) ∧ (w5.alloc (.cells z0 35)).there w5.heap.size 0 4 ∧ w4.heap.size ≤ w5.heap.size) := ⟨X5.out.2.2.alloc X5.out.2.2.size _, there_new _ _ _ _ (by rw [Hz4.out]; omega), X5.out.2.2.size⟩
      apply AnyC.solo (i := 3) rfl (by kernel_rfl) (O4.out.below (X6.out.1))
      go_wp2_with (go_at_call 24; go_must (refine (sub_any ordW x ordW_ok X5.out.1 _).mono ?_; rintro e w6 ⟨d, c, rfl, hd, hc, hv, hb6⟩; have D6 := Lib.hid (And.intro hd (And.intro (neg_of X5.out.2.1 hd hc hv) ((X6.out.1).trans (hb6.mono (X6.out.1).size)))); have HV := Lib.hid (And.intro (X6.out.1.trans (hb6.mono X6.out.1.size)) (And.intro (there_below X6.out.2.1 (by simp) hb6) X6.out.2.2)); clear hd hc hv hb6))
      refine ⟨rfl, ?_⟩
      apply AnyC.take (i := 4) rfl (by kernel_rfl) rfl
      · intro w' hC K hK
        go_wp2
        exact hK
      · rfl
      apply AnyC.take (i := 5) rfl (by kernel_rfl) rfl
      · intro w' hC K hK
        go_wp2
        exact hK
      · rfl
      apply AnyC.take (i := 6) rfl (by kernel_rfl) rfl
      · intro w' hC K hK
        go_wp2
        exact hK
      · rfl
      apply AnyC.solo (i := 8) rfl (by kernel_rfl) (O4.out.below (HV.out.1))
      refine wpList_store_mid rfl _ _ _ rfl w5.heap.size 0 d.cs rfl rfl HV.out.2.1 (by kernel_rfl) (by kernel_rfl) ?_
      go_wp2
      refine ⟨rfl, ?_⟩
      have HW : Hid (Below w4.heap.size w4 (w6.setCells w5.heap.size 0 d.cs.toList) ∧ (w6.setCells w5.heap.size 0 d.cs.toList).rangeAt w5.heap.size 0 d.cs.toList) := ⟨below_setCells _ _ _ HV.out.1 HV.out.2.2, World.rangeAt_setCells_same _ _ _ _ HV.out.2.1⟩
      apply AnyC.solo (i := 9) rfl (by kernel_rfl) (O4.out.below (HW.out.1))
      go_wp2
      refine ⟨rfl, ?_⟩
      refine AnyC.done (O4.out.below HW.out.1) (by kernel_rfl) ?_
      have e0 : (w6.setCells w5.heap.size 0 d.cs.toList).cell? ⟨w5.heap.size, 0, none⟩ = some (.int .u64 d.a) := HW.out.2 0 _ rfl
      have e1 : (w6.setCells w5.heap.size 0 d.cs.toList).cell? ⟨w5.heap.size, 1, none⟩ = some (.int .u64 d.b) := HW.out.2 1 _ rfl
      have e2 : (w6.setCells w5.heap.size 0 d.cs.toList).cell? ⟨w5.heap.size, 2, none⟩ = some (.int .u64 d.c) := HW.out.2 2 _ rfl
      have e3 : (w6.setCells w5.heap.size 0 d.cs.toList).cell? ⟨w5.heap.size, 3, none⟩ = some (.int .u64 d.d) := HW.out.2 3 _ rfl
      go_wp2_with (first
        | (go_at_call 23; go_must (refine (less_any d D6.out.1 _ (O4.out.below HW.out.1)).mono ?_; rintro e w8 ⟨f, rfl, hf, hfv, hb8⟩; have E8 := Lib.hid (And.intro hf (And.intro (hfv.trans D6.out.2.1) (HW.out.1.trans (hb8.mono HW.out.1.size)))); clear hf hfv hb8))
        | (go_at_call 19; go_must (refine (bytes_any f E8.out.1 _).mono ?_; rintro e w9 ⟨rfl, hb9⟩; rw [byteW_val E8.out.1, E8.out.2.1]; have B9 := Lib.hid (E8.out.2.2.trans (hb9.mono E8.out.2.2.size)); clear hb9; obtain ⟨cs, hcs⟩ : ∃ cs, (bvs (toB (negN (leN l)))).toArray = cs := ⟨_, rfl⟩; rw [hcs]; have Hcs := Lib.hid hcs; have Hcz : Hid (cs.size = 32) := (by show cs.size = 32; rw [← hcs]; simp [bvs_length, toB_length]); have Hth := Lib.hid (there_below F4.out.2.2.1 (by have h_ := F4.out.2.2.2; omega) B9.out); clear hcs))
        | (refine wpList_store_mid rfl _ _ _ rfl (w.heap.size + 1) 0 cs rfl rfl (by rw [Hcz.out]; exact Hth.out) (by rw [Hcz.out]; kernel_rfl) (by rw [← Hcs.out]; exact all_oneCell_toArray (bvs_one _)) ?_))
      have hld := ret32 Hth.out Hcz.out
      refine bodyPost_ret (v := .agg cs) (by simp [results, Tryd.results11, Act.put, asAddr, hld]) rfl ⟨by rw [← Hcs.out], ?_⟩
      exact below_setCells _ _ _ (F4.out.1.trans (B9.out.mono F4.out.1.size)) (by omega)
  · go_wp2
    refine ⟨rfl, ?_⟩
    have X4 : Hid (Below w4.heap.size w4 (w4.alloc (.cells z0 35)) ∧ (w4.alloc (.cells z0 35)).there w4.heap.size 0 4) := ⟨(Below.refl _ _).alloc (Nat.le_refl _) _, there_new _ _ _ _ (by rw [Hz4.out]; omega)⟩
    apply AnyC.solo (i := 2) rfl (by kernel_rfl) (O4.out.below (X4.out.1))
    go_wp2_with (go_at_call 18; go_must (have h_ := reduce_any (m := 4) (c := 32) l Hl.out ⟨by omega, by omega⟩ _ (reads_row (heap_below F4.out.2.1 X4.out.1)) (O4.out.below X4.out.1); rw [Hl.out] at h_; refine h_.mono ?_; rintro e w5 ⟨x, rfl, hx, hxv, hb5⟩; have X5 := Lib.hid (And.intro hx (And.intro hxv ((X4.out.1).trans (hb5.mono (X4.out.1).size)))); have L5 := Lib.hid hb5; clear hx hxv hb5))
    refine ⟨rfl, ?_⟩
    apply AnyC.solo (i := 3) rfl (by kernel_rfl) (O4.out.below (X5.out.2.2))
    go_wp2_with (go_at_call 24; go_must (refine (sub_any ordW x ordW_ok X5.out.1 _).mono ?_; rintro e w6 ⟨d, c, rfl, hd, hc, hv, hb6⟩; have D6 := Lib.hid (And.intro hd (And.intro (neg_of X5.out.2.1 hd hc hv) ((X5.out.2.2).trans (hb6.mono (X5.out.2.2).size)))); have HV := Lib.hid (And.intro (X5.out.2.2.trans (hb6.mono X5.out.2.2.size)) (And.intro (there_below (there_below X4.out.2 (by simp) L5.out) (by have h_ := L5.out.size; simp at h_; omega) hb6) (Nat.le_refl w4.heap.size))); clear hd hc hv hb6))
    refine ⟨rfl, ?_⟩
    apply AnyC.take (i := 4) rfl (by kernel_rfl) rfl
    · intro w' hC K hK
      go_wp2
      exact hK
    · rfl
    apply AnyC.take (i := 5) rfl (by kernel_rfl) rfl
    · intro w' hC K hK
      go_wp2
      exact hK
    · rfl
    apply AnyC.take (i := 6) rfl (by kernel_rfl) rfl
    · intro w' hC K hK
      go_wp2
      exact hK
    · rfl
    apply AnyC.solo (i := 8) rfl (by kernel_rfl) (O4.out.below (HV.out.1))
    refine wpList_store_mid rfl _ _ _ rfl w4.heap.size 0 d.cs rfl rfl HV.out.2.1 (by kernel_rfl) (by kernel_rfl) ?_
    go_wp2
    refine ⟨rfl, ?_⟩
    have HW : Hid (Below w4.heap.size w4 (w6.setCells w4.heap.size 0 d.cs.toList) ∧ (w6.setCells w4.heap.size 0 d.cs.toList).rangeAt w4.heap.size 0 d.cs.toList) := ⟨below_setCells _ _ _ HV.out.1 HV.out.2.2, World.rangeAt_setCells_same _ _ _ _ HV.out.2.1⟩
    apply AnyC.solo (i := 9) rfl (by kernel_rfl) (O4.out.below (HW.out.1))
    go_wp2
    refine ⟨rfl, ?_⟩
    refine AnyC.done (O4.out.below HW.out.1) (by kernel_rfl) ?_
    have e0 : (w6.setCells w4.heap.size 0 d.cs.toList).cell? ⟨w4.heap.size, 0, none⟩ = some (.int .u64 d.a) := HW.out.2 0 _ rfl
    have e1 : (w6.setCells w4.heap.size 0 d.cs.toList).cell? ⟨w4.heap.size, 1, none⟩ = some (.int .u64 d.b) := HW.out.2 1 _ rfl
    have e2 : (w6.setCells w4.heap.size 0 d.cs.toList).cell? ⟨w4.heap.size, 2, none⟩ = some (.int .u64 d.c) := HW.out.2 2 _ rfl
    have e3 : (w6.setCells w4.heap.size 0 d.cs.toList).cell? ⟨w4.heap.size, 3, none⟩ = some (.int .u64 d.d) := HW.out.2 3 _ rfl
    go_wp2_with (first
      | (go_at_call 23; go_must (refine (less_any d D6.out.1 _ (O4.out.below HW.out.1)).mono ?_; rintro e w8 ⟨f, rfl, hf, hfv, hb8⟩; have E8 := Lib.hid (And.intro hf (And.intro (hfv.trans D6.out.2.1) (HW.out.1.trans (hb8.mono HW.out.1.size)))); clear hf hfv hb8))
      | (go_at_call 19; go_must (refine (bytes_any f E8.out.1 _).mono ?_; rintro e w9 ⟨rfl, hb9⟩; rw [byteW_val E8.out.1, E8.out.2.1]; have B9 := Lib.hid (E8.out.2.2.trans (hb9.mono E8.out.2.2.size)); clear hb9; obtain ⟨cs, hcs⟩ : ∃ cs, (bvs (toB (negN (leN l)))).toArray = cs := ⟨_, rfl⟩; rw [hcs]; have Hcs := Lib.hid hcs; have Hcz : Hid (cs.size = 32) := (by show cs.size = 32; rw [← hcs]; simp [bvs_length, toB_length]); have Hth := Lib.hid (there_below F4.out.2.2.1 (by have h_ := F4.out.2.2.2; omega) B9.out); clear hcs))
      | (refine wpList_store_mid rfl _ _ _ rfl (w.heap.size + 1) 0 cs rfl rfl (by rw [Hcz.out]; exact Hth.out) (by rw [Hcz.out]; kernel_rfl) (by rw [← Hcs.out]; exact all_oneCell_toArray (bvs_one _)) ?_))
    have hld := ret32 Hth.out Hcz.out
    refine bodyPost_ret (v := .agg cs) (by simp [results, Tryd.results11, Act.put, asAddr, hld]) rfl ⟨by rw [← Hcs.out], ?_⟩
    exact below_setCells _ _ _ (F4.out.1.trans (B9.out.mono F4.out.1.size)) (by omega)
end Go.Proofs.YtagjeideohplpaaDoor
