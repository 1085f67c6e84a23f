/- The reference: Neg (== on [4]uint64). Printed by wip/genS20b.py. No conditions. -/
import Derived.Test.YtagjeideohplpaaDoorS20
namespace Go.Proofs.YtagjeideohplpaaDoor
open Go.RowKit
theorem partW (xs : Array Value) (i : Nat) (v : Value) (w : World) (h : xs[i]? = some v) : (part 33 xs i).run Tryd.prog w = .ok v w := by
  have h1 : (isAgg 33).run Tryd.prog w = .ok false w := by kernel_rfl
  simp [part, Sem.run_bind, h1, h]
theorem eqW (d : Nat) (a b : Nat) (w : World) : (Op.equalIn (d + 1) 33 (.int .u64 (a : Int)) (.int .u64 (b : Int))).run Tryd.prog w = .ok (a == b) w := by
  rw [run_equalIn_int w d _ _ _ _ _ Tryd.underlying33]
  congr 1
  rw [Bool.eq_iff_iff, beq_iff_eq, beq_iff_eq, Int.ofNat_inj]
theorem eqRangeW {xs ys : List Nat} (d : Nat) (w : World) (hl : xs.length = ys.length) : ∀ (n k : Nat), k + n = xs.length →
    (forIn (List.range' k n 1) ((none : Option Bool), ()) (fun i (_ : Option Bool × Unit) => do
      if !(← Op.equalIn (d + 1) 33 (← part 33 (wC xs) (i * 1)) (← part 33 (wC ys) (i * 1))) then pure (ForInStep.done (some false, ())) else pure (ForInStep.yield (none, ())))).run Tryd.prog w =
      .ok (if xs.drop k = ys.drop k then none else some false, ()) w := by
  intro n
  induction n with
  | zero =>
    intro k hk
    rw [List.drop_eq_nil_of_le (by omega), List.drop_eq_nil_of_le (by omega)]
    simp
  | succ n ih =>
    intro k hk
    have hx : k < xs.length := by omega
    have hy : k < ys.length := by omega
    rw [List.range'_succ, List.forIn_cons]
    simp only [Sem.run_bind, Nat.mul_one]
    rw [partW _ k (.int .u64 (xs[k] : Int)) w (by simp [wC, hx])]
    simp only [Result.andThen_ok]
    rw [partW _ k (.int .u64 (ys[k] : Int)) w (by simp [wC, hy])]
    simp only [Result.andThen_ok, eqW]
    rw [List.drop_eq_getElem_cons hx, List.drop_eq_getElem_cons hy]
    by_cases he : xs[k] = ys[k]
    · rw [he]
      simp only [beq_self_eq_true, Bool.not_true, Bool.false_eq_true, if_false, Sem.run_pure, Result.andThen_ok]
      have h1 := ih (k + 1) (by omega)
      simp only [Nat.mul_one] at h1
      rw [h1]
      simp [-List.getElem_cons_drop]
    · simp [he, -List.getElem_cons_drop]
theorem eq4W (d : Nat) (x y : List Nat) (hx : x.length = 4) (hy : y.length = 4) (w : World) :
    (Op.equalIn (d + 2) 48 (.agg (wC x)) (.agg (wC y))).run Tryd.prog w = .ok (x == y) w := by
  have hs : (sizeOf 33).run Tryd.prog w = .ok 1 w := by kernel_rfl
  have h1 := eqRangeW (xs := x) (ys := y) d w (by omega) 4 0 (by omega)
  rw [Op.equalIn]
  simp only [Sem.run_bind, run_underlying Tryd.underlying48, Result.andThen_ok, hs]
  simp only [Std.Legacy.Range.forIn_eq_forIn_range', Std.Legacy.Range.size, Nat.sub_zero, Nat.add_sub_cancel, Nat.div_one]
  refine (congrArg (fun r => Result.andThen r _) h1).trans ?_
  simp only [Result.andThen_ok, List.drop_zero]
  by_cases he : x = y
  · rw [if_pos he]; simp [he]
  · rw [if_neg he]; simp [he]
theorem W4.list (x : W4) : x.cs = wC [x.a, x.b, x.c, x.d] := rfl
theorem eq0W (x : W4) (w : World) : (Op.equalIn 10000 48 (.agg x.cs) (.agg (W4.mk 0 0 0 0).cs)).run Tryd.prog w = .ok (decide (x.val = 0)) w := by
  rw [x.list, W4.list, eq4W 9998 [x.a, x.b, x.c, x.d] [0, 0, 0, 0] rfl rfl w]
  congr 1
  rw [Bool.eq_iff_iff]
  simp [W4.val]
  omega
theorem zero_toB : ∀ w, (zeroValue 22).run Tryd.prog w = .ok (.agg (bvs (toB 0)).toArray) w := fun w => by kernel_rfl
theorem neg_zero {A : Nat} (h : A % ordN = 0) : negN A = 0 := by
  unfold negN
  rw [h]
  exact Nat.mod_self _
theorem neg_less {d x : W4} {c A : Nat} (hx : x.val = A % ordN) (hd : d.ok) (hc : c ≤ 1) (h0 : A % ordN ≠ 0) (hv : ordW.val + c * 115792089237316195423570985008687907853269984665640564039457584007913129639936 = d.val + x.val) : d.val = negN A := by
  have h1 := Nat.mod_lt A ordN_pos
  have h2 := d.val_lt hd
  have h3 : ordN = 7237005577332262213973186563042994240857116359379907606001950938285454250989 := rfl
  rw [ordW_val] at hv
  unfold negN
  rw [← hx] at h1 h0 ⊢
  have hc0 : c = 0 := by
    rw [h3] at h1 hv
    clear h3
    omega
  subst hc0
  have e : d.val = ordN - x.val := by
    clear h3
    omega
  rw [e, Nat.mod_eq_of_lt (by clear h3; omega)]
theorem heap_set4q {w : World} {b : Nat} {p d : W4} (h : w.heap[b]? = some (.cells p.cs 48 (0, 0))) : (w.setCells b 0 d.cs.toList).heap[b]? = some (.cells d.cs 48 (0, 0)) := by
  have h1 := heap_setCell_same w b 0 _ _ (.int .u64 d.a) h
  have h2 := heap_setCell_same _ b 1 _ _ (.int .u64 d.b) h1
  have h3 := heap_setCell_same _ b 2 _ _ (.int .u64 d.c) h2
  exact heap_setCell_same _ b 3 _ _ (.int .u64 d.d) h3
theorem heap_setCells_ne {b k : Nat} (hk : k ≠ b) : ∀ (vs : List Value) (o : Nat) (w : World), (w.setCells b o vs).heap[k]? = w.heap[k]?
  | [], _, _ => rfl
  | v :: vs, o, w => (heap_setCells_ne hk vs (o + 1) (w.setCell ⟨b, o, none⟩ v)).trans (Below.heap_setCell w ⟨b, o, none⟩ v k hk)
/-- The word where Neg keeps its number. -/
theorem neg_kept (w2 : World) (x : W4) : (w2.alloc (.cells (W4.mk 0 0 0 0).cs 48)).there w2.heap.size 0 x.cs.size ∧
    ((w2.alloc (.cells (W4.mk 0 0 0 0).cs 48)).setCells w2.heap.size 0 x.cs.toList).heap[w2.heap.size]? = some (.cells x.cs 48 (0, 0)) ∧
    Below w2.heap.size w2 ((w2.alloc (.cells (W4.mk 0 0 0 0).cs 48)).setCells w2.heap.size 0 x.cs.toList) :=
  ⟨there_new _ _ _ x.cs.size (Nat.le_refl 4), heap_set4q (heap_alloc_new w2 _), below_setCells _ _ _ ((Below.refl _ _).alloc (Nat.le_refl _) _) (Nat.le_refl _)⟩
set_option maxRecDepth 100000 in
set_option maxHeartbeats 2000000 in
theorem Neg48_any (l : List UInt8) (hl : l.length = 32) (w : World) : Calls Tryd.prog 16 #[.agg (bvs l).toArray] w (BytesPost (toB (negN (leN l))) w) := by
  obtain ⟨zs, hzz, hz32⟩ : ∃ zs : Array Value, zs = (bvs (toB 0)).toArray ∧ (∀ w, (zeroValue 22).run Tryd.prog w = .ok (.agg zs) w) := ⟨_, rfl, zero_toB⟩
  have hz48 : ∀ w, (zeroValue 48).run Tryd.prog w = .ok (.agg (W4.mk 0 0 0 0).cs) w := fun w => by kernel_rfl
  obtain ⟨z0, hz0⟩ : ∃ z0 : Array Value, (W4.mk 0 0 0 0).cs = z0 := ⟨_, rfl⟩
  rw [hz0] at hz48
  have hzs : zs.size = 32 := by rw [hzz]; simp [bvs_length, toB_length]
  obtain ⟨xs, hxs⟩ : ∃ xs : Array Value, xs = (bvs l).toArray := ⟨_, rfl⟩
  rw [← hxs]
  have F : Hid (Below w.heap.size w ((w.alloc (.cells xs 22)).alloc (.cells zs 22)) ∧
      ((w.alloc (.cells xs 22)).alloc (.cells zs 22)).heap[w.heap.size]? = some (.cells (bvs l).toArray 22) ∧
      ((w.alloc (.cells xs 22)).alloc (.cells zs 22)).there (w.heap.size + 1) 0 32 ∧ w.heap.size + 2 = ((w.alloc (.cells xs 22)).alloc (.cells zs 22)).heap.size) := by
    refine ⟨((Below.refl _ _).alloc (Nat.le_refl _) _).alloc (by simp) _, ?_, ?_, by simp⟩
    · rw [Below.heap_alloc _ _ _ (by simp), hxs]; exact heap_alloc_new w _
    · have h1 := there_new (w.alloc (.cells xs 22)) zs 22 32 (by omega)
      rw [show (w.alloc (.cells xs 22)).heap.size = w.heap.size + 1 from by simp] at h1
      exact h1
  have Hl := Lib.hid hl
  have Hzz := Lib.hid hzz
  have Hzs := Lib.hid hzs
  have KEPT : Hid (∀ (w2 : World) (x : W4), (w2.alloc (.cells z0 48)).there w2.heap.size 0 x.cs.size ∧ ((w2.alloc (.cells z0 48)).setCells w2.heap.size 0 x.cs.toList).heap[w2.heap.size]? = some (.cells x.cs 48 (0, 0)) ∧
      Below w2.heap.size w2 ((w2.alloc (.cells z0 48)).setCells w2.heap.size 0 x.cs.toList) ∧ (∀ w', (Op.equalIn 10000 48 (.agg x.cs) (.agg z0)).run Tryd.prog w' = .ok (decide (x.val = 0)) w')) := by
    rw [← hz0]
    exact fun w2 x => ⟨(neg_kept w2 x).1, (neg_kept w2 x).2.1, (neg_kept w2 x).2.2, eq0W x⟩
  clear hl hxs hzz hzs hz0
  by_cases hA : leN l % ordN = 0
  · have HA := Lib.hid hA
    clear hA
    go_enter Tryd.func16, Tryd.ntmps16
    go_wp2_with (first
      | (go_at_call 29; go_must (have h_ := mod_any (c := 32) l ⟨by rw [Hl.out]; omega, by rw [Hl.out]; omega⟩ _ (reads_row F.out.2.1); rw [Hl.out] at h_; refine h_.mono ?_; rintro e w2 ⟨x, rfl, hx, hxv, hb2⟩; have X2 := Lib.hid (And.intro hx (And.intro hxv (F.out.1.trans (hb2.mono F.out.1.size)))); have K2 := Lib.hid (KEPT.out w2 x); have S2 : Hid (w.heap.size + 1 < w2.heap.size) := (by show _ < _; have h_ := F.out.2.2.2; have h2_ := hb2.size; omega); have T3 := Lib.hid (there_below (there_below F.out.2.2.1 (by have h_ := F.out.2.2.2; omega) hb2) S2.out K2.out.2.2.1); have heq := K2.out.2.2.2; rw [hxv, HA.out, decide_eq_true rfl] at heq; clear hx hxv hb2))
      | (refine wpList_store_mid rfl _ _ _ rfl w2.heap.size 0 x.cs rfl rfl (by with_reducible exact K2.out.1) (by kernel_rfl) (by kernel_rfl) ?_)
      | (refine wpList_load_arr rfl _ _ rfl w2.heap.size 0 rfl x.cs _ (by with_reducible exact range_row K2.out.2.1) Tryd.underlying48 rfl (by kernel_rfl) ?_)
      | (refine wpList_store_mid rfl _ _ _ rfl (w.heap.size + 1) 0 zs rfl rfl (by rw [Hzs.out]; exact T3.out) (by rw [Hzs.out]; kernel_rfl) (by rw [Hzz.out]; exact all_oneCell_toArray (bvs_one _)) ?_))
    have hld := ret32 T3.out Hzs.out
    refine bodyPost_ret (v := .agg zs) (by simp [results, Tryd.results16, Act.put, asAddr, hld]) rfl ⟨by rw [neg_zero HA.out, ← Hzz.out], ?_⟩
    exact below_setCells _ _ _ (X2.out.2.2.trans (K2.out.2.2.1.mono X2.out.2.2.size)) (by omega)
  · have HA := Lib.hid hA
    clear hA
    go_enter Tryd.func16, Tryd.ntmps16
    go_wp2_with (first
      | (go_at_call 29; go_must (have h_ := mod_any (c := 32) l ⟨by rw [Hl.out]; omega, by rw [Hl.out]; omega⟩ _ (reads_row F.out.2.1); rw [Hl.out] at h_; refine h_.mono ?_; rintro e w2 ⟨x, rfl, hx, hxv, hb2⟩; have X2 := Lib.hid (And.intro hx (And.intro hxv (F.out.1.trans (hb2.mono F.out.1.size)))); have K2 := Lib.hid (KEPT.out w2 x); have S2 : Hid (w.heap.size + 1 < w2.heap.size) := (by show _ < _; have h_ := F.out.2.2.2; have h2_ := hb2.size; omega); have T3 := Lib.hid (there_below (there_below F.out.2.2.1 (by have h_ := F.out.2.2.2; omega) hb2) S2.out K2.out.2.2.1); have heq := K2.out.2.2.2; rw [hxv, decide_eq_false HA.out] at heq; clear hx hxv hb2))
      | (refine wpList_store_mid rfl _ _ _ rfl w2.heap.size 0 x.cs rfl rfl (by with_reducible exact K2.out.1) (by kernel_rfl) (by kernel_rfl) ?_)
      | (refine wpList_load_arr rfl _ _ rfl w2.heap.size 0 rfl x.cs _ (by with_reducible exact range_row K2.out.2.1) Tryd.underlying48 rfl (by kernel_rfl) ?_))
    refine AnyC.startB (fun w' => w'.heap[w2.heap.size]? = some (.cells x.cs 48 (0, 0))) (by kernel_rfl) rfl ?_
    intro w4 hb4 _
    have R4 := Lib.hid (heap_below K2.out.2.1 hb4)
    have B4 := Lib.hid ((X2.out.2.2.trans (K2.out.2.2.1.mono X2.out.2.2.size)).trans (hb4.mono (X2.out.2.2.trans (K2.out.2.2.1.mono X2.out.2.2.size)).size))
    have T4 := Lib.hid (there_below T3.out (by have h_ := S2.out; have h2_ := K2.out.2.2.1.size; omega) hb4)
    clear hb4 T3
    apply AnyC.take (i := 1) rfl (by kernel_rfl) rfl
    · intro w' hC K hK
      refine wpList_load_arr rfl _ _ rfl w2.heap.size 0 rfl x.cs _ (range_row hC) Tryd.underlying48 rfl (by kernel_rfl) ?_
      go_wp2
      exact hK
    · rfl
    apply AnyC.solo (i := 0) rfl (by kernel_rfl) R4.out
    go_wp2_with (go_at_call 27; go_must (refine (order_any w4).mono ?_; rintro e w5 ⟨rfl, hb⟩; have B5 := Lib.hid (B4.out.trans (hb.mono B4.out.size)); have R5 := Lib.hid (heap_below R4.out hb); have T5 := Lib.hid (there_below T4.out (by have h_ := lt_of_heap R4.out; have h2_ := S2.out; omega) hb); clear hb))
    refine ⟨rfl, ?_⟩
    apply AnyC.solo (i := 2) rfl (by kernel_rfl) R5.out
    go_wp2_with (go_at_call 31; go_must (refine (less48_any ordW x ordW_ok X2.out.1 w5).mono ?_; rintro e w6 ⟨f, c2, rfl, hf, hc2, hv, hb⟩; have E6 := Lib.hid (And.intro hf (neg_less X2.out.2.1 hf hc2 HA.out hv)); have B6 := Lib.hid (B5.out.trans (hb.mono B5.out.size)); have R6 := Lib.hid (heap_below R5.out hb); have T6 := Lib.hid (there_below T5.out (by have h_ := lt_of_heap R5.out; have h2_ := S2.out; omega) hb); clear hb hf hc2 hv))
    refine ⟨rfl, ?_⟩
    apply AnyC.solo (i := 3) rfl (by kernel_rfl) R6.out
    go_wp2_with (go_at_call 28; go_must (refine (bytesOf_any f E6.out.1 _).mono ?_; rintro e w7 ⟨rfl, hb⟩; rw [byteW_val E6.out.1, E6.out.2]; have B7 := Lib.hid (B6.out.trans (hb.mono B6.out.size)); have R7 := Lib.hid (heap_below R6.out hb); have T7 := Lib.hid (there_below T6.out (by have h_ := lt_of_heap R6.out; have h2_ := S2.out; omega) hb); clear hb; obtain ⟨cs, hcs⟩ : ∃ cs, (bvs (toB (negN (leN l)))).toArray = cs := ⟨_, rfl⟩; rw [hcs]; have Hcs := Lib.hid hcs; have Hcz : Hid (cs.size = 32) := (by show cs.size = 32; rw [← hcs]; simp [bvs_length, toB_length]); clear hcs))
    refine ⟨rfl, ?_⟩
    apply AnyC.solo (i := 4) rfl (by kernel_rfl) R7.out
    go_wp2_with (refine wpList_store_mid rfl _ _ _ rfl (w.heap.size + 1) 0 cs rfl rfl (by rw [Hcz.out]; exact T7.out) (by rw [Hcz.out]; kernel_rfl) (by rw [← Hcs.out]; exact all_oneCell_toArray (bvs_one _)) ?_)
    refine ⟨rfl, ?_⟩
    refine AnyC.done ?_ (by kernel_rfl) ?_
    · exact (heap_setCells_ne (by have h_ := S2.out; omega) _ _ _).trans R7.out
    go_wp2
    have hld := ret32 T7.out Hcz.out
    refine bodyPost_ret (v := .agg cs) (by simp [results, Tryd.results16, asAddr, hld]) rfl ⟨by rw [← Hcs.out], ?_⟩
    exact below_setCells _ _ _ B7.out (by omega)
end Go.Proofs.YtagjeideohplpaaDoor
