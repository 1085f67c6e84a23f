/- The walk of Add. No conditions. -/
import Derived.Test.YtagjeideohplpaaDoorS7
namespace Go.Proofs.YtagjeideohplpaaDoor
open Go.RowKit
section
variable {P : Program}
theorem AnyC.startB {id n : Nat} {Q' : Exit → Act → World → Prop} {a : Act} {w : World} {l : List Oper} (C : World → Prop) (hm : P.follows .mixedOrders = true) (hn : l.length = n)
    (h : ∀ w', Below w.heap.size w w' → w'.heap.size = w.heap.size → AnyC P l.toArray C (fun a w => Q' .normal a w) n (Array.replicate n false) a w') : (Code.region id l.toArray true).wp P Q' a w :=
  AnyC.start C hm hn (h { w with drawn := w.drawn + 1 } ⟨rfl, rfl, rfl, Nat.le_refl _, fun _ _ => rfl⟩ rfl)
end
theorem reads_row {w : World} {b : Nat} {l : List UInt8} {t : TypeId} {f : Nat × Nat} (h : w.heap[b]? = some (.cells (bvs l).toArray t f)) : Reads w w.heap.size 1 (some ⟨b, 0, none⟩) l.length (bvs l) := by
  refine ⟨by simp [bvs_length], fun _ => ⟨_, rfl, lt_of_heap h, fun j u hu => ?_⟩⟩
  rw [add_none]
  show w.cell? ⟨b, 0 + j, none⟩ = _
  rw [Nat.zero_add, cell_of_row w b j _ _ _ h]
  simpa using hu
theorem mod_twice (a b n : Nat) : (a % n + b % n) % n = (a + b) % n := (Nat.add_mod a b n).symm
/-- add, then less, of two answers of reduce. -/
theorem addless {x y d : W4} {c A B : Nat} (hx : x.val = A % ordN) (hy : y.val = B % ordN) (hc : c ≤ 1) (hv : x.val + y.val = d.val + c * 115792089237316195423570985008687907853269984665640564039457584007913129639936) : lessN d.val = (A + B) % ordN := by
  have h1 := Nat.mod_lt A ordN_pos
  have h2 := Nat.mod_lt B ordN_pos
  have h3 : ordN = 7237005577332262213973186563042994240857116359379907606001950938285454250989 := rfl
  rw [← hx] at h1
  rw [← hy] at h2
  have hc0 : c = 0 := by
    rw [h3] at h1 h2
    clear h3
    omega
  subst hc0
  rw [lessN_mod (by omega), ← mod_twice, ← hx, ← hy, hv]
  simp
/-- A walk's boxes, while memory is only made. -/
structure Boxes (w w' : World) : Prop where
  below : Below w.heap.size w w'
  ord : Ord w'
theorem heap_below {w w' : World} {b : Nat} {o : Obj} (h : w.heap[b]? = some o) (hb : Below w.heap.size w w') : w'.heap[b]? = some o := (hb.block _ (lt_of_heap h)).trans h
set_option maxRecDepth 100000 in
set_option maxHeartbeats 1000000 in
theorem Add_any (l m : List UInt8) (hl : l.length = 32) (hm : m.length = 32) (w : World) (ho : Ord w) : Calls Tryd.prog 10 #[.agg (bvs l).toArray, .agg (bvs m).toArray] w (BytesPost (toB ((leN l + leN m) % ordN)) w) := by
  obtain ⟨zs, hzz, hz32⟩ := zero32
  obtain ⟨xs, hxs⟩ : ∃ xs : Array Value, xs = (bvs l).toArray := ⟨_, rfl⟩
  obtain ⟨ys, hys⟩ : ∃ ys : Array Value, ys = (bvs m).toArray := ⟨_, rfl⟩
  rw [← hxs, ← hys]
  have F : Hid (Below w.heap.size w (((w.alloc (.cells xs 22)).alloc (.cells ys 22)).alloc (.cells zs 22)) ∧
      (((w.alloc (.cells xs 22)).alloc (.cells ys 22)).alloc (.cells zs 22)).heap[w.heap.size]? = some (.cells (bvs l).toArray 22) ∧
      (((w.alloc (.cells xs 22)).alloc (.cells ys 22)).alloc (.cells zs 22)).heap[w.heap.size + 1]? = some (.cells (bvs m).toArray 22) ∧
      (((w.alloc (.cells xs 22)).alloc (.cells ys 22)).alloc (.cells zs 22)).there (w.heap.size + 2) 0 32) := by
    refine ⟨(((Below.refl _ _).alloc (Nat.le_refl _) _).alloc (by simp) _).alloc (by simp; omega) _, ?_, ?_, ?_⟩
    · rw [Below.heap_alloc _ _ _ (by simp; omega), Below.heap_alloc _ _ _ (by simp), hxs]; exact heap_alloc_new w _
    · rw [Below.heap_alloc _ _ _ (by simp), hys]
      have h1 := heap_alloc_new (w.alloc (.cells xs 22)) (.cells (bvs m).toArray 22)
      rw [show (w.alloc (.cells xs 22)).heap.size = w.heap.size + 1 from by simp] at h1
      exact h1
    · have h1 := there_new ((w.alloc (.cells xs 22)).alloc (.cells ys 22)) zs 22 32 (by omega)
      rw [show ((w.alloc (.cells xs 22)).alloc (.cells ys 22)).heap.size = w.heap.size + 2 from by simp] at h1
      exact h1
  have Hl := Lib.hid hl
  have Hm := Lib.hid hm
  have Ho := Lib.hid ho
  have Hxs := Lib.hid hxs
  have Hys := Lib.hid hys
  have Hzs := Lib.hid hzz
  clear hl hm ho hxs hys hzz
  go_enter Tryd.func10, Tryd.ntmps10
  go_wp2
  refine AnyC.startB (fun _ => True) (by kernel_rfl) rfl ?_
  intro w4 hb4 hs4
  have F4 : Hid (Below w.heap.size w w4 ∧ w4.heap[w.heap.size]? = some (.cells (bvs l).toArray 22) ∧ w4.heap[w.heap.size + 1]? = some (.cells (bvs m).toArray 22) ∧ w4.there (w.heap.size + 2) 0 32 ∧ w.heap.size + 3 = w4.heap.size) :=
    ⟨F.out.1.trans (hb4.mono F.out.1.size), heap_below F.out.2.1 hb4, heap_below F.out.2.2.1 hb4, there_below F.out.2.2.2 (by simp) hb4, by rw [hs4]; simp⟩
  clear hb4 hs4 F
  apply AnyC.take (i := 0) rfl (by kernel_rfl) rfl
  · intro w' hC K hK
    go_wp2
    exact hK
  · rfl
  apply AnyC.take (i := 2) rfl (by kernel_rfl) rfl
  · intro w' hC K hK
    go_wp2
    exact hK
  · rfl
  apply AnyC.solo (i := 1) rfl (by kernel_rfl) trivial
  go_wp2_with (go_at_call 18; go_must (have h_ := reduce_any (m := 4) (c := 32) l Hl.out ⟨by omega, by omega⟩ _ (reads_row F4.out.2.1) (Ho.out.below F4.out.1); rw [Hl.out] at h_; refine h_.mono ?_; rintro e w5 ⟨x, rfl, hx, hxv, hb5⟩; have X5 := Lib.hid (And.intro hx (And.intro hxv hb5)); clear hx hxv hb5))
  refine ⟨rfl, ?_⟩
  apply AnyC.solo (i := 3) rfl (by kernel_rfl) trivial
  go_wp2_with (go_at_call 18; go_must (have h_ := reduce_any (m := 4) (c := 32) m Hm.out ⟨by omega, by omega⟩ _ (reads_row (heap_below F4.out.2.2.1 X5.out.2.2)) ((Ho.out.below F4.out.1).below X5.out.2.2); rw [Hm.out] at h_; refine h_.mono ?_; rintro e w6 ⟨y, rfl, hy, hyv, hb6⟩; have Y6 := Lib.hid (And.intro hy (And.intro hyv (X5.out.2.2.trans (hb6.mono X5.out.2.2.size)))); clear hy hyv hb6))
  refine ⟨rfl, ?_⟩
  apply AnyC.solo (i := 4) rfl (by kernel_rfl) trivial
  go_wp2_with (go_at_call 22; go_must (refine (add_any x y X5.out.1 Y6.out.1 _).mono ?_; rintro e w7 ⟨d, c, rfl, hd, hc, hv, hb7⟩; have D7 := Lib.hid (And.intro hd (And.intro (addless X5.out.2.1 Y6.out.2.1 hc hv) (Y6.out.2.2.trans (hb7.mono Y6.out.2.2.size)))); clear hd hc hv hb7))
  refine ⟨rfl, ?_⟩
  apply AnyC.solo (i := 5) rfl (by kernel_rfl) trivial
  go_wp2_with (go_at_call 23; go_must (refine (less_any d D7.out.1 _ ((Ho.out.below F4.out.1).below D7.out.2.2)).mono ?_; rintro e w8 ⟨f, rfl, hf, hfv, hb8⟩; have E8 := Lib.hid (And.intro hf (And.intro (hfv.trans D7.out.2.1) (D7.out.2.2.trans (hb8.mono D7.out.2.2.size)))); clear hf hfv hb8))
  refine ⟨rfl, ?_⟩
  apply AnyC.solo (i := 6) rfl (by kernel_rfl) trivial
  go_wp2_with (go_at_call 19; go_must (refine (bytes_any f E8.out.1 _).mono ?_; rintro e w9 ⟨rfl, hb9⟩; rw [byteW_val E8.out.1, E8.out.2.1]; have B9 := Lib.hid (E8.out.2.2.trans (hb9.mono E8.out.2.2.size)); clear hb9; obtain ⟨cs, hcs⟩ : ∃ cs, (bvs (toB ((leN l + leN m) % ordN))).toArray = cs := ⟨_, rfl⟩; rw [hcs]; have Hcs := Lib.hid hcs; have Hcz : Hid (cs.size = 32) := (by show cs.size = 32; rw [← hcs]; simp [bvs_length, toB_length]); have Hth := Lib.hid (there_below F4.out.2.2.2.1 (by have h_ := F4.out.2.2.2.2; omega) B9.out); clear hcs))
  refine ⟨rfl, ?_⟩
  apply AnyC.solo (i := 7) rfl (by kernel_rfl) trivial
  go_wp2_with (refine wpList_store_mid rfl _ _ _ rfl (w.heap.size + 2) 0 cs rfl rfl (by rw [Hcz.out]; exact Hth.out) (by rw [Hcz.out]; kernel_rfl) (by rw [← Hcs.out]; exact all_oneCell_toArray (bvs_one _)) ?_)
  refine ⟨rfl, ?_⟩
  refine AnyC.done trivial (by kernel_rfl) ?_
  go_wp2
  have hld := ret32 Hth.out Hcz.out
  refine bodyPost_ret (v := .agg cs) (by simp [results, Tryd.results10, asAddr, hld]) rfl ⟨by rw [← Hcs.out], ?_⟩
  exact below_setCells _ _ _ (F4.out.1.trans (B9.out.mono F4.out.1.size)) (by omega)
end Go.Proofs.YtagjeideohplpaaDoor
