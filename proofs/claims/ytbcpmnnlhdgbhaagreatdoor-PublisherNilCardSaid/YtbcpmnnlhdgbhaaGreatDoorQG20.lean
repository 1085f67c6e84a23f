/- The texts Sc11 of this work, merged by wip/merge.py. No conditions. -/
import Derived.Test.YtbcpmnnlhdgbhaaGreatDoorQG19
namespace Go.Proofs.YtbcpmnnlhdgbhaaGreatDoor.Sc
open Go.RowKit
theorem there_row {w : World} {b n : Nat} {cs : Array Value} {t : TypeId} (h : w.heap[b]? = some (.cells cs t (0, 0))) (hn : n ≤ cs.size) : w.there b 0 n := fun j hj => by
  refine ⟨?_, ?_⟩
  · rw [Nat.zero_add, cell_of_row w b j _ _ _ h, Array.getElem?_eq_getElem (by omega)]; rfl
  · simp only [World.frozen?, h]; rfl
theorem frozen_row {w : World} {b : Nat} {cs : Array Value} {t : TypeId} (h : w.heap[b]? = some (.cells cs t (0, 0))) (i : Nat) : w.frozen? ⟨b, i, none⟩ = false := by
  simp only [World.frozen?, h]; rfl
/-- After the first region: the two factors, where they were put. -/
structure Mp (w4 v : World) (p q : Nat) (x y : W4) (A B : Nat) : Prop where
  below : Below w4.heap.size w4 v
  px : v.heap[p]? = some (.cells x.cs 294 (0, 0))
  qy : v.heap[q]? = some (.cells y.cs 294 (0, 0))
  pge : w4.heap.size ≤ p
  qge : w4.heap.size ≤ q
  xok : x.ok
  xval : x.val = A
  yok : y.ok
  yval : y.val = B
theorem Mp.stored {w4 v : World} {p q : Nat} {x y z z' : W4} {A B : Nat} (hb : Below w4.heap.size w4 v) (hp : v.heap[p]? = some (.cells z.cs 294 (0, 0))) (hq : v.heap[q]? = some (.cells z'.cs 294 (0, 0)))
    (hpq : p ≠ q) (hpg : w4.heap.size ≤ p) (hqg : w4.heap.size ≤ q) (hx : x.ok ∧ x.val = A) (hy : y.ok ∧ y.val = B) : Mp w4 ((v.setCells p 0 x.cs.toList).setCells q 0 y.cs.toList) p q x y A B := by
  have h1 : (v.setCells p 0 x.cs.toList).heap[p]? = some (.cells x.cs 294 (0, 0)) := heap_set4 hp
  have h2 : (v.setCells p 0 x.cs.toList).heap[q]? = some (.cells z'.cs 294 (0, 0)) := (heap_set4_other (fun e => hpq e.symm)).trans hq
  exact ⟨below_setCells _ _ _ (below_setCells _ _ _ hb hpg) hqg, (heap_set4_other hpq).trans h1, heap_set4 h2, hpg, hqg, hx.1, hx.2, hy.1, hy.2⟩
theorem Mp.drew {w4 v v' : World} {p q : Nat} {x y : W4} {A B : Nat} (h : Mp w4 v p q x y A B) (hb : Below v.heap.size v v') : Mp w4 v' p q x y A B :=
  ⟨h.below.trans (hb.mono h.below.size), heap_below h.px hb, heap_below h.qy hb, h.pge, h.qge, h.xok, h.xval, h.yok, h.yval⟩
theorem zero39 : ∃ zs : Array Value, zs = wC [0, 0, 0, 0, 0, 0, 0, 0] ∧ (∀ w, (zeroValue 296).run Tryz.prog w = .ok (.agg zs) w) := ⟨_, rfl, fun w => by kernel_rfl⟩
theorem zero24 : ∃ zs : Array Value, zs.size = 64 ∧ (∀ ws, zs = genC (byteL ws) 64 0) ∧ (∀ w, (zeroValue 32).run Tryz.prog w = .ok (.agg zs) w) := ⟨genC (byteL []) 64 0, genC_size _ _ _, fun ws => rfl, fun w => by kernel_rfl⟩
theorem add_w (x y : Nat) (hx : x < 18446744073709551616) (hy : y < 18446744073709551616) : ∃ s c : Nat, (∀ w, (callFunc 181 #[.int .u64 (x : Int), .int .u64 (y : Int), .int .u64 0]).run Tryz.prog w = .ok (.value (.tuple #[.int .u64 (s : Int), .int .u64 (c : Int)])) w) ∧ s + 18446744073709551616 * c = x + y ∧ s < 18446744073709551616 ∧ c ≤ 1 :=
  ⟨_, _, fun w => run_Add64 x y 0 (by omega) w, by omega, by omega, by omega⟩
theorem step_w {P h l s1 c1 s2 c2 u c : Nat} (hP : P ≤ 340282366920938463426481119284349108225) (e : l + 18446744073709551616 * h = P) (e1 : s1 + 18446744073709551616 * c1 = l + u) (e2 : s2 + 18446744073709551616 * c2 = s1 + c) (hu : u < 18446744073709551616) (hc : c < 18446744073709551616) :
    s2 + 18446744073709551616 * (h + c1 + c2) = P + u + c ∧ h + c1 + c2 < 18446744073709551616 := by
  omega
/-- The factors and the words of the product, where they lie. -/
structure Mx (w4 v : World) (p q b : Nat) (x y : W4) (A B : Nat) (ws : List Nat) : Prop where
  mp : Mp w4 v p q x y A B
  row : v.heap[b]? = some (.cells (wC ws) 296 (0, 0))
  pb : p ≠ b
  qb : q ≠ b
  bge : w4.heap.size ≤ b
theorem Mx.drew {w4 v v' : World} {p q b : Nat} {x y : W4} {A B : Nat} {ws : List Nat} (h : Mx w4 v p q b x y A B ws) (hb : Below v.heap.size v v') : Mx w4 v' p q b x y A B ws :=
  ⟨h.mp.drew hb, heap_below h.row hb, h.pb, h.qb, h.bge⟩
theorem Mx.start {w4 v : World} {p q : Nat} {x y : W4} {A B : Nat} (h : Mp w4 v p q x y A B) : Mx w4 (v.alloc (.cells (wC [0, 0, 0, 0, 0, 0, 0, 0]) 296)) p q v.heap.size x y A B [0, 0, 0, 0, 0, 0, 0, 0] :=
  ⟨h.drew ((Below.refl _ _).alloc (Nat.le_refl _) _), heap_alloc_new _ _, by have := lt_of_heap h.px; omega, by have := lt_of_heap h.qy; omega, h.below.size⟩
theorem Mx.set {w4 v : World} {p q b : Nat} {x y : W4} {A B : Nat} {ws : List Nat} (h : Mx w4 v p q b x y A B ws) {k u : Nat} (hk : k < ws.length) : Mx w4 (v.setCell ⟨b, k, none⟩ (.int .u64 (u : Int))) p q b x y A B (ws.set k u) := by
  refine ⟨⟨h.mp.below.setCell (p := ⟨b, k, none⟩) h.bge _, (Below.heap_setCell _ _ _ _ h.pb).trans h.mp.px, (Below.heap_setCell _ _ _ _ h.qb).trans h.mp.qy, h.mp.pge, h.mp.qge, h.mp.xok, h.mp.xval, h.mp.yok, h.mp.yval⟩, ?_, h.pb, h.qb, h.bge⟩
  have h1 := heap_setCell_same v b k _ _ (.int .u64 (u : Int)) h.row
  rw [wC_set hk rfl] at h1
  exact h1
theorem Mx.word {w4 v : World} {p q b : Nat} {x y : W4} {A B : Nat} {ws : List Nat} (h : Mx w4 v p q b x y A B ws) {k : Nat} (hk : k < ws.length) : v.cell? ⟨b, k, none⟩ = some (.int .u64 (ws.getD k 0 : Int)) := by
  rw [cell_of_row v b k _ _ _ h.row, wC_at hk]
theorem Mp.xw {w4 v : World} {p q : Nat} {x y : W4} {A B : Nat} (h : Mp w4 v p q x y A B) {k : Nat} (hk : k < 4) : v.cell? ⟨p, k, none⟩ = some (.int .u64 (x.wd k : Int)) := by
  rw [cell_of_row v p k _ _ _ h.px, x.at_ hk]
theorem Mp.yw {w4 v : World} {p q : Nat} {x y : W4} {A B : Nat} (h : Mp w4 v p q x y A B) {k : Nat} (hk : k < 4) : v.cell? ⟨q, k, none⟩ = some (.int .u64 (y.wd k : Int)) := by
  rw [cell_of_row v q k _ _ _ h.qy, y.at_ hk]
theorem muladd_mod (a b c n : Nat) : (a % n * (b % n) + c) % n = (a * b + c) % n := by
  rw [Nat.add_mod, ← Nat.mul_mod, ← Nat.add_mod]
def MulR (xs ys us : Array Value) (w : World) (o : List UInt8) (A B : Nat) (a : Act) (v : World) : Prop := ∃ (p q : Nat) (x y : W4) (w4 : World), a = { tmps := #[.agg xs, .agg ys, .agg us, .pointer (some ⟨w.heap.size, 0, none⟩), .pointer (some ⟨w.heap.size + 1, 0, none⟩), .pointer (some ⟨w.heap.size + 2, 0, none⟩), .pointer (some ⟨w.heap.size + 3, 0, none⟩), .pointer (some ⟨p, 0, none⟩), .pointer (some ⟨q, 0, none⟩), undef, undef, undef, undef, undef, undef, undef, undef, undef, undef, .slice (some ⟨w.heap.size, 0, none⟩) 32 32, .agg x.cs, .slice (some ⟨w.heap.size + 1, 0, none⟩) 32 32, .agg y.cs, undef, undef, undef, undef, undef, undef, undef, undef, undef, undef, undef, undef, undef, undef, undef, undef, undef, undef, undef, undef, undef, undef, undef, undef, undef, undef, undef, undef, undef, undef, undef, undef, undef, undef, undef, undef, undef, undef, undef, undef, undef, undef, undef, undef, undef, undef, undef, undef, undef, undef, undef, undef, undef, undef, undef, undef, undef, undef, undef, undef, undef, undef, undef, undef, undef, undef, undef, undef, undef, undef], defers := [] } ∧ Hid (Mp w4 v p q x y A B) ∧ Hid (Below w.heap.size w w4 ∧ w4.heap[w.heap.size + 2]? = some (.cells (bvs o).toArray 31) ∧ w4.there (w.heap.size + 3) 0 32 ∧ w.heap.size + 4 = w4.heap.size)
set_option maxRecDepth 100000 in
set_option maxHeartbeats 8000000 in
theorem MulAdd_any (l m o : List UInt8) (hl : l.length = 32) (hm : m.length = 32) (hn : o.length = 32) (w : World) (ho : Ord w) : Calls Tryz.prog 141 #[.agg (bvs l).toArray, .agg (bvs m).toArray, .agg (bvs o).toArray] w (BytesPost (toB ((leN l * leN m + leN o) % ordN)) w) := by
  obtain ⟨zs, hzz, hz32⟩ := zero32
  have hz35 : ∀ w, (zeroValue 294).run Tryz.prog w = .ok (.agg (W4.mk 0 0 0 0).cs) w := fun w => by kernel_rfl
  obtain ⟨z0, hz0⟩ : ∃ z0 : Array Value, z0 = (W4.mk 0 0 0 0).cs := ⟨_, rfl⟩
  rw [← hz0] at hz35
  obtain ⟨xs, hxs⟩ : ∃ xs : Array Value, xs = (bvs l).toArray := ⟨_, rfl⟩
  obtain ⟨ys, hys⟩ : ∃ ys : Array Value, ys = (bvs m).toArray := ⟨_, rfl⟩
  obtain ⟨us, hus⟩ : ∃ us : Array Value, us = (bvs o).toArray := ⟨_, rfl⟩
  rw [← hxs, ← hys, ← hus]
  have F : Hid (Below w.heap.size w ((((w.alloc (.cells xs 31)).alloc (.cells ys 31)).alloc (.cells us 31)).alloc (.cells zs 31)) ∧
      ((((w.alloc (.cells xs 31)).alloc (.cells ys 31)).alloc (.cells us 31)).alloc (.cells zs 31)).heap[w.heap.size]? = some (.cells (bvs l).toArray 31) ∧
      ((((w.alloc (.cells xs 31)).alloc (.cells ys 31)).alloc (.cells us 31)).alloc (.cells zs 31)).heap[w.heap.size + 1]? = some (.cells (bvs m).toArray 31) ∧
      ((((w.alloc (.cells xs 31)).alloc (.cells ys 31)).alloc (.cells us 31)).alloc (.cells zs 31)).heap[w.heap.size + 2]? = some (.cells (bvs o).toArray 31) ∧
      ((((w.alloc (.cells xs 31)).alloc (.cells ys 31)).alloc (.cells us 31)).alloc (.cells zs 31)).there (w.heap.size + 3) 0 32) := by
    refine ⟨((((Below.refl _ _).alloc (Nat.le_refl _) _).alloc (by simp) _).alloc (by simp; omega) _).alloc (by simp; omega) _, ?_, ?_, ?_, ?_⟩
    · rw [Below.heap_alloc _ _ _ (by simp; omega), Below.heap_alloc _ _ _ (by simp; omega), Below.heap_alloc _ _ _ (by simp), hxs]; exact heap_alloc_new w _
    · rw [Below.heap_alloc _ _ _ (by simp <;> omega), Below.heap_alloc _ _ _ (by simp), hys]
      have h1 := heap_alloc_new (w.alloc (.cells xs 31)) (.cells (bvs m).toArray 31)
      rw [show (w.alloc (.cells xs 31)).heap.size = w.heap.size + 1 from by simp] at h1
      exact h1
    · rw [Below.heap_alloc _ _ _ (by simp), hus]
      have h1 := heap_alloc_new ((w.alloc (.cells xs 31)).alloc (.cells ys 31)) (.cells (bvs o).toArray 31)
      rw [show ((w.alloc (.cells xs 31)).alloc (.cells ys 31)).heap.size = w.heap.size + 2 from by simp] at h1
      exact h1
    · have h1 := there_new (((w.alloc (.cells xs 31)).alloc (.cells ys 31)).alloc (.cells us 31)) zs 31 32 (by omega)
      rw [show (((w.alloc (.cells xs 31)).alloc (.cells ys 31)).alloc (.cells us 31)).heap.size = w.heap.size + 3 from by simp] at h1
      exact h1
  have Hl := Lib.hid hl
  have Hm := Lib.hid hm
  have Hn := Lib.hid hn
  have Ho := Lib.hid ho
  have Hz0 := Lib.hid hz0
  clear hl hm hn ho hxs hys hus hzz hz0
  go_enter Tryz.func141, Tryz.ntmps141
  go_wp2
  refine AnyC.startR (fun _ => True) (MulR xs ys us w o (leN l % ordN) (leN m % ordN)) (by kernel_rfl) rfl ?_ ?_
  · have HD : Hid (Below (w.heap.size + 4) ((((w.alloc (.cells xs 31)).alloc (.cells ys 31)).alloc (.cells us 31)).alloc (.cells zs 31)) { (((w.alloc (.cells xs 31)).alloc (.cells ys 31)).alloc (.cells us 31)).alloc (.cells zs 31) with drawn := ((((w.alloc (.cells xs 31)).alloc (.cells ys 31)).alloc (.cells us 31)).alloc (.cells zs 31)).drawn + 1 } ∧ ({ (((w.alloc (.cells xs 31)).alloc (.cells ys 31)).alloc (.cells us 31)).alloc (.cells zs 31) with drawn := ((((w.alloc (.cells xs 31)).alloc (.cells ys 31)).alloc (.cells us 31)).alloc (.cells zs 31)).drawn + 1 } : World).heap.size = w.heap.size + 4) := ⟨⟨rfl, rfl, rfl, Nat.le_refl _, fun _ _ => rfl⟩, by simp⟩
    generalize ({ (((w.alloc (.cells xs 31)).alloc (.cells ys 31)).alloc (.cells us 31)).alloc (.cells zs 31) with drawn := ((((w.alloc (.cells xs 31)).alloc (.cells ys 31)).alloc (.cells us 31)).alloc (.cells zs 31)).drawn + 1 } : World) = w4 at *
    have F4 : Hid (Below w.heap.size w w4 ∧ w4.heap[w.heap.size]? = some (.cells (bvs l).toArray 31) ∧ w4.heap[w.heap.size + 1]? = some (.cells (bvs m).toArray 31) ∧ w4.heap[w.heap.size + 2]? = some (.cells (bvs o).toArray 31) ∧ w4.there (w.heap.size + 3) 0 32 ∧ w.heap.size + 4 = w4.heap.size) := by
      obtain ⟨hb4, hs4⟩ := HD.out
      have hsz : ((((w.alloc (.cells xs 31)).alloc (.cells ys 31)).alloc (.cells us 31)).alloc (.cells zs 31)).heap.size = w.heap.size + 4 := by simp
      rw [← hsz] at hb4
      exact ⟨F.out.1.trans (hb4.mono F.out.1.size), heap_below F.out.2.1 hb4, heap_below F.out.2.2.1 hb4, heap_below F.out.2.2.2.1 hb4, there_below F.out.2.2.2.2 (by simp) hb4, hs4.symm⟩
    have O4 : Hid (Ord w4) := Ho.out.below F4.out.1
    have B0 : Hid (Below w4.heap.size w4 w4) := Below.refl _ _
    clear F HD Ho
    apply AnyC.take (i := 0) rfl (by kernel_rfl) rfl
    · intro w' hC K hK
      go_wp2
      exact hK
    · rfl
    apply AnyC.take (i := 2) rfl (by kernel_rfl) rfl
    · intro w' hC K hK
      go_wp2
      exact hK
    · rfl
    apply AnyC.three (i := 1) (j := 4) (m := 5) rfl rfl rfl (by kernel_rfl) trivial
    · go_wp2_with (go_at_call 179; go_must (have h_ := reduce_any (m := 4) (c := 32) l Hl.out ⟨by omega, by omega⟩ _ (reads_row (heap_below F4.out.2.1 B0.out)) (O4.out.below B0.out); rw [Hl.out] at h_; refine h_.mono ?_; rintro e v1 ⟨x, rfl, hx, hxv, hb⟩; have X := Lib.hid (And.intro hx hxv); have B1 := Lib.hid (B0.out.trans (hb.mono B0.out.size)); clear hx hxv hb h_))
      refine ⟨rfl, ?_⟩
      apply AnyC.three (i := 3) (j := 4) (m := 5) rfl rfl rfl (by kernel_rfl) trivial
      · go_wp2_with (go_at_call 179; go_must (have h_ := reduce_any (m := 4) (c := 32) m Hm.out ⟨by omega, by omega⟩ _ (reads_row (heap_below F4.out.2.2.1 B1.out)) (O4.out.below B1.out); rw [Hm.out] at h_; refine h_.mono ?_; rintro e v2 ⟨y, rfl, hx, hxv, hb⟩; have Y := Lib.hid (And.intro hx hxv); have B2 := Lib.hid (B1.out.trans (hb.mono B1.out.size)); clear hx hxv hb h_))
        refine ⟨rfl, ?_⟩
        apply AnyC.two (i := 4) (j := 5) rfl rfl (by kernel_rfl) trivial
        · go_wp2
          refine ⟨rfl, ?_⟩
          obtain ⟨v3, hv3⟩ : ∃ v3, v3 = v2.alloc (.cells z0 294) := ⟨_, rfl⟩
          obtain ⟨p, hp⟩ : ∃ p, p = v2.heap.size := ⟨_, rfl⟩
          rw [← hv3, ← hp]
          have B3 : Hid (Below w4.heap.size w4 v3) := by show Below _ _ _; rw [hv3]; exact B2.out.alloc B2.out.size _
          have P3 : Hid (v3.heap[p]? = some (.cells (W4.mk 0 0 0 0).cs 294 (0, 0))) := by show _ = _; rw [hv3, hp, Hz0.out]; exact heap_alloc_new _ _
          have Gp : Hid (w4.heap.size ≤ p) := by show _ ≤ _; rw [hp]; exact B2.out.size
          clear hv3 hp
          apply AnyC.solo (i := 5) rfl (by kernel_rfl) trivial
          go_wp2
          refine ⟨rfl, ?_⟩
          obtain ⟨v4, hv4⟩ : ∃ v4, v4 = v3.alloc (.cells z0 294) := ⟨_, rfl⟩
          obtain ⟨q, hq⟩ : ∃ q, q = v3.heap.size := ⟨_, rfl⟩
          rw [← hv4, ← hq]
          have B4 : Hid (Below w4.heap.size w4 v4) := by show Below _ _ _; rw [hv4]; exact B3.out.alloc B3.out.size _
          have Q4 : Hid (v4.heap[q]? = some (.cells (W4.mk 0 0 0 0).cs 294 (0, 0))) := by show _ = _; rw [hv4, hq, Hz0.out]; exact heap_alloc_new _ _
          have Gq : Hid (w4.heap.size ≤ q) := by show _ ≤ _; rw [hq]; exact B3.out.size
          have Ne : Hid (p ≠ q) := by have h_ := lt_of_heap P3.out; show _ ≠ _; omega
          have P4 : Hid (v4.heap[p]? = some (.cells (W4.mk 0 0 0 0).cs 294 (0, 0))) := by show _ = _; rw [hv4, Below.heap_alloc _ _ _ (lt_of_heap P3.out)]; exact P3.out
          clear hv4 hq
          apply AnyC.solo (i := 6) rfl (by kernel_rfl) trivial
          refine wpList_store_mid rfl _ _ _ rfl p 0 x.cs rfl rfl (there_row P4.out (Nat.le_refl 4)) (by kernel_rfl) (by kernel_rfl) ?_
          go_wp2
          refine ⟨rfl, ?_⟩
          apply AnyC.solo (i := 7) rfl (by kernel_rfl) trivial
          refine wpList_store_mid rfl _ _ _ rfl q 0 y.cs rfl rfl (there_row ((heap_set4_other (fun e => Ne.out e.symm)).trans Q4.out) (Nat.le_refl 4)) (by kernel_rfl) (by kernel_rfl) ?_
          go_wp2
          refine ⟨rfl, ?_⟩
          exact AnyC.done trivial (by kernel_rfl) ⟨p, q, x, y, w4, rfl, Mp.stored B4.out P4.out Q4.out Ne.out Gp.out Gq.out X.out Y.out, F4.out.1, F4.out.2.2.2.1, F4.out.2.2.2.2⟩
        · go_wp2
          refine ⟨rfl, ?_⟩
          obtain ⟨v5, hv5⟩ : ∃ v5, v5 = v2.alloc (.cells z0 294) := ⟨_, rfl⟩
          obtain ⟨q, hq⟩ : ∃ q, q = v2.heap.size := ⟨_, rfl⟩
          rw [← hv5, ← hq]
          have B5 : Hid (Below w4.heap.size w4 v5) := by show Below _ _ _; rw [hv5]; exact B2.out.alloc B2.out.size _
          have Q5 : Hid (v5.heap[q]? = some (.cells (W4.mk 0 0 0 0).cs 294 (0, 0))) := by show _ = _; rw [hv5, hq, Hz0.out]; exact heap_alloc_new _ _
          have Gq : Hid (w4.heap.size ≤ q) := by show _ ≤ _; rw [hq]; exact B2.out.size
          clear hv5 hq
          apply AnyC.solo (i := 4) rfl (by kernel_rfl) trivial
          go_wp2
          refine ⟨rfl, ?_⟩
          obtain ⟨v6, hv6⟩ : ∃ v6, v6 = v5.alloc (.cells z0 294) := ⟨_, rfl⟩
          obtain ⟨p, hp⟩ : ∃ p, p = v5.heap.size := ⟨_, rfl⟩
          rw [← hv6, ← hp]
          have B6 : Hid (Below w4.heap.size w4 v6) := by show Below _ _ _; rw [hv6]; exact B5.out.alloc B5.out.size _
          have P6 : Hid (v6.heap[p]? = some (.cells (W4.mk 0 0 0 0).cs 294 (0, 0))) := by show _ = _; rw [hv6, hp, Hz0.out]; exact heap_alloc_new _ _
          have Gp : Hid (w4.heap.size ≤ p) := by show _ ≤ _; rw [hp]; exact B5.out.size
          have Ne : Hid (p ≠ q) := by have h_ := lt_of_heap Q5.out; show _ ≠ _; omega
          have Q6 : Hid (v6.heap[q]? = some (.cells (W4.mk 0 0 0 0).cs 294 (0, 0))) := by show _ = _; rw [hv6, Below.heap_alloc _ _ _ (lt_of_heap Q5.out)]; exact Q5.out
          clear hv6 hp
          apply AnyC.solo (i := 6) rfl (by kernel_rfl) trivial
          refine wpList_store_mid rfl _ _ _ rfl p 0 x.cs rfl rfl (there_row P6.out (Nat.le_refl 4)) (by kernel_rfl) (by kernel_rfl) ?_
          go_wp2
          refine ⟨rfl, ?_⟩
          apply AnyC.solo (i := 7) rfl (by kernel_rfl) trivial
          refine wpList_store_mid rfl _ _ _ rfl q 0 y.cs rfl rfl (there_row ((heap_set4_other (fun e => Ne.out e.symm)).trans Q6.out) (Nat.le_refl 4)) (by kernel_rfl) (by kernel_rfl) ?_
          go_wp2
          refine ⟨rfl, ?_⟩
          exact AnyC.done trivial (by kernel_rfl) ⟨p, q, x, y, w4, rfl, Mp.stored B6.out P6.out Q6.out Ne.out Gp.out Gq.out X.out Y.out, F4.out.1, F4.out.2.2.2.1, F4.out.2.2.2.2⟩
      · go_wp2
        refine ⟨rfl, ?_⟩
        obtain ⟨v7, hv7⟩ : ∃ v7, v7 = v1.alloc (.cells z0 294) := ⟨_, rfl⟩
        obtain ⟨p, hp⟩ : ∃ p, p = v1.heap.size := ⟨_, rfl⟩
        rw [← hv7, ← hp]
        have B7 : Hid (Below w4.heap.size w4 v7) := by show Below _ _ _; rw [hv7]; exact B1.out.alloc B1.out.size _
        have P7 : Hid (v7.heap[p]? = some (.cells (W4.mk 0 0 0 0).cs 294 (0, 0))) := by show _ = _; rw [hv7, hp, Hz0.out]; exact heap_alloc_new _ _
        have Gp : Hid (w4.heap.size ≤ p) := by show _ ≤ _; rw [hp]; exact B1.out.size
        clear hv7 hp
        apply AnyC.two (i := 3) (j := 5) rfl rfl (by kernel_rfl) trivial
        · go_wp2_with (go_at_call 179; go_must (have h_ := reduce_any (m := 4) (c := 32) m Hm.out ⟨by omega, by omega⟩ _ (reads_row (heap_below F4.out.2.2.1 B7.out)) (O4.out.below B7.out); rw [Hm.out] at h_; refine h_.mono ?_; rintro e v8 ⟨y, rfl, hx, hxv, hb⟩; have Y := Lib.hid (And.intro hx hxv); have B8 := Lib.hid (B7.out.trans (hb.mono B7.out.size)); have P8 := Lib.hid (heap_below P7.out hb); clear hx hxv hb h_))
          refine ⟨rfl, ?_⟩
          apply AnyC.solo (i := 5) rfl (by kernel_rfl) trivial
          go_wp2
          refine ⟨rfl, ?_⟩
          obtain ⟨v9, hv9⟩ : ∃ v9, v9 = v8.alloc (.cells z0 294) := ⟨_, rfl⟩
          obtain ⟨q, hq⟩ : ∃ q, q = v8.heap.size := ⟨_, rfl⟩
          rw [← hv9, ← hq]
          have B9 : Hid (Below w4.heap.size w4 v9) := by show Below _ _ _; rw [hv9]; exact B8.out.alloc B8.out.size _
          have Q9 : Hid (v9.heap[q]? = some (.cells (W4.mk 0 0 0 0).cs 294 (0, 0))) := by show _ = _; rw [hv9, hq, Hz0.out]; exact heap_alloc_new _ _
          have Gq : Hid (w4.heap.size ≤ q) := by show _ ≤ _; rw [hq]; exact B8.out.size
          have Ne : Hid (p ≠ q) := by have h_ := lt_of_heap P8.out; show _ ≠ _; omega
          have P9 : Hid (v9.heap[p]? = some (.cells (W4.mk 0 0 0 0).cs 294 (0, 0))) := by show _ = _; rw [hv9, Below.heap_alloc _ _ _ (lt_of_heap P8.out)]; exact P8.out
          clear hv9 hq
          apply AnyC.solo (i := 6) rfl (by kernel_rfl) trivial
          refine wpList_store_mid rfl _ _ _ rfl p 0 x.cs rfl rfl (there_row P9.out (Nat.le_refl 4)) (by kernel_rfl) (by kernel_rfl) ?_
          go_wp2
          refine ⟨rfl, ?_⟩
          apply AnyC.solo (i := 7) rfl (by kernel_rfl) trivial
          refine wpList_store_mid rfl _ _ _ rfl q 0 y.cs rfl rfl (there_row ((heap_set4_other (fun e => Ne.out e.symm)).trans Q9.out) (Nat.le_refl 4)) (by kernel_rfl) (by kernel_rfl) ?_
          go_wp2
          refine ⟨rfl, ?_⟩
          exact AnyC.done trivial (by kernel_rfl) ⟨p, q, x, y, w4, rfl, Mp.stored B9.out P9.out Q9.out Ne.out Gp.out Gq.out X.out Y.out, F4.out.1, F4.out.2.2.2.1, F4.out.2.2.2.2⟩
        · go_wp2
          refine ⟨rfl, ?_⟩
          obtain ⟨v10, hv10⟩ : ∃ v10, v10 = v7.alloc (.cells z0 294) := ⟨_, rfl⟩
          obtain ⟨q, hq⟩ : ∃ q, q = v7.heap.size := ⟨_, rfl⟩
          rw [← hv10, ← hq]
          have B10 : Hid (Below w4.heap.size w4 v10) := by show Below _ _ _; rw [hv10]; exact B7.out.alloc B7.out.size _
          have Q10 : Hid (v10.heap[q]? = some (.cells (W4.mk 0 0 0 0).cs 294 (0, 0))) := by show _ = _; rw [hv10, hq, Hz0.out]; exact heap_alloc_new _ _
          have Gq : Hid (w4.heap.size ≤ q) := by show _ ≤ _; rw [hq]; exact B7.out.size
          have Ne : Hid (p ≠ q) := by have h_ := lt_of_heap P7.out; show _ ≠ _; omega
          have P10 : Hid (v10.heap[p]? = some (.cells (W4.mk 0 0 0 0).cs 294 (0, 0))) := by show _ = _; rw [hv10, Below.heap_alloc _ _ _ (lt_of_heap P7.out)]; exact P7.out
          clear hv10 hq
          apply AnyC.solo (i := 3) rfl (by kernel_rfl) trivial
          go_wp2_with (go_at_call 179; go_must (have h_ := reduce_any (m := 4) (c := 32) m Hm.out ⟨by omega, by omega⟩ _ (reads_row (heap_below F4.out.2.2.1 B10.out)) (O4.out.below B10.out); rw [Hm.out] at h_; refine h_.mono ?_; rintro e v11 ⟨y, rfl, hx, hxv, hb⟩; have Y := Lib.hid (And.intro hx hxv); have B11 := Lib.hid (B10.out.trans (hb.mono B10.out.size)); have P11 := Lib.hid (heap_below P10.out hb); have Q11 := Lib.hid (heap_below Q10.out hb); clear hx hxv hb h_))
          refine ⟨rfl, ?_⟩
          apply AnyC.solo (i := 6) rfl (by kernel_rfl) trivial
          refine wpList_store_mid rfl _ _ _ rfl p 0 x.cs rfl rfl (there_row P11.out (Nat.le_refl 4)) (by kernel_rfl) (by kernel_rfl) ?_
          go_wp2
          refine ⟨rfl, ?_⟩
          apply AnyC.solo (i := 7) rfl (by kernel_rfl) trivial
          refine wpList_store_mid rfl _ _ _ rfl q 0 y.cs rfl rfl (there_row ((heap_set4_other (fun e => Ne.out e.symm)).trans Q11.out) (Nat.le_refl 4)) (by kernel_rfl) (by kernel_rfl) ?_
          go_wp2
          refine ⟨rfl, ?_⟩
          exact AnyC.done trivial (by kernel_rfl) ⟨p, q, x, y, w4, rfl, Mp.stored B11.out P11.out Q11.out Ne.out Gp.out Gq.out X.out Y.out, F4.out.1, F4.out.2.2.2.1, F4.out.2.2.2.2⟩
      · go_wp2
        refine ⟨rfl, ?_⟩
        obtain ⟨v12, hv12⟩ : ∃ v12, v12 = v1.alloc (.cells z0 294) := ⟨_, rfl⟩
        obtain ⟨q, hq⟩ : ∃ q, q = v1.heap.size := ⟨_, rfl⟩
        rw [← hv12, ← hq]
        have B12 : Hid (Below w4.heap.size w4 v12) := by show Below _ _ _; rw [hv12]; exact B1.out.alloc B1.out.size _
        have Q12 : Hid (v12.heap[q]? = some (.cells (W4.mk 0 0 0 0).cs 294 (0, 0))) := by show _ = _; rw [hv12, hq, Hz0.out]; exact heap_alloc_new _ _
        have Gq : Hid (w4.heap.size ≤ q) := by show _ ≤ _; rw [hq]; exact B1.out.size
        clear hv12 hq
        apply AnyC.two (i := 3) (j := 4) rfl rfl (by kernel_rfl) trivial
        · go_wp2_with (go_at_call 179; go_must (have h_ := reduce_any (m := 4) (c := 32) m Hm.out ⟨by omega, by omega⟩ _ (reads_row (heap_below F4.out.2.2.1 B12.out)) (O4.out.below B12.out); rw [Hm.out] at h_; refine h_.mono ?_; rintro e v13 ⟨y, rfl, hx, hxv, hb⟩; have Y := Lib.hid (And.intro hx hxv); have B13 := Lib.hid (B12.out.trans (hb.mono B12.out.size)); have Q13 := Lib.hid (heap_below Q12.out hb); clear hx hxv hb h_))
          refine ⟨rfl, ?_⟩
          apply AnyC.solo (i := 4) rfl (by kernel_rfl) trivial
          go_wp2
          refine ⟨rfl, ?_⟩
          obtain ⟨v14, hv14⟩ : ∃ v14, v14 = v13.alloc (.cells z0 294) := ⟨_, rfl⟩
          obtain ⟨p, hp⟩ : ∃ p, p = v13.heap.size := ⟨_, rfl⟩
          rw [← hv14, ← hp]
          have B14 : Hid (Below w4.heap.size w4 v14) := by show Below _ _ _; rw [hv14]; exact B13.out.alloc B13.out.size _
          have P14 : Hid (v14.heap[p]? = some (.cells (W4.mk 0 0 0 0).cs 294 (0, 0))) := by show _ = _; rw [hv14, hp, Hz0.out]; exact heap_alloc_new _ _
          have Gp : Hid (w4.heap.size ≤ p) := by show _ ≤ _; rw [hp]; exact B13.out.size
          have Ne : Hid (p ≠ q) := by have h_ := lt_of_heap Q13.out; show _ ≠ _; omega
          have Q14 : Hid (v14.heap[q]? = some (.cells (W4.mk 0 0 0 0).cs 294 (0, 0))) := by show _ = _; rw [hv14, Below.heap_alloc _ _ _ (lt_of_heap Q13.out)]; exact Q13.out
          clear hv14 hp
          apply AnyC.solo (i := 6) rfl (by kernel_rfl) trivial
          refine wpList_store_mid rfl _ _ _ rfl p 0 x.cs rfl rfl (there_row P14.out (Nat.le_refl 4)) (by kernel_rfl) (by kernel_rfl) ?_
          go_wp2
          refine ⟨rfl, ?_⟩
          apply AnyC.solo (i := 7) rfl (by kernel_rfl) trivial
          refine wpList_store_mid rfl _ _ _ rfl q 0 y.cs rfl rfl (there_row ((heap_set4_other (fun e => Ne.out e.symm)).trans Q14.out) (Nat.le_refl 4)) (by kernel_rfl) (by kernel_rfl) ?_
          go_wp2
          refine ⟨rfl, ?_⟩
          exact AnyC.done trivial (by kernel_rfl) ⟨p, q, x, y, w4, rfl, Mp.stored B14.out P14.out Q14.out Ne.out Gp.out Gq.out X.out Y.out, F4.out.1, F4.out.2.2.2.1, F4.out.2.2.2.2⟩
        · go_wp2
          refine ⟨rfl, ?_⟩
          obtain ⟨v15, hv15⟩ : ∃ v15, v15 = v12.alloc (.cells z0 294) := ⟨_, rfl⟩
          obtain ⟨p, hp⟩ : ∃ p, p = v12.heap.size := ⟨_, rfl⟩
          rw [← hv15, ← hp]
          have B15 : Hid (Below w4.heap.size w4 v15) := by show Below _ _ _; rw [hv15]; exact B12.out.alloc B12.out.size _
          have P15 : Hid (v15.heap[p]? = some (.cells (W4.mk 0 0 0 0).cs 294 (0, 0))) := by show _ = _; rw [hv15, hp, Hz0.out]; exact heap_alloc_new _ _
          have Gp : Hid (w4.heap.size ≤ p) := by show _ ≤ _; rw [hp]; exact B12.out.size
          have Ne : Hid (p ≠ q) := by have h_ := lt_of_heap Q12.out; show _ ≠ _; omega
          have Q15 : Hid (v15.heap[q]? = some (.cells (W4.mk 0 0 0 0).cs 294 (0, 0))) := by show _ = _; rw [hv15, Below.heap_alloc _ _ _ (lt_of_heap Q12.out)]; exact Q12.out
          clear hv15 hp
          apply AnyC.solo (i := 3) rfl (by kernel_rfl) trivial
          go_wp2_with (go_at_call 179; go_must (have h_ := reduce_any (m := 4) (c := 32) m Hm.out ⟨by omega, by omega⟩ _ (reads_row (heap_below F4.out.2.2.1 B15.out)) (O4.out.below B15.out); rw [Hm.out] at h_; refine h_.mono ?_; rintro e v16 ⟨y, rfl, hx, hxv, hb⟩; have Y := Lib.hid (And.intro hx hxv); have B16 := Lib.hid (B15.out.trans (hb.mono B15.out.size)); have P16 := Lib.hid (heap_below P15.out hb); have Q16 := Lib.hid (heap_below Q15.out hb); clear hx hxv hb h_))
          refine ⟨rfl, ?_⟩
          apply AnyC.solo (i := 6) rfl (by kernel_rfl) trivial
          refine wpList_store_mid rfl _ _ _ rfl p 0 x.cs rfl rfl (there_row P16.out (Nat.le_refl 4)) (by kernel_rfl) (by kernel_rfl) ?_
          go_wp2
          refine ⟨rfl, ?_⟩
          apply AnyC.solo (i := 7) rfl (by kernel_rfl) trivial
          refine wpList_store_mid rfl _ _ _ rfl q 0 y.cs rfl rfl (there_row ((heap_set4_other (fun e => Ne.out e.symm)).trans Q16.out) (Nat.le_refl 4)) (by kernel_rfl) (by kernel_rfl) ?_
          go_wp2
          refine ⟨rfl, ?_⟩
          exact AnyC.done trivial (by kernel_rfl) ⟨p, q, x, y, w4, rfl, Mp.stored B16.out P16.out Q16.out Ne.out Gp.out Gq.out X.out Y.out, F4.out.1, F4.out.2.2.2.1, F4.out.2.2.2.2⟩
    · go_wp2
      refine ⟨rfl, ?_⟩
      obtain ⟨v17, hv17⟩ : ∃ v17, v17 = w4.alloc (.cells z0 294) := ⟨_, rfl⟩
      obtain ⟨p, hp⟩ : ∃ p, p = w4.heap.size := ⟨_, rfl⟩
      rw [← hv17, ← hp]
      have B17 : Hid (Below w4.heap.size w4 v17) := by show Below _ _ _; rw [hv17]; exact B0.out.alloc B0.out.size _
      have P17 : Hid (v17.heap[p]? = some (.cells (W4.mk 0 0 0 0).cs 294 (0, 0))) := by show _ = _; rw [hv17, hp, Hz0.out]; exact heap_alloc_new _ _
      have Gp : Hid (w4.heap.size ≤ p) := by show _ ≤ _; rw [hp]; exact B0.out.size
      clear hv17 hp
      apply AnyC.two (i := 1) (j := 5) rfl rfl (by kernel_rfl) trivial
      · go_wp2_with (go_at_call 179; go_must (have h_ := reduce_any (m := 4) (c := 32) l Hl.out ⟨by omega, by omega⟩ _ (reads_row (heap_below F4.out.2.1 B17.out)) (O4.out.below B17.out); rw [Hl.out] at h_; refine h_.mono ?_; rintro e v18 ⟨x, rfl, hx, hxv, hb⟩; have X := Lib.hid (And.intro hx hxv); have B18 := Lib.hid (B17.out.trans (hb.mono B17.out.size)); have P18 := Lib.hid (heap_below P17.out hb); clear hx hxv hb h_))
        refine ⟨rfl, ?_⟩
        apply AnyC.two (i := 3) (j := 5) rfl rfl (by kernel_rfl) trivial
        · go_wp2_with (go_at_call 179; go_must (have h_ := reduce_any (m := 4) (c := 32) m Hm.out ⟨by omega, by omega⟩ _ (reads_row (heap_below F4.out.2.2.1 B18.out)) (O4.out.below B18.out); rw [Hm.out] at h_; refine h_.mono ?_; rintro e v19 ⟨y, rfl, hx, hxv, hb⟩; have Y := Lib.hid (And.intro hx hxv); have B19 := Lib.hid (B18.out.trans (hb.mono B18.out.size)); have P19 := Lib.hid (heap_below P18.out hb); clear hx hxv hb h_))
          refine ⟨rfl, ?_⟩
          apply AnyC.solo (i := 5) rfl (by kernel_rfl) trivial
          go_wp2
          refine ⟨rfl, ?_⟩
          obtain ⟨v20, hv20⟩ : ∃ v20, v20 = v19.alloc (.cells z0 294) := ⟨_, rfl⟩
          obtain ⟨q, hq⟩ : ∃ q, q = v19.heap.size := ⟨_, rfl⟩
          rw [← hv20, ← hq]
          have B20 : Hid (Below w4.heap.size w4 v20) := by show Below _ _ _; rw [hv20]; exact B19.out.alloc B19.out.size _
          have Q20 : Hid (v20.heap[q]? = some (.cells (W4.mk 0 0 0 0).cs 294 (0, 0))) := by show _ = _; rw [hv20, hq, Hz0.out]; exact heap_alloc_new _ _
          have Gq : Hid (w4.heap.size ≤ q) := by show _ ≤ _; rw [hq]; exact B19.out.size
          have Ne : Hid (p ≠ q) := by have h_ := lt_of_heap P19.out; show _ ≠ _; omega
          have P20 : Hid (v20.heap[p]? = some (.cells (W4.mk 0 0 0 0).cs 294 (0, 0))) := by show _ = _; rw [hv20, Below.heap_alloc _ _ _ (lt_of_heap P19.out)]; exact P19.out
          clear hv20 hq
          apply AnyC.solo (i := 6) rfl (by kernel_rfl) trivial
          refine wpList_store_mid rfl _ _ _ rfl p 0 x.cs rfl rfl (there_row P20.out (Nat.le_refl 4)) (by kernel_rfl) (by kernel_rfl) ?_
          go_wp2
          refine ⟨rfl, ?_⟩
          apply AnyC.solo (i := 7) rfl (by kernel_rfl) trivial
          refine wpList_store_mid rfl _ _ _ rfl q 0 y.cs rfl rfl (there_row ((heap_set4_other (fun e => Ne.out e.symm)).trans Q20.out) (Nat.le_refl 4)) (by kernel_rfl) (by kernel_rfl) ?_
          go_wp2
          refine ⟨rfl, ?_⟩
          exact AnyC.done trivial (by kernel_rfl) ⟨p, q, x, y, w4, rfl, Mp.stored B20.out P20.out Q20.out Ne.out Gp.out Gq.out X.out Y.out, F4.out.1, F4.out.2.2.2.1, F4.out.2.2.2.2⟩
        · go_wp2
          refine ⟨rfl, ?_⟩
          obtain ⟨v21, hv21⟩ : ∃ v21, v21 = v18.alloc (.cells z0 294) := ⟨_, rfl⟩
          obtain ⟨q, hq⟩ : ∃ q, q = v18.heap.size := ⟨_, rfl⟩
          rw [← hv21, ← hq]
          have B21 : Hid (Below w4.heap.size w4 v21) := by show Below _ _ _; rw [hv21]; exact B18.out.alloc B18.out.size _
          have Q21 : Hid (v21.heap[q]? = some (.cells (W4.mk 0 0 0 0).cs 294 (0, 0))) := by show _ = _; rw [hv21, hq, Hz0.out]; exact heap_alloc_new _ _
          have Gq : Hid (w4.heap.size ≤ q) := by show _ ≤ _; rw [hq]; exact B18.out.size
          have Ne : Hid (p ≠ q) := by have h_ := lt_of_heap P18.out; show _ ≠ _; omega
          have P21 : Hid (v21.heap[p]? = some (.cells (W4.mk 0 0 0 0).cs 294 (0, 0))) := by show _ = _; rw [hv21, Below.heap_alloc _ _ _ (lt_of_heap P18.out)]; exact P18.out
          clear hv21 hq
          apply AnyC.solo (i := 3) rfl (by kernel_rfl) trivial
          go_wp2_with (go_at_call 179; go_must (have h_ := reduce_any (m := 4) (c := 32) m Hm.out ⟨by omega, by omega⟩ _ (reads_row (heap_below F4.out.2.2.1 B21.out)) (O4.out.below B21.out); rw [Hm.out] at h_; refine h_.mono ?_; rintro e v22 ⟨y, rfl, hx, hxv, hb⟩; have Y := Lib.hid (And.intro hx hxv); have B22 := Lib.hid (B21.out.trans (hb.mono B21.out.size)); have P22 := Lib.hid (heap_below P21.out hb); have Q22 := Lib.hid (heap_below Q21.out hb); clear hx hxv hb h_))
          refine ⟨rfl, ?_⟩
          apply AnyC.solo (i := 6) rfl (by kernel_rfl) trivial
          refine wpList_store_mid rfl _ _ _ rfl p 0 x.cs rfl rfl (there_row P22.out (Nat.le_refl 4)) (by kernel_rfl) (by kernel_rfl) ?_
          go_wp2
          refine ⟨rfl, ?_⟩
          apply AnyC.solo (i := 7) rfl (by kernel_rfl) trivial
          refine wpList_store_mid rfl _ _ _ rfl q 0 y.cs rfl rfl (there_row ((heap_set4_other (fun e => Ne.out e.symm)).trans Q22.out) (Nat.le_refl 4)) (by kernel_rfl) (by kernel_rfl) ?_
          go_wp2
          refine ⟨rfl, ?_⟩
          exact AnyC.done trivial (by kernel_rfl) ⟨p, q, x, y, w4, rfl, Mp.stored B22.out P22.out Q22.out Ne.out Gp.out Gq.out X.out Y.out, F4.out.1, F4.out.2.2.2.1, F4.out.2.2.2.2⟩
      · go_wp2
        refine ⟨rfl, ?_⟩
        obtain ⟨v23, hv23⟩ : ∃ v23, v23 = v17.alloc (.cells z0 294) := ⟨_, rfl⟩
        obtain ⟨q, hq⟩ : ∃ q, q = v17.heap.size := ⟨_, rfl⟩
        rw [← hv23, ← hq]
        have B23 : Hid (Below w4.heap.size w4 v23) := by show Below _ _ _; rw [hv23]; exact B17.out.alloc B17.out.size _
        have Q23 : Hid (v23.heap[q]? = some (.cells (W4.mk 0 0 0 0).cs 294 (0, 0))) := by show _ = _; rw [hv23, hq, Hz0.out]; exact heap_alloc_new _ _
        have Gq : Hid (w4.heap.size ≤ q) := by show _ ≤ _; rw [hq]; exact B17.out.size
        have Ne : Hid (p ≠ q) := by have h_ := lt_of_heap P17.out; show _ ≠ _; omega
        have P23 : Hid (v23.heap[p]? = some (.cells (W4.mk 0 0 0 0).cs 294 (0, 0))) := by show _ = _; rw [hv23, Below.heap_alloc _ _ _ (lt_of_heap P17.out)]; exact P17.out
        clear hv23 hq
        apply AnyC.solo (i := 1) rfl (by kernel_rfl) trivial
        go_wp2_with (go_at_call 179; go_must (have h_ := reduce_any (m := 4) (c := 32) l Hl.out ⟨by omega, by omega⟩ _ (reads_row (heap_below F4.out.2.1 B23.out)) (O4.out.below B23.out); rw [Hl.out] at h_; refine h_.mono ?_; rintro e v24 ⟨x, rfl, hx, hxv, hb⟩; have X := Lib.hid (And.intro hx hxv); have B24 := Lib.hid (B23.out.trans (hb.mono B23.out.size)); have P24 := Lib.hid (heap_below P23.out hb); have Q24 := Lib.hid (heap_below Q23.out hb); clear hx hxv hb h_))
        refine ⟨rfl, ?_⟩
        apply AnyC.solo (i := 3) rfl (by kernel_rfl) trivial
        go_wp2_with (go_at_call 179; go_must (have h_ := reduce_any (m := 4) (c := 32) m Hm.out ⟨by omega, by omega⟩ _ (reads_row (heap_below F4.out.2.2.1 B24.out)) (O4.out.below B24.out); rw [Hm.out] at h_; refine h_.mono ?_; rintro e v25 ⟨y, rfl, hx, hxv, hb⟩; have Y := Lib.hid (And.intro hx hxv); have B25 := Lib.hid (B24.out.trans (hb.mono B24.out.size)); have P25 := Lib.hid (heap_below P24.out hb); have Q25 := Lib.hid (heap_below Q24.out hb); clear hx hxv hb h_))
        refine ⟨rfl, ?_⟩
        apply AnyC.solo (i := 6) rfl (by kernel_rfl) trivial
        refine wpList_store_mid rfl _ _ _ rfl p 0 x.cs rfl rfl (there_row P25.out (Nat.le_refl 4)) (by kernel_rfl) (by kernel_rfl) ?_
        go_wp2
        refine ⟨rfl, ?_⟩
        apply AnyC.solo (i := 7) rfl (by kernel_rfl) trivial
        refine wpList_store_mid rfl _ _ _ rfl q 0 y.cs rfl rfl (there_row ((heap_set4_other (fun e => Ne.out e.symm)).trans Q25.out) (Nat.le_refl 4)) (by kernel_rfl) (by kernel_rfl) ?_
        go_wp2
        refine ⟨rfl, ?_⟩
        exact AnyC.done trivial (by kernel_rfl) ⟨p, q, x, y, w4, rfl, Mp.stored B25.out P25.out Q25.out Ne.out Gp.out Gq.out X.out Y.out, F4.out.1, F4.out.2.2.2.1, F4.out.2.2.2.2⟩
    · go_wp2
      refine ⟨rfl, ?_⟩
      obtain ⟨v26, hv26⟩ : ∃ v26, v26 = w4.alloc (.cells z0 294) := ⟨_, rfl⟩
      obtain ⟨q, hq⟩ : ∃ q, q = w4.heap.size := ⟨_, rfl⟩
      rw [← hv26, ← hq]
      have B26 : Hid (Below w4.heap.size w4 v26) := by show Below _ _ _; rw [hv26]; exact B0.out.alloc B0.out.size _
      have Q26 : Hid (v26.heap[q]? = some (.cells (W4.mk 0 0 0 0).cs 294 (0, 0))) := by show _ = _; rw [hv26, hq, Hz0.out]; exact heap_alloc_new _ _
      have Gq : Hid (w4.heap.size ≤ q) := by show _ ≤ _; rw [hq]; exact B0.out.size
      clear hv26 hq
      apply AnyC.two (i := 1) (j := 4) rfl rfl (by kernel_rfl) trivial
      · go_wp2_with (go_at_call 179; go_must (have h_ := reduce_any (m := 4) (c := 32) l Hl.out ⟨by omega, by omega⟩ _ (reads_row (heap_below F4.out.2.1 B26.out)) (O4.out.below B26.out); rw [Hl.out] at h_; refine h_.mono ?_; rintro e v27 ⟨x, rfl, hx, hxv, hb⟩; have X := Lib.hid (And.intro hx hxv); have B27 := Lib.hid (B26.out.trans (hb.mono B26.out.size)); have Q27 := Lib.hid (heap_below Q26.out hb); clear hx hxv hb h_))
        refine ⟨rfl, ?_⟩
        apply AnyC.two (i := 3) (j := 4) rfl rfl (by kernel_rfl) trivial
        · go_wp2_with (go_at_call 179; go_must (have h_ := reduce_any (m := 4) (c := 32) m Hm.out ⟨by omega, by omega⟩ _ (reads_row (heap_below F4.out.2.2.1 B27.out)) (O4.out.below B27.out); rw [Hm.out] at h_; refine h_.mono ?_; rintro e v28 ⟨y, rfl, hx, hxv, hb⟩; have Y := Lib.hid (And.intro hx hxv); have B28 := Lib.hid (B27.out.trans (hb.mono B27.out.size)); have Q28 := Lib.hid (heap_below Q27.out hb); clear hx hxv hb h_))
          refine ⟨rfl, ?_⟩
          apply AnyC.solo (i := 4) rfl (by kernel_rfl) trivial
          go_wp2
          refine ⟨rfl, ?_⟩
          obtain ⟨v29, hv29⟩ : ∃ v29, v29 = v28.alloc (.cells z0 294) := ⟨_, rfl⟩
          obtain ⟨p, hp⟩ : ∃ p, p = v28.heap.size := ⟨_, rfl⟩
          rw [← hv29, ← hp]
          have B29 : Hid (Below w4.heap.size w4 v29) := by show Below _ _ _; rw [hv29]; exact B28.out.alloc B28.out.size _
          have P29 : Hid (v29.heap[p]? = some (.cells (W4.mk 0 0 0 0).cs 294 (0, 0))) := by show _ = _; rw [hv29, hp, Hz0.out]; exact heap_alloc_new _ _
          have Gp : Hid (w4.heap.size ≤ p) := by show _ ≤ _; rw [hp]; exact B28.out.size
          have Ne : Hid (p ≠ q) := by have h_ := lt_of_heap Q28.out; show _ ≠ _; omega
          have Q29 : Hid (v29.heap[q]? = some (.cells (W4.mk 0 0 0 0).cs 294 (0, 0))) := by show _ = _; rw [hv29, Below.heap_alloc _ _ _ (lt_of_heap Q28.out)]; exact Q28.out
          clear hv29 hp
          apply AnyC.solo (i := 6) rfl (by kernel_rfl) trivial
          refine wpList_store_mid rfl _ _ _ rfl p 0 x.cs rfl rfl (there_row P29.out (Nat.le_refl 4)) (by kernel_rfl) (by kernel_rfl) ?_
          go_wp2
          refine ⟨rfl, ?_⟩
          apply AnyC.solo (i := 7) rfl (by kernel_rfl) trivial
          refine wpList_store_mid rfl _ _ _ rfl q 0 y.cs rfl rfl (there_row ((heap_set4_other (fun e => Ne.out e.symm)).trans Q29.out) (Nat.le_refl 4)) (by kernel_rfl) (by kernel_rfl) ?_
          go_wp2
          refine ⟨rfl, ?_⟩
          exact AnyC.done trivial (by kernel_rfl) ⟨p, q, x, y, w4, rfl, Mp.stored B29.out P29.out Q29.out Ne.out Gp.out Gq.out X.out Y.out, F4.out.1, F4.out.2.2.2.1, F4.out.2.2.2.2⟩
        · go_wp2
          refine ⟨rfl, ?_⟩
          obtain ⟨v30, hv30⟩ : ∃ v30, v30 = v27.alloc (.cells z0 294) := ⟨_, rfl⟩
          obtain ⟨p, hp⟩ : ∃ p, p = v27.heap.size := ⟨_, rfl⟩
          rw [← hv30, ← hp]
          have B30 : Hid (Below w4.heap.size w4 v30) := by show Below _ _ _; rw [hv30]; exact B27.out.alloc B27.out.size _
          have P30 : Hid (v30.heap[p]? = some (.cells (W4.mk 0 0 0 0).cs 294 (0, 0))) := by show _ = _; rw [hv30, hp, Hz0.out]; exact heap_alloc_new _ _
          have Gp : Hid (w4.heap.size ≤ p) := by show _ ≤ _; rw [hp]; exact B27.out.size
          have Ne : Hid (p ≠ q) := by have h_ := lt_of_heap Q27.out; show _ ≠ _; omega
          have Q30 : Hid (v30.heap[q]? = some (.cells (W4.mk 0 0 0 0).cs 294 (0, 0))) := by show _ = _; rw [hv30, Below.heap_alloc _ _ _ (lt_of_heap Q27.out)]; exact Q27.out
          clear hv30 hp
          apply AnyC.solo (i := 3) rfl (by kernel_rfl) trivial
          go_wp2_with (go_at_call 179; go_must (have h_ := reduce_any (m := 4) (c := 32) m Hm.out ⟨by omega, by omega⟩ _ (reads_row (heap_below F4.out.2.2.1 B30.out)) (O4.out.below B30.out); rw [Hm.out] at h_; refine h_.mono ?_; rintro e v31 ⟨y, rfl, hx, hxv, hb⟩; have Y := Lib.hid (And.intro hx hxv); have B31 := Lib.hid (B30.out.trans (hb.mono B30.out.size)); have P31 := Lib.hid (heap_below P30.out hb); have Q31 := Lib.hid (heap_below Q30.out hb); clear hx hxv hb h_))
          refine ⟨rfl, ?_⟩
          apply AnyC.solo (i := 6) rfl (by kernel_rfl) trivial
          refine wpList_store_mid rfl _ _ _ rfl p 0 x.cs rfl rfl (there_row P31.out (Nat.le_refl 4)) (by kernel_rfl) (by kernel_rfl) ?_
          go_wp2
          refine ⟨rfl, ?_⟩
          apply AnyC.solo (i := 7) rfl (by kernel_rfl) trivial
          refine wpList_store_mid rfl _ _ _ rfl q 0 y.cs rfl rfl (there_row ((heap_set4_other (fun e => Ne.out e.symm)).trans Q31.out) (Nat.le_refl 4)) (by kernel_rfl) (by kernel_rfl) ?_
          go_wp2
          refine ⟨rfl, ?_⟩
          exact AnyC.done trivial (by kernel_rfl) ⟨p, q, x, y, w4, rfl, Mp.stored B31.out P31.out Q31.out Ne.out Gp.out Gq.out X.out Y.out, F4.out.1, F4.out.2.2.2.1, F4.out.2.2.2.2⟩
      · go_wp2
        refine ⟨rfl, ?_⟩
        obtain ⟨v32, hv32⟩ : ∃ v32, v32 = v26.alloc (.cells z0 294) := ⟨_, rfl⟩
        obtain ⟨p, hp⟩ : ∃ p, p = v26.heap.size := ⟨_, rfl⟩
        rw [← hv32, ← hp]
        have B32 : Hid (Below w4.heap.size w4 v32) := by show Below _ _ _; rw [hv32]; exact B26.out.alloc B26.out.size _
        have P32 : Hid (v32.heap[p]? = some (.cells (W4.mk 0 0 0 0).cs 294 (0, 0))) := by show _ = _; rw [hv32, hp, Hz0.out]; exact heap_alloc_new _ _
        have Gp : Hid (w4.heap.size ≤ p) := by show _ ≤ _; rw [hp]; exact B26.out.size
        have Ne : Hid (p ≠ q) := by have h_ := lt_of_heap Q26.out; show _ ≠ _; omega
        have Q32 : Hid (v32.heap[q]? = some (.cells (W4.mk 0 0 0 0).cs 294 (0, 0))) := by show _ = _; rw [hv32, Below.heap_alloc _ _ _ (lt_of_heap Q26.out)]; exact Q26.out
        clear hv32 hp
        apply AnyC.solo (i := 1) rfl (by kernel_rfl) trivial
        go_wp2_with (go_at_call 179; go_must (have h_ := reduce_any (m := 4) (c := 32) l Hl.out ⟨by omega, by omega⟩ _ (reads_row (heap_below F4.out.2.1 B32.out)) (O4.out.below B32.out); rw [Hl.out] at h_; refine h_.mono ?_; rintro e v33 ⟨x, rfl, hx, hxv, hb⟩; have X := Lib.hid (And.intro hx hxv); have B33 := Lib.hid (B32.out.trans (hb.mono B32.out.size)); have P33 := Lib.hid (heap_below P32.out hb); have Q33 := Lib.hid (heap_below Q32.out hb); clear hx hxv hb h_))
        refine ⟨rfl, ?_⟩
        apply AnyC.solo (i := 3) rfl (by kernel_rfl) trivial
        go_wp2_with (go_at_call 179; go_must (have h_ := reduce_any (m := 4) (c := 32) m Hm.out ⟨by omega, by omega⟩ _ (reads_row (heap_below F4.out.2.2.1 B33.out)) (O4.out.below B33.out); rw [Hm.out] at h_; refine h_.mono ?_; rintro e v34 ⟨y, rfl, hx, hxv, hb⟩; have Y := Lib.hid (And.intro hx hxv); have B34 := Lib.hid (B33.out.trans (hb.mono B33.out.size)); have P34 := Lib.hid (heap_below P33.out hb); have Q34 := Lib.hid (heap_below Q33.out hb); clear hx hxv hb h_))
        refine ⟨rfl, ?_⟩
        apply AnyC.solo (i := 6) rfl (by kernel_rfl) trivial
        refine wpList_store_mid rfl _ _ _ rfl p 0 x.cs rfl rfl (there_row P34.out (Nat.le_refl 4)) (by kernel_rfl) (by kernel_rfl) ?_
        go_wp2
        refine ⟨rfl, ?_⟩
        apply AnyC.solo (i := 7) rfl (by kernel_rfl) trivial
        refine wpList_store_mid rfl _ _ _ rfl q 0 y.cs rfl rfl (there_row ((heap_set4_other (fun e => Ne.out e.symm)).trans Q34.out) (Nat.le_refl 4)) (by kernel_rfl) (by kernel_rfl) ?_
        go_wp2
        refine ⟨rfl, ?_⟩
        exact AnyC.done trivial (by kernel_rfl) ⟨p, q, x, y, w4, rfl, Mp.stored B34.out P34.out Q34.out Ne.out Gp.out Gq.out X.out Y.out, F4.out.1, F4.out.2.2.2.1, F4.out.2.2.2.2⟩
  · rintro a v ⟨p, q, x, y, w4, rfl, hM, hF⟩
    obtain ⟨wz, hwz, hz39⟩ := zero39
    obtain ⟨bz, hbz64, hbz, hz24⟩ := zero24
    have HS : Hid (Mx w4 (v.alloc (.cells wz 296)) p q v.heap.size x y (leN l % ordN) (leN m % ordN) [0, 0, 0, 0, 0, 0, 0, 0]) := by
      show Mx _ _ _ _ _ _ _ _ _ _
      rw [hwz]
      exact Mx.start hM.out
    have Hbz := Lib.hid hbz
    obtain ⟨b, hb⟩ : ∃ b, b = v.heap.size := ⟨_, rfl⟩
    have Hb := Lib.hid hb
    clear hwz hbz hbz64 F hb
    go_wp2
    rw [← Hb.out]
    rw [← Hb.out] at HS
    go_loopw [23] (fun i wr => ∃ (k : Nat) (ws : List Nat), k ≤ 4 ∧ i = .int .i64 k ∧ Hid (Mw ws k (x.low k * y.val)) ∧ Hid (Mx w4 wr p q b x y (leN l % ordN) (leN m % ordN) ws)) (fun i _ => 4 - (intOf i).toNat)
    case atStart => exact ⟨0, _, by omega, rfl, by show Mw _ _ _; rw [x.low_zero, Nat.zero_mul]; exact Mw.start, HS⟩
    case round =>
      obtain ⟨k, ws, hk, rfl, hW, hX⟩ := hrel
      clear HS
      by_cases hlt : k < 4
      · have hlt' : (k : Int) < 4 := by omega
        have hk0 : (0 : Int) ≤ (k : Int) := by omega
        go_wp2
        go_loopw [11, 26] (fun cv jv wr' => ∃ (c j : Nat) (ws' : List Nat), j ≤ 4 ∧ cv = .int .u64 c ∧ jv = .int .i64 j ∧ Hid (Mi ws' k j c (x.low k * y.val + 18446744073709551616 ^ k * x.wd k * y.low j)) ∧ Hid (Mx w4 wr' p q b x y (leN l % ordN) (leN m % ordN) ws')) (fun _ jv _ => 4 - (intOf jv).toNat)
        case atStart => exact ⟨0, 0, ws, by omega, rfl, rfl, by show Mi _ _ _ _ _; rw [y.low_zero, Nat.mul_zero, Nat.add_zero]; exact hW.out.enter, hX⟩
        case round =>
          obtain ⟨c, j, wj, hj, rfl, rfl, hI, hY⟩ := hrel
          clear hW hX
          by_cases hjlt : j < 4
          · have hj4 : (j : Int) < 4 := by omega
            have hj0 : (0 : Int) ≤ (j : Int) := by omega
            go_wp2
            refine AnyC.startB (fun w' => w'.cell? ⟨p, k, none⟩ = some (.int .u64 (x.wd k : Int)) ∧ w'.cell? ⟨q, j, none⟩ = some (.int .u64 (y.wd j : Int))) (by kernel_rfl) rfl ?_
            intro wd hbd _
            have hD := Lib.hid (hY.out.drew hbd)
            clear hbd hY
            obtain ⟨h, lo, hmul, hv, hbl⟩ := mul_w (x.wd k) (y.wd j) (W4.wd_lt hD.out.mp.xok k) (W4.wd_lt hD.out.mp.yok j) rfl rfl
            obtain ⟨u, hu⟩ : ∃ u, u = wj.getD (k + j) 0 := ⟨_, rfl⟩
            obtain ⟨s1, c1, r1, e1, b1, d1⟩ := add_w lo u hbl.1 (by rw [hu]; exact hI.out.lt _)
            obtain ⟨s2, c2, r2, e2, b2, d2⟩ := add_w s1 c b1 hI.out.carry
            have hst := step_w (mul_hl _ _ (W4.wd_lt hD.out.mp.xok k) (W4.wd_lt hD.out.mp.yok j)).2.2 hv e1 e2 (by rw [hu]; exact hI.out.lt _) hI.out.carry
            have hsb : (h : Int) + c1 + c2 < 18446744073709551616 := by have h_ := hst.2; omega
            have hsb1 : (h : Int) + c1 < 18446744073709551616 := by omega
            have Hmul := Lib.hid hmul
            rw [hu] at hst
            have Hst := Lib.hid (Mi.step hI.out hlt hjlt hst.1 b2 hst.2)
            have hlen : k + j < wj.length := by rw [hI.out.len]; omega
            have hwo : wd.cell? ⟨b, k + j, none⟩ = some (.int .u64 (u : Int)) := by rw [hu]; exact hD.out.word hlen
            have hfz := frozen_row hD.out.row (k + j)
            have Hlen := Lib.hid hlen
            have hkj : (k : Int) + (j : Int) < 8 := by omega
            clear hmul hv hbl e1 e2 b1 b2 hst hlen hu
            apply AnyC.take (i := 0) rfl (by kernel_rfl) rfl
            · intro w' hC K hK
              go_wp2
              exact hK
            · rfl
            apply AnyC.take (i := 1) rfl (by kernel_rfl) rfl
            · intro w' hC K hK
              go_wp2
              exact hK
            · rfl
            apply AnyC.take (i := 2) rfl (by kernel_rfl) rfl
            · intro w' hC K hK
              obtain ⟨co, _⟩ := hC
              go_wp2
              exact hK
            · rfl
            apply AnyC.take (i := 3) rfl (by kernel_rfl) rfl
            · intro w' hC K hK
              go_wp2
              exact hK
            · rfl
            apply AnyC.take (i := 4) rfl (by kernel_rfl) rfl
            · intro w' hC K hK
              go_wp2
              exact hK
            · rfl
            apply AnyC.take (i := 5) rfl (by kernel_rfl) rfl
            · intro w' hC K hK
              obtain ⟨_, co⟩ := hC
              go_wp2
              exact hK
            · rfl
            apply AnyC.solo (i := 6) rfl (by kernel_rfl) ⟨hD.out.mp.xw hlt, hD.out.mp.yw hjlt⟩
            go_wp2_with (go_at_call 180; refine (Hmul.out _).mono ?_; rintro e w1 ⟨rfl, rfl⟩)
            refine ⟨rfl, ?_⟩
            apply AnyC.take (i := 7) rfl (by kernel_rfl) rfl
            · intro w' hC K hK
              go_wp2
              exact hK
            · rfl
            apply AnyC.take (i := 8) rfl (by kernel_rfl) rfl
            · intro w' hC K hK
              go_wp2
              exact hK
            · rfl
            apply AnyC.take (i := 9) rfl (by kernel_rfl) rfl
            · intro w' hC K hK
              go_wp2
              exact hK
            · rfl
            apply AnyC.take (i := 10) rfl (by kernel_rfl) rfl
            · intro w' hC K hK
              go_wp2
              exact hK
            · rfl
            apply AnyC.take (i := 11) rfl (by kernel_rfl) rfl
            · intro w' hC K hK
              go_wp2
              exact hK
            · rfl
            refine AnyC.done ⟨hD.out.mp.xw hlt, hD.out.mp.yw hjlt⟩ (by kernel_rfl) ?_
            go_wp2
            go_roundw
            case rel => exact ⟨h + c1 + c2, j + 1, wj.set (k + j) s2, hjlt, by go_num, by go_num, (by rw [low_step x y hjlt] at Hst; exact Hst), Mx.set hD.out Hlen.out⟩
            case measure => simp [intOf]; omega
          · obtain rfl : j = 4 := by omega
            have hlen : k + 4 < wj.length := by rw [hI.out.len]; omega
            have Hlen := Lib.hid hlen
            have HL := Lib.hid (Mi.leave hI.out hlt)
            have hwo := hY.out.word hlen
            have hfz := frozen_row hY.out.row (k + 4)
            have hk8 : (k : Int) + 4 < 8 := by omega
            clear hlen
            go_wp2
            go_roundw
            case rel => exact ⟨k + 1, wj.set (k + 4) c, hlt, by go_num, (by rw [low_row x y hlt] at HL; exact HL), Mx.set hY.out Hlen.out⟩
            case measure => simp [intOf]; omega
      · obtain rfl : k = 4 := by omega
        have hlen : ws.length = 8 := hW.out.len
        have HVal : Hid (leN (genL (byteL ws) 64) = (leN l % ordN) * (leN m % ordN)) := by
          have h1 := leN_byteL ws hW.out.lt
          rw [hlen] at h1
          show _ = _
          rw [h1, hW.out.val, x.low_four, hX.out.mp.xval, hX.out.mp.yval]
        obtain ⟨bs, hbs⟩ : ∃ bs, bs = bz := ⟨_, rfl⟩
        have Hlen := Lib.hid hlen
        clear hlen hW
        go_wp2
        go_loopw [71] (fun i wr' => ∃ (t : Nat) (cs : Array Value), t ≤ 64 ∧ i = .int .i64 t ∧ Hid (cs = genC (byteL ws) 64 t) ∧ wr' = wr.alloc (.cells cs 32)) (fun i _ => 64 - (intOf i).toNat)
        case atStart => exact ⟨0, _, by omega, rfl, Hbz.out ws, rfl⟩
        case round =>
          obtain ⟨t, cs, ht, rfl, hcs, rfl⟩ := hrel
          by_cases htl : t < 64
          · have ht0 : (0 : Int) ≤ (t : Int) := by omega
            have ht64 : (t : Int) < 64 := by omega
            have hcell : (wr.alloc (.cells cs 32)).cell? ⟨wr.heap.size, t, none⟩ = cs[t]? := cell_new _ _ _ _
            have hck : cs[t]? = some (.int .u8 0) := by rw [hcs.out]; simp [genC, htl]
            have hbox : (wr.alloc (.cells cs 32)).cell? ⟨b, t / 8, none⟩ = some (.int .u64 (ws.getD (t / 8) 0 : Int)) := by
              rw [World.cell?_alloc_lt _ _ _ (lt_of_heap hX.out.row)]
              exact hX.out.word (by rw [Hlen.out]; omega)
            go_wp2
            go_roundw
            case rel => exact ⟨t + 1, _, htl, by go_num, (by show _ = _; rw [hcs.out]; exact genC_set _ 64 t htl (byteL_cell ws t)), rfl⟩
            case measure => simp [intOf]; omega
          · obtain rfl : t = 64 := by omega
            rw [genC_last] at hcs
            have HF : Hid (Below w4.heap.size w4 (wr.alloc (.cells cs 32)) ∧ (wr.alloc (.cells cs 32)).heap[wr.heap.size]? = some (.cells (bvs (genL (byteL ws) 64)).toArray 32 (0, 0))) := ⟨hX.out.mp.below.alloc hX.out.mp.below.size _, by rw [← hcs.out]; exact heap_alloc_new _ _⟩
            have Hll : Hid ((genL (byteL ws) 64).length = 64) := genL_length _ _
            go_wp2
            refine AnyC.startB (fun _ => True) (by kernel_rfl) rfl ?_
            intro wa hba _
            have O4 : Hid (Ord w4) := Ho.out.below hF.out.1
            have FA : Hid (Below w4.heap.size w4 wa ∧ wa.heap[wr.heap.size]? = some (.cells (bvs (genL (byteL ws) 64)).toArray 32 (0, 0)) ∧ wa.heap[w.heap.size + 2]? = some (.cells (bvs o).toArray 31) ∧ wa.there (w.heap.size + 3) 0 32) :=
              ⟨HF.out.1.trans (hba.mono HF.out.1.size), heap_below HF.out.2 hba, heap_below (heap_below hF.out.2.1 HF.out.1) hba, there_below (there_below hF.out.2.2.1 (by have h_ := hF.out.2.2.2; omega) HF.out.1) (by have h_ := hF.out.2.2.2; have h_2 := HF.out.1.size; omega) hba⟩
            clear hba HF hcs
            apply AnyC.take (i := 0) rfl (by kernel_rfl) rfl
            · intro w' hC K hK
              go_wp2
              exact hK
            · rfl
            apply AnyC.take (i := 2) rfl (by kernel_rfl) rfl
            · intro w' hC K hK
              go_wp2
              exact hK
            · rfl
            apply AnyC.solo (i := 1) rfl (by kernel_rfl) trivial
            go_wp2_with (go_at_call 179; go_must (have h_ := reduce_any (m := 8) (c := 64) (genL (byteL ws) 64) Hll.out ⟨by omega, by omega⟩ _ (reads_row FA.out.2.1) (O4.out.below FA.out.1); rw [Hll.out, HVal.out] at h_; refine h_.mono ?_; rintro e w5 ⟨f5, rfl, hx, hxv, hb5⟩; have X5 := Lib.hid (And.intro hx (And.intro hxv (And.intro (FA.out.1.trans (hb5.mono FA.out.1.size)) hb5))); clear hx hxv hb5))
            refine ⟨rfl, ?_⟩
            apply AnyC.solo (i := 3) rfl (by kernel_rfl) trivial
            go_wp2_with (go_at_call 179; go_must (have h_ := reduce_any (m := 4) (c := 32) o Hn.out ⟨by omega, by omega⟩ _ (reads_row (heap_below FA.out.2.2.1 X5.out.2.2.2)) (O4.out.below X5.out.2.2.1); rw [Hn.out] at h_; refine h_.mono ?_; rintro e w6 ⟨f6, rfl, hx, hxv, hb6⟩; have Y6 := Lib.hid (And.intro hx (And.intro hxv (And.intro (X5.out.2.2.1.trans (hb6.mono X5.out.2.2.1.size)) (X5.out.2.2.2.trans (hb6.mono X5.out.2.2.2.size))))); clear hx hxv hb6))
            refine ⟨rfl, ?_⟩
            apply AnyC.solo (i := 4) rfl (by kernel_rfl) trivial
            go_wp2_with (go_at_call 182; go_must (refine (add_any f5 f6 X5.out.1 Y6.out.1 _).mono ?_; rintro e w7 ⟨d, cc, rfl, hd, hc, hv, hb7⟩; have D7 := Lib.hid (And.intro hd (And.intro ((addless X5.out.2.1 Y6.out.2.1 hc hv).trans (muladd_mod _ _ _ _)) (And.intro (Y6.out.2.2.1.trans (hb7.mono Y6.out.2.2.1.size)) (Y6.out.2.2.2.trans (hb7.mono Y6.out.2.2.2.size))))); clear hd hc hv hb7))
            refine ⟨rfl, ?_⟩
            apply AnyC.solo (i := 5) rfl (by kernel_rfl) trivial
            go_wp2_with (go_at_call 183; go_must (refine (less_any d D7.out.1 _ (O4.out.below D7.out.2.2.1)).mono ?_; rintro e w8 ⟨f, rfl, hf, hfv, hb8⟩; have E8 := Lib.hid (And.intro hf (And.intro (hfv.trans D7.out.2.1) (D7.out.2.2.2.trans (hb8.mono D7.out.2.2.2.size)))); clear hf hfv hb8))
            refine ⟨rfl, ?_⟩
            apply AnyC.solo (i := 6) rfl (by kernel_rfl) trivial
            go_wp2_with (go_at_call 184; go_must (refine (bytes_any f E8.out.1 _).mono ?_; rintro e w9 ⟨rfl, hb9⟩; rw [byteW_val E8.out.1, E8.out.2.1]; have B9 := Lib.hid (E8.out.2.2.trans (hb9.mono E8.out.2.2.size)); clear hb9; obtain ⟨rs, hrs⟩ : ∃ rs, (bvs (toB ((leN l * leN m + leN o) % ordN))).toArray = rs := ⟨_, rfl⟩; rw [hrs]; have Hrs := Lib.hid hrs; have Hrz : Hid (rs.size = 32) := (by show rs.size = 32; rw [← hrs]; simp [bvs_length, toB_length]); have Hth := Lib.hid (there_below FA.out.2.2.2 (by have h_ := hF.out.2.2.2; have h_2 := FA.out.1.size; omega) B9.out); clear hrs))
            refine ⟨rfl, ?_⟩
            apply AnyC.solo (i := 7) rfl (by kernel_rfl) trivial
            go_wp2_with (refine wpList_store_mid rfl _ _ _ rfl (w.heap.size + 3) 0 rs rfl rfl (by rw [Hrz.out]; exact Hth.out) (by rw [Hrz.out]; kernel_rfl) (by rw [← Hrs.out]; exact all_oneCell_toArray (bvs_one _)) ?_)
            refine ⟨rfl, ?_⟩
            refine AnyC.done trivial (by kernel_rfl) ?_
            go_wp2
            have hld := ret32 Hth.out Hrz.out
            refine bodyPost_ret (v := .agg rs) (by simp [results, Tryz.results141, asAddr, hld]) rfl ⟨by rw [← Hrs.out], ?_⟩
            exact below_setCells _ _ _ (hF.out.1.trans ((FA.out.1.trans (B9.out.mono FA.out.1.size)).mono hF.out.1.size)) (by omega)
end Go.Proofs.YtbcpmnnlhdgbhaaGreatDoor.Sc
