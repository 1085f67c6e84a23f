/- The reference: MulAdd. Printed by wip/genS21.py. No conditions. -/
import Derived.Test.YtagjeideohplpaaDoorS20b
namespace Go.Proofs.YtagjeideohplpaaDoor
open Go.RowKit
/-- After the first region: the two factors, where they were put. -/
structure Mq (w4 v : World) (p q : Nat) (x y : W4) (A B : Nat) : Prop where
  below : Below w4.heap.size w4 v
  px : v.heap[p]? = some (.cells x.cs 48 (0, 0))
  qy : v.heap[q]? = some (.cells y.cs 48 (0, 0))
  pge : w4.heap.size ≤ p
  qge : w4.heap.size ≤ q
  xok : x.ok
  xval : x.val = A
  yok : y.ok
  yval : y.val = B
theorem Mq.stored {w4 v : World} {p q : Nat} {x y z z' : W4} {A B : Nat} (hb : Below w4.heap.size w4 v) (hp : v.heap[p]? = some (.cells z.cs 48 (0, 0))) (hq : v.heap[q]? = some (.cells z'.cs 48 (0, 0)))
    (hpq : p ≠ q) (hpg : w4.heap.size ≤ p) (hqg : w4.heap.size ≤ q) (hx : x.ok ∧ x.val = A) (hy : y.ok ∧ y.val = B) : Mq w4 ((v.setCells p 0 x.cs.toList).setCells q 0 y.cs.toList) p q x y A B := by
  have h1 : (v.setCells p 0 x.cs.toList).heap[p]? = some (.cells x.cs 48 (0, 0)) := heap_set4q hp
  have h2 : (v.setCells p 0 x.cs.toList).heap[q]? = some (.cells z'.cs 48 (0, 0)) := (heap_set4_other (fun e => hpq e.symm)).trans hq
  exact ⟨below_setCells _ _ _ (below_setCells _ _ _ hb hpg) hqg, (heap_set4_other hpq).trans h1, heap_set4q h2, hpg, hqg, hx.1, hx.2, hy.1, hy.2⟩
theorem Mq.drew {w4 v v' : World} {p q : Nat} {x y : W4} {A B : Nat} (h : Mq w4 v p q x y A B) (hb : Below v.heap.size v v') : Mq w4 v' p q x y A B :=
  ⟨h.below.trans (hb.mono h.below.size), heap_below h.px hb, heap_below h.qy hb, h.pge, h.qge, h.xok, h.xval, h.yok, h.yval⟩
theorem Mq.xw {w4 v : World} {p q : Nat} {x y : W4} {A B : Nat} (h : Mq w4 v p q x y A B) {k : Nat} (hk : k < 4) : v.cell? ⟨p, k, none⟩ = some (.int .u64 (x.wd k : Int)) := by
  rw [cell_of_row v p k _ _ _ h.px, x.at_ hk]
theorem Mq.yw {w4 v : World} {p q : Nat} {x y : W4} {A B : Nat} (h : Mq w4 v p q x y A B) {k : Nat} (hk : k < 4) : v.cell? ⟨q, k, none⟩ = some (.int .u64 (y.wd k : Int)) := by
  rw [cell_of_row v q k _ _ _ h.qy, y.at_ hk]
/-- The factors and the number under way, where they lie. -/
structure Mz (w4 v : World) (p q b : Nat) (x y : W4) (A B : Nat) (d : W4) : Prop where
  mp : Mq w4 v p q x y A B
  row : v.heap[b]? = some (.cells d.cs 48 (0, 0))
  pb : p ≠ b
  qb : q ≠ b
  bge : w4.heap.size ≤ b
theorem Mz.drew {w4 v v' : World} {p q b : Nat} {x y : W4} {A B : Nat} {d : W4} (h : Mz w4 v p q b x y A B d) (hb : Below v.heap.size v v') : Mz w4 v' p q b x y A B d :=
  ⟨h.mp.drew hb, heap_below h.row hb, h.pb, h.qb, h.bge⟩
theorem Mz.start {w4 v : World} {p q : Nat} {x y : W4} {A B : Nat} (h : Mq w4 v p q x y A B) : Mz w4 (v.alloc (.cells (W4.mk 0 0 0 0).cs 48)) p q v.heap.size x y A B ⟨0, 0, 0, 0⟩ :=
  ⟨h.drew ((Below.refl _ _).alloc (Nat.le_refl _) _), heap_alloc_new _ _, by have := lt_of_heap h.px; omega, by have := lt_of_heap h.qy; omega, h.below.size⟩
theorem Mz.put {w4 v : World} {p q b : Nat} {x y : W4} {A B : Nat} {d : W4} (e : W4) (h : Mz w4 v p q b x y A B d) : Mz w4 (v.setCells b 0 e.cs.toList) p q b x y A B e :=
  ⟨⟨below_setCells _ _ _ h.mp.below h.bge, (heap_set4_other h.pb).trans h.mp.px, (heap_set4_other h.qb).trans h.mp.qy, h.mp.pge, h.mp.qge, h.mp.xok, h.mp.xval, h.mp.yok, h.mp.yval⟩, heap_set4q h.row, h.pb, h.qb, h.bge⟩
theorem mul0 {N m y v : Nat} (h : N / 2 ^ m % 2 = 0) (hv : v = 2 * (N / 2 ^ (m + 1) * y) % ordN) : v = N / 2 ^ m * y % ordN := by
  have h1 := bit_step N m
  rw [h, Nat.add_zero] at h1
  rw [hv, h1, Nat.mul_assoc]
theorem mul1 {N m y v u : Nat} (h : N / 2 ^ m % 2 = 1) (hv : v = 2 * (N / 2 ^ (m + 1) * y) % ordN) (hu : u = (v + y) % ordN) : u = N / 2 ^ m * y % ordN := by
  have h1 := bit_step N m
  rw [h] at h1
  rw [hu, hv, h1, Nat.add_mul, Nat.one_mul, Nat.mul_assoc, Nat.mod_add_mod]
theorem dbl_mul {v t : Nat} (h : v = t % ordN) : (v + v) % ordN = 2 * t % ordN := by
  rw [h, ← Nat.add_mod, ← Nat.two_mul]
theorem word_bit (x R : Nat) {r : Nat} (hr : r < 64) : (x + 18446744073709551616 * R) / 2 ^ r % 2 = x / 2 ^ r % 2 := by
  have e : (18446744073709551616 : Nat) = 2 ^ r * (2 * 2 ^ (63 - r)) := by
    rw [show (2 : Nat) * 2 ^ (63 - r) = 2 ^ (63 - r + 1) from by rw [Nat.pow_succ, Nat.mul_comm], ← Nat.pow_add, show r + (63 - r + 1) = 64 from by omega]
  rw [e, Nat.mul_assoc, Nat.add_mul_div_left _ _ (Nat.two_pow_pos r), Nat.mul_assoc, Nat.add_mul_mod_self_left]
theorem W4.bit {x : W4} (hx : x.ok) {m : Nat} (hm : m < 256) : x.val / 2 ^ m % 2 = x.wd (m / 64) / 2 ^ (m % 64) % 2 := by
  obtain ⟨ha, hb, hc, hd⟩ := hx
  have hv : ∃ R, x.val / 2 ^ (64 * (m / 64)) = x.wd (m / 64) + 18446744073709551616 * R := by
    have h0 : m / 64 = 0 ∨ m / 64 = 1 ∨ m / 64 = 2 ∨ m / 64 = 3 := by omega
    rcases h0 with e | e | e | e <;> rw [e]
    · exact ⟨x.b + 18446744073709551616 * (x.c + 18446744073709551616 * x.d), by simp only [W4.val, W4.wd]; simp; omega⟩
    · exact ⟨x.c + 18446744073709551616 * x.d, by simp only [W4.val, W4.wd]; simp; omega⟩
    · exact ⟨x.d, by simp only [W4.val, W4.wd]; simp; omega⟩
    · exact ⟨0, by simp only [W4.val, W4.wd]; simp; omega⟩
  obtain ⟨R, hR⟩ := hv
  rw [show 2 ^ m = 2 ^ (64 * (m / 64)) * 2 ^ (m % 64) from by rw [← Nat.pow_add]; congr 1; omega, ← Nat.div_div_eq_div_mul, hR]
  exact word_bit _ _ (by omega)
theorem and1_w {x r : Nat} (hx : x < 18446744073709551616) : bits BinOp.and IntKind.u64 ((x : Int) / 2 ^ r) 1 = ((x / 2 ^ r % 2 : Nat) : Int) := by
  have h1 : x / 2 ^ r < 18446744073709551616 := Nat.lt_of_le_of_lt (Nat.div_le_self _ _) hx
  rw [show ((x : Int) / 2 ^ r) = ((x / 2 ^ r : Nat) : Int) from by push_cast; rfl, show (1 : Int) = ((1 : Nat) : Int) from rfl, bits_and_u64_nat _ _ h1 (by decide), Nat.and_one_is_mod]
def MulQ (xs ys us : Array Value) (w : World) (o : List UInt8) (A B : Nat) (a : Act) (v : World) : Prop := ∃ (p q : Nat) (x y : W4) (w4 : World), a = { tmps := #[.agg xs, .agg ys, .agg us, .pointer (some ⟨w.heap.size, 0, none⟩), .pointer (some ⟨w.heap.size + 1, 0, none⟩), .pointer (some ⟨w.heap.size + 2, 0, none⟩), .pointer (some ⟨w.heap.size + 3, 0, none⟩), .pointer (some ⟨p, 0, none⟩), .pointer (some ⟨q, 0, none⟩), undef, undef, .slice (some ⟨w.heap.size, 0, none⟩) 32 32, .agg x.cs, .slice (some ⟨w.heap.size + 1, 0, none⟩) 32 32, .agg y.cs, undef, undef, undef, undef, undef, undef, undef, undef, undef, undef, undef, undef, undef, undef, undef, undef, undef, undef, undef, undef, undef, undef, undef, undef, undef], defers := [] } ∧ Hid (Mq w4 v p q x y A B) ∧ Hid (Below w.heap.size w w4 ∧ w4.heap[w.heap.size + 2]? = some (.cells (bvs o).toArray 22) ∧ w4.there (w.heap.size + 3) 0 32 ∧ w.heap.size + 4 = w4.heap.size)
set_option maxRecDepth 100000 in
set_option maxHeartbeats 8000000 in
theorem MulAdd48_any (l m o : List UInt8) (hl : l.length = 32) (hm : m.length = 32) (hn : o.length = 32) (w : World) : Calls Tryd.prog 17 #[.agg (bvs l).toArray, .agg (bvs m).toArray, .agg (bvs o).toArray] w (BytesPost (toB ((leN l * leN m + leN o) % ordN)) w) := by
  obtain ⟨zs, hzz, hz32⟩ := zero32
  have hz35 : ∀ w, (zeroValue 48).run Tryd.prog w = .ok (.agg (W4.mk 0 0 0 0).cs) w := fun w => by kernel_rfl
  obtain ⟨z0, hz0⟩ : ∃ z0 : Array Value, z0 = (W4.mk 0 0 0 0).cs := ⟨_, rfl⟩
  rw [← hz0] at hz35
  obtain ⟨xs, hxs⟩ : ∃ xs : Array Value, xs = (bvs l).toArray := ⟨_, rfl⟩
  obtain ⟨ys, hys⟩ : ∃ ys : Array Value, ys = (bvs m).toArray := ⟨_, rfl⟩
  obtain ⟨us, hus⟩ : ∃ us : Array Value, us = (bvs o).toArray := ⟨_, rfl⟩
  rw [← hxs, ← hys, ← hus]
  have F : Hid (Below w.heap.size w ((((w.alloc (.cells xs 22)).alloc (.cells ys 22)).alloc (.cells us 22)).alloc (.cells zs 22)) ∧
      ((((w.alloc (.cells xs 22)).alloc (.cells ys 22)).alloc (.cells us 22)).alloc (.cells zs 22)).heap[w.heap.size]? = some (.cells (bvs l).toArray 22) ∧
      ((((w.alloc (.cells xs 22)).alloc (.cells ys 22)).alloc (.cells us 22)).alloc (.cells zs 22)).heap[w.heap.size + 1]? = some (.cells (bvs m).toArray 22) ∧
      ((((w.alloc (.cells xs 22)).alloc (.cells ys 22)).alloc (.cells us 22)).alloc (.cells zs 22)).heap[w.heap.size + 2]? = some (.cells (bvs o).toArray 22) ∧
      ((((w.alloc (.cells xs 22)).alloc (.cells ys 22)).alloc (.cells us 22)).alloc (.cells zs 22)).there (w.heap.size + 3) 0 32) := by
    refine ⟨((((Below.refl _ _).alloc (Nat.le_refl _) _).alloc (by simp) _).alloc (by simp; omega) _).alloc (by simp; omega) _, ?_, ?_, ?_, ?_⟩
    · rw [Below.heap_alloc _ _ _ (by simp; omega), Below.heap_alloc _ _ _ (by simp; omega), Below.heap_alloc _ _ _ (by simp), hxs]; exact heap_alloc_new w _
    · rw [Below.heap_alloc _ _ _ (by simp <;> omega), Below.heap_alloc _ _ _ (by simp), hys]
      have h1 := heap_alloc_new (w.alloc (.cells xs 22)) (.cells (bvs m).toArray 22)
      rw [show (w.alloc (.cells xs 22)).heap.size = w.heap.size + 1 from by simp] at h1
      exact h1
    · rw [Below.heap_alloc _ _ _ (by simp), hus]
      have h1 := heap_alloc_new ((w.alloc (.cells xs 22)).alloc (.cells ys 22)) (.cells (bvs o).toArray 22)
      rw [show ((w.alloc (.cells xs 22)).alloc (.cells ys 22)).heap.size = w.heap.size + 2 from by simp] at h1
      exact h1
    · have h1 := there_new (((w.alloc (.cells xs 22)).alloc (.cells ys 22)).alloc (.cells us 22)) zs 22 32 (by omega)
      rw [show (((w.alloc (.cells xs 22)).alloc (.cells ys 22)).alloc (.cells us 22)).heap.size = w.heap.size + 3 from by simp] at h1
      exact h1
  have Hl := Lib.hid hl
  have Hm := Lib.hid hm
  have Hn := Lib.hid hn
  have Hz0 := Lib.hid hz0
  clear hl hm hn hxs hys hus hzz hz0
  go_enter Tryd.func17, Tryd.ntmps17
  go_wp2
  refine AnyC.startR (fun _ => True) (MulQ xs ys us w o (leN l % ordN) (leN m % ordN)) (by kernel_rfl) rfl ?_ ?_
  · have HD : Hid (Below (w.heap.size + 4) ((((w.alloc (.cells xs 22)).alloc (.cells ys 22)).alloc (.cells us 22)).alloc (.cells zs 22)) { (((w.alloc (.cells xs 22)).alloc (.cells ys 22)).alloc (.cells us 22)).alloc (.cells zs 22) with drawn := ((((w.alloc (.cells xs 22)).alloc (.cells ys 22)).alloc (.cells us 22)).alloc (.cells zs 22)).drawn + 1 } ∧ ({ (((w.alloc (.cells xs 22)).alloc (.cells ys 22)).alloc (.cells us 22)).alloc (.cells zs 22) with drawn := ((((w.alloc (.cells xs 22)).alloc (.cells ys 22)).alloc (.cells us 22)).alloc (.cells zs 22)).drawn + 1 } : World).heap.size = w.heap.size + 4) := ⟨⟨rfl, rfl, rfl, Nat.le_refl _, fun _ _ => rfl⟩, by simp⟩
    generalize ({ (((w.alloc (.cells xs 22)).alloc (.cells ys 22)).alloc (.cells us 22)).alloc (.cells zs 22) with drawn := ((((w.alloc (.cells xs 22)).alloc (.cells ys 22)).alloc (.cells us 22)).alloc (.cells zs 22)).drawn + 1 } : World) = w4 at *
    have F4 : Hid (Below w.heap.size w w4 ∧ w4.heap[w.heap.size]? = some (.cells (bvs l).toArray 22) ∧ w4.heap[w.heap.size + 1]? = some (.cells (bvs m).toArray 22) ∧ w4.heap[w.heap.size + 2]? = some (.cells (bvs o).toArray 22) ∧ w4.there (w.heap.size + 3) 0 32 ∧ w.heap.size + 4 = w4.heap.size) := by
      obtain ⟨hb4, hs4⟩ := HD.out
      have hsz : ((((w.alloc (.cells xs 22)).alloc (.cells ys 22)).alloc (.cells us 22)).alloc (.cells zs 22)).heap.size = w.heap.size + 4 := by simp
      rw [← hsz] at hb4
      exact ⟨F.out.1.trans (hb4.mono F.out.1.size), heap_below F.out.2.1 hb4, heap_below F.out.2.2.1 hb4, heap_below F.out.2.2.2.1 hb4, there_below F.out.2.2.2.2 (by simp) hb4, hs4.symm⟩
    have B0 : Hid (Below w4.heap.size w4 w4) := Below.refl _ _
    clear F HD
    apply AnyC.take (i := 0) rfl (by kernel_rfl) rfl
    · intro w' hC K hK
      go_wp2
      exact hK
    · rfl
    apply AnyC.take (i := 2) rfl (by kernel_rfl) rfl
    · intro w' hC K hK
      go_wp2
      exact hK
    · rfl
    apply AnyC.three (i := 1) (j := 4) (m := 5) rfl rfl rfl (by kernel_rfl) trivial
    · go_wp2_with (go_at_call 29; go_must (have h_ := mod_any (c := 32) l ⟨by rw [Hl.out]; omega, by rw [Hl.out]; omega⟩ _ (reads_row (heap_below F4.out.2.1 B0.out)); rw [Hl.out] at h_; refine h_.mono ?_; rintro e v1 ⟨x, rfl, hx, hxv, hb⟩; have X := Lib.hid (And.intro hx hxv); have B1 := Lib.hid (B0.out.trans (hb.mono B0.out.size)); clear hx hxv hb h_))
      refine ⟨rfl, ?_⟩
      apply AnyC.three (i := 3) (j := 4) (m := 5) rfl rfl rfl (by kernel_rfl) trivial
      · go_wp2_with (go_at_call 29; go_must (have h_ := mod_any (c := 32) m ⟨by rw [Hm.out]; omega, by rw [Hm.out]; omega⟩ _ (reads_row (heap_below F4.out.2.2.1 B1.out)); rw [Hm.out] at h_; refine h_.mono ?_; rintro e v2 ⟨y, rfl, hx, hxv, hb⟩; have Y := Lib.hid (And.intro hx hxv); have B2 := Lib.hid (B1.out.trans (hb.mono B1.out.size)); clear hx hxv hb h_))
        refine ⟨rfl, ?_⟩
        apply AnyC.two (i := 4) (j := 5) rfl rfl (by kernel_rfl) trivial
        · go_wp2
          refine ⟨rfl, ?_⟩
          obtain ⟨v3, hv3⟩ : ∃ v3, v3 = v2.alloc (.cells z0 48) := ⟨_, rfl⟩
          obtain ⟨p, hp⟩ : ∃ p, p = v2.heap.size := ⟨_, rfl⟩
          rw [← hv3, ← hp]
          have B3 : Hid (Below w4.heap.size w4 v3) := by show Below _ _ _; rw [hv3]; exact B2.out.alloc B2.out.size _
          have P3 : Hid (v3.heap[p]? = some (.cells (W4.mk 0 0 0 0).cs 48 (0, 0))) := by show _ = _; rw [hv3, hp, Hz0.out]; exact heap_alloc_new _ _
          have Gp : Hid (w4.heap.size ≤ p) := by show _ ≤ _; rw [hp]; exact B2.out.size
          clear hv3 hp
          apply AnyC.solo (i := 5) rfl (by kernel_rfl) trivial
          go_wp2
          refine ⟨rfl, ?_⟩
          obtain ⟨v4, hv4⟩ : ∃ v4, v4 = v3.alloc (.cells z0 48) := ⟨_, rfl⟩
          obtain ⟨q, hq⟩ : ∃ q, q = v3.heap.size := ⟨_, rfl⟩
          rw [← hv4, ← hq]
          have B4 : Hid (Below w4.heap.size w4 v4) := by show Below _ _ _; rw [hv4]; exact B3.out.alloc B3.out.size _
          have Q4 : Hid (v4.heap[q]? = some (.cells (W4.mk 0 0 0 0).cs 48 (0, 0))) := by show _ = _; rw [hv4, hq, Hz0.out]; exact heap_alloc_new _ _
          have Gq : Hid (w4.heap.size ≤ q) := by show _ ≤ _; rw [hq]; exact B3.out.size
          have Ne : Hid (p ≠ q) := by have h_ := lt_of_heap P3.out; show _ ≠ _; omega
          have P4 : Hid (v4.heap[p]? = some (.cells (W4.mk 0 0 0 0).cs 48 (0, 0))) := by show _ = _; rw [hv4, Below.heap_alloc _ _ _ (lt_of_heap P3.out)]; exact P3.out
          clear hv4 hq
          apply AnyC.solo (i := 6) rfl (by kernel_rfl) trivial
          refine wpList_store_mid rfl _ _ _ rfl p 0 x.cs rfl rfl (there_row P4.out (Nat.le_refl 4)) (by kernel_rfl) (by kernel_rfl) ?_
          go_wp2
          refine ⟨rfl, ?_⟩
          apply AnyC.solo (i := 7) rfl (by kernel_rfl) trivial
          refine wpList_store_mid rfl _ _ _ rfl q 0 y.cs rfl rfl (there_row ((heap_set4_other (fun e => Ne.out e.symm)).trans Q4.out) (Nat.le_refl 4)) (by kernel_rfl) (by kernel_rfl) ?_
          go_wp2
          refine ⟨rfl, ?_⟩
          exact AnyC.done trivial (by kernel_rfl) ⟨p, q, x, y, w4, rfl, Mq.stored B4.out P4.out Q4.out Ne.out Gp.out Gq.out X.out Y.out, F4.out.1, F4.out.2.2.2.1, F4.out.2.2.2.2⟩
        · go_wp2
          refine ⟨rfl, ?_⟩
          obtain ⟨v5, hv5⟩ : ∃ v5, v5 = v2.alloc (.cells z0 48) := ⟨_, rfl⟩
          obtain ⟨q, hq⟩ : ∃ q, q = v2.heap.size := ⟨_, rfl⟩
          rw [← hv5, ← hq]
          have B5 : Hid (Below w4.heap.size w4 v5) := by show Below _ _ _; rw [hv5]; exact B2.out.alloc B2.out.size _
          have Q5 : Hid (v5.heap[q]? = some (.cells (W4.mk 0 0 0 0).cs 48 (0, 0))) := by show _ = _; rw [hv5, hq, Hz0.out]; exact heap_alloc_new _ _
          have Gq : Hid (w4.heap.size ≤ q) := by show _ ≤ _; rw [hq]; exact B2.out.size
          clear hv5 hq
          apply AnyC.solo (i := 4) rfl (by kernel_rfl) trivial
          go_wp2
          refine ⟨rfl, ?_⟩
          obtain ⟨v6, hv6⟩ : ∃ v6, v6 = v5.alloc (.cells z0 48) := ⟨_, rfl⟩
          obtain ⟨p, hp⟩ : ∃ p, p = v5.heap.size := ⟨_, rfl⟩
          rw [← hv6, ← hp]
          have B6 : Hid (Below w4.heap.size w4 v6) := by show Below _ _ _; rw [hv6]; exact B5.out.alloc B5.out.size _
          have P6 : Hid (v6.heap[p]? = some (.cells (W4.mk 0 0 0 0).cs 48 (0, 0))) := by show _ = _; rw [hv6, hp, Hz0.out]; exact heap_alloc_new _ _
          have Gp : Hid (w4.heap.size ≤ p) := by show _ ≤ _; rw [hp]; exact B5.out.size
          have Ne : Hid (p ≠ q) := by have h_ := lt_of_heap Q5.out; show _ ≠ _; omega
          have Q6 : Hid (v6.heap[q]? = some (.cells (W4.mk 0 0 0 0).cs 48 (0, 0))) := by show _ = _; rw [hv6, Below.heap_alloc _ _ _ (lt_of_heap Q5.out)]; exact Q5.out
          clear hv6 hp
          apply AnyC.solo (i := 6) rfl (by kernel_rfl) trivial
          refine wpList_store_mid rfl _ _ _ rfl p 0 x.cs rfl rfl (there_row P6.out (Nat.le_refl 4)) (by kernel_rfl) (by kernel_rfl) ?_
          go_wp2
          refine ⟨rfl, ?_⟩
          apply AnyC.solo (i := 7) rfl (by kernel_rfl) trivial
          refine wpList_store_mid rfl _ _ _ rfl q 0 y.cs rfl rfl (there_row ((heap_set4_other (fun e => Ne.out e.symm)).trans Q6.out) (Nat.le_refl 4)) (by kernel_rfl) (by kernel_rfl) ?_
          go_wp2
          refine ⟨rfl, ?_⟩
          exact AnyC.done trivial (by kernel_rfl) ⟨p, q, x, y, w4, rfl, Mq.stored B6.out P6.out Q6.out Ne.out Gp.out Gq.out X.out Y.out, F4.out.1, F4.out.2.2.2.1, F4.out.2.2.2.2⟩
      · go_wp2
        refine ⟨rfl, ?_⟩
        obtain ⟨v7, hv7⟩ : ∃ v7, v7 = v1.alloc (.cells z0 48) := ⟨_, rfl⟩
        obtain ⟨p, hp⟩ : ∃ p, p = v1.heap.size := ⟨_, rfl⟩
        rw [← hv7, ← hp]
        have B7 : Hid (Below w4.heap.size w4 v7) := by show Below _ _ _; rw [hv7]; exact B1.out.alloc B1.out.size _
        have P7 : Hid (v7.heap[p]? = some (.cells (W4.mk 0 0 0 0).cs 48 (0, 0))) := by show _ = _; rw [hv7, hp, Hz0.out]; exact heap_alloc_new _ _
        have Gp : Hid (w4.heap.size ≤ p) := by show _ ≤ _; rw [hp]; exact B1.out.size
        clear hv7 hp
        apply AnyC.two (i := 3) (j := 5) rfl rfl (by kernel_rfl) trivial
        · go_wp2_with (go_at_call 29; go_must (have h_ := mod_any (c := 32) m ⟨by rw [Hm.out]; omega, by rw [Hm.out]; omega⟩ _ (reads_row (heap_below F4.out.2.2.1 B7.out)); rw [Hm.out] at h_; refine h_.mono ?_; rintro e v8 ⟨y, rfl, hx, hxv, hb⟩; have Y := Lib.hid (And.intro hx hxv); have B8 := Lib.hid (B7.out.trans (hb.mono B7.out.size)); have P8 := Lib.hid (heap_below P7.out hb); clear hx hxv hb h_))
          refine ⟨rfl, ?_⟩
          apply AnyC.solo (i := 5) rfl (by kernel_rfl) trivial
          go_wp2
          refine ⟨rfl, ?_⟩
          obtain ⟨v9, hv9⟩ : ∃ v9, v9 = v8.alloc (.cells z0 48) := ⟨_, rfl⟩
          obtain ⟨q, hq⟩ : ∃ q, q = v8.heap.size := ⟨_, rfl⟩
          rw [← hv9, ← hq]
          have B9 : Hid (Below w4.heap.size w4 v9) := by show Below _ _ _; rw [hv9]; exact B8.out.alloc B8.out.size _
          have Q9 : Hid (v9.heap[q]? = some (.cells (W4.mk 0 0 0 0).cs 48 (0, 0))) := by show _ = _; rw [hv9, hq, Hz0.out]; exact heap_alloc_new _ _
          have Gq : Hid (w4.heap.size ≤ q) := by show _ ≤ _; rw [hq]; exact B8.out.size
          have Ne : Hid (p ≠ q) := by have h_ := lt_of_heap P8.out; show _ ≠ _; omega
          have P9 : Hid (v9.heap[p]? = some (.cells (W4.mk 0 0 0 0).cs 48 (0, 0))) := by show _ = _; rw [hv9, Below.heap_alloc _ _ _ (lt_of_heap P8.out)]; exact P8.out
          clear hv9 hq
          apply AnyC.solo (i := 6) rfl (by kernel_rfl) trivial
          refine wpList_store_mid rfl _ _ _ rfl p 0 x.cs rfl rfl (there_row P9.out (Nat.le_refl 4)) (by kernel_rfl) (by kernel_rfl) ?_
          go_wp2
          refine ⟨rfl, ?_⟩
          apply AnyC.solo (i := 7) rfl (by kernel_rfl) trivial
          refine wpList_store_mid rfl _ _ _ rfl q 0 y.cs rfl rfl (there_row ((heap_set4_other (fun e => Ne.out e.symm)).trans Q9.out) (Nat.le_refl 4)) (by kernel_rfl) (by kernel_rfl) ?_
          go_wp2
          refine ⟨rfl, ?_⟩
          exact AnyC.done trivial (by kernel_rfl) ⟨p, q, x, y, w4, rfl, Mq.stored B9.out P9.out Q9.out Ne.out Gp.out Gq.out X.out Y.out, F4.out.1, F4.out.2.2.2.1, F4.out.2.2.2.2⟩
        · go_wp2
          refine ⟨rfl, ?_⟩
          obtain ⟨v10, hv10⟩ : ∃ v10, v10 = v7.alloc (.cells z0 48) := ⟨_, rfl⟩
          obtain ⟨q, hq⟩ : ∃ q, q = v7.heap.size := ⟨_, rfl⟩
          rw [← hv10, ← hq]
          have B10 : Hid (Below w4.heap.size w4 v10) := by show Below _ _ _; rw [hv10]; exact B7.out.alloc B7.out.size _
          have Q10 : Hid (v10.heap[q]? = some (.cells (W4.mk 0 0 0 0).cs 48 (0, 0))) := by show _ = _; rw [hv10, hq, Hz0.out]; exact heap_alloc_new _ _
          have Gq : Hid (w4.heap.size ≤ q) := by show _ ≤ _; rw [hq]; exact B7.out.size
          have Ne : Hid (p ≠ q) := by have h_ := lt_of_heap P7.out; show _ ≠ _; omega
          have P10 : Hid (v10.heap[p]? = some (.cells (W4.mk 0 0 0 0).cs 48 (0, 0))) := by show _ = _; rw [hv10, Below.heap_alloc _ _ _ (lt_of_heap P7.out)]; exact P7.out
          clear hv10 hq
          apply AnyC.solo (i := 3) rfl (by kernel_rfl) trivial
          go_wp2_with (go_at_call 29; go_must (have h_ := mod_any (c := 32) m ⟨by rw [Hm.out]; omega, by rw [Hm.out]; omega⟩ _ (reads_row (heap_below F4.out.2.2.1 B10.out)); rw [Hm.out] at h_; refine h_.mono ?_; rintro e v11 ⟨y, rfl, hx, hxv, hb⟩; have Y := Lib.hid (And.intro hx hxv); have B11 := Lib.hid (B10.out.trans (hb.mono B10.out.size)); have P11 := Lib.hid (heap_below P10.out hb); have Q11 := Lib.hid (heap_below Q10.out hb); clear hx hxv hb h_))
          refine ⟨rfl, ?_⟩
          apply AnyC.solo (i := 6) rfl (by kernel_rfl) trivial
          refine wpList_store_mid rfl _ _ _ rfl p 0 x.cs rfl rfl (there_row P11.out (Nat.le_refl 4)) (by kernel_rfl) (by kernel_rfl) ?_
          go_wp2
          refine ⟨rfl, ?_⟩
          apply AnyC.solo (i := 7) rfl (by kernel_rfl) trivial
          refine wpList_store_mid rfl _ _ _ rfl q 0 y.cs rfl rfl (there_row ((heap_set4_other (fun e => Ne.out e.symm)).trans Q11.out) (Nat.le_refl 4)) (by kernel_rfl) (by kernel_rfl) ?_
          go_wp2
          refine ⟨rfl, ?_⟩
          exact AnyC.done trivial (by kernel_rfl) ⟨p, q, x, y, w4, rfl, Mq.stored B11.out P11.out Q11.out Ne.out Gp.out Gq.out X.out Y.out, F4.out.1, F4.out.2.2.2.1, F4.out.2.2.2.2⟩
      · go_wp2
        refine ⟨rfl, ?_⟩
        obtain ⟨v12, hv12⟩ : ∃ v12, v12 = v1.alloc (.cells z0 48) := ⟨_, rfl⟩
        obtain ⟨q, hq⟩ : ∃ q, q = v1.heap.size := ⟨_, rfl⟩
        rw [← hv12, ← hq]
        have B12 : Hid (Below w4.heap.size w4 v12) := by show Below _ _ _; rw [hv12]; exact B1.out.alloc B1.out.size _
        have Q12 : Hid (v12.heap[q]? = some (.cells (W4.mk 0 0 0 0).cs 48 (0, 0))) := by show _ = _; rw [hv12, hq, Hz0.out]; exact heap_alloc_new _ _
        have Gq : Hid (w4.heap.size ≤ q) := by show _ ≤ _; rw [hq]; exact B1.out.size
        clear hv12 hq
        apply AnyC.two (i := 3) (j := 4) rfl rfl (by kernel_rfl) trivial
        · go_wp2_with (go_at_call 29; go_must (have h_ := mod_any (c := 32) m ⟨by rw [Hm.out]; omega, by rw [Hm.out]; omega⟩ _ (reads_row (heap_below F4.out.2.2.1 B12.out)); rw [Hm.out] at h_; refine h_.mono ?_; rintro e v13 ⟨y, rfl, hx, hxv, hb⟩; have Y := Lib.hid (And.intro hx hxv); have B13 := Lib.hid (B12.out.trans (hb.mono B12.out.size)); have Q13 := Lib.hid (heap_below Q12.out hb); clear hx hxv hb h_))
          refine ⟨rfl, ?_⟩
          apply AnyC.solo (i := 4) rfl (by kernel_rfl) trivial
          go_wp2
          refine ⟨rfl, ?_⟩
          obtain ⟨v14, hv14⟩ : ∃ v14, v14 = v13.alloc (.cells z0 48) := ⟨_, rfl⟩
          obtain ⟨p, hp⟩ : ∃ p, p = v13.heap.size := ⟨_, rfl⟩
          rw [← hv14, ← hp]
          have B14 : Hid (Below w4.heap.size w4 v14) := by show Below _ _ _; rw [hv14]; exact B13.out.alloc B13.out.size _
          have P14 : Hid (v14.heap[p]? = some (.cells (W4.mk 0 0 0 0).cs 48 (0, 0))) := by show _ = _; rw [hv14, hp, Hz0.out]; exact heap_alloc_new _ _
          have Gp : Hid (w4.heap.size ≤ p) := by show _ ≤ _; rw [hp]; exact B13.out.size
          have Ne : Hid (p ≠ q) := by have h_ := lt_of_heap Q13.out; show _ ≠ _; omega
          have Q14 : Hid (v14.heap[q]? = some (.cells (W4.mk 0 0 0 0).cs 48 (0, 0))) := by show _ = _; rw [hv14, Below.heap_alloc _ _ _ (lt_of_heap Q13.out)]; exact Q13.out
          clear hv14 hp
          apply AnyC.solo (i := 6) rfl (by kernel_rfl) trivial
          refine wpList_store_mid rfl _ _ _ rfl p 0 x.cs rfl rfl (there_row P14.out (Nat.le_refl 4)) (by kernel_rfl) (by kernel_rfl) ?_
          go_wp2
          refine ⟨rfl, ?_⟩
          apply AnyC.solo (i := 7) rfl (by kernel_rfl) trivial
          refine wpList_store_mid rfl _ _ _ rfl q 0 y.cs rfl rfl (there_row ((heap_set4_other (fun e => Ne.out e.symm)).trans Q14.out) (Nat.le_refl 4)) (by kernel_rfl) (by kernel_rfl) ?_
          go_wp2
          refine ⟨rfl, ?_⟩
          exact AnyC.done trivial (by kernel_rfl) ⟨p, q, x, y, w4, rfl, Mq.stored B14.out P14.out Q14.out Ne.out Gp.out Gq.out X.out Y.out, F4.out.1, F4.out.2.2.2.1, F4.out.2.2.2.2⟩
        · go_wp2
          refine ⟨rfl, ?_⟩
          obtain ⟨v15, hv15⟩ : ∃ v15, v15 = v12.alloc (.cells z0 48) := ⟨_, rfl⟩
          obtain ⟨p, hp⟩ : ∃ p, p = v12.heap.size := ⟨_, rfl⟩
          rw [← hv15, ← hp]
          have B15 : Hid (Below w4.heap.size w4 v15) := by show Below _ _ _; rw [hv15]; exact B12.out.alloc B12.out.size _
          have P15 : Hid (v15.heap[p]? = some (.cells (W4.mk 0 0 0 0).cs 48 (0, 0))) := by show _ = _; rw [hv15, hp, Hz0.out]; exact heap_alloc_new _ _
          have Gp : Hid (w4.heap.size ≤ p) := by show _ ≤ _; rw [hp]; exact B12.out.size
          have Ne : Hid (p ≠ q) := by have h_ := lt_of_heap Q12.out; show _ ≠ _; omega
          have Q15 : Hid (v15.heap[q]? = some (.cells (W4.mk 0 0 0 0).cs 48 (0, 0))) := by show _ = _; rw [hv15, Below.heap_alloc _ _ _ (lt_of_heap Q12.out)]; exact Q12.out
          clear hv15 hp
          apply AnyC.solo (i := 3) rfl (by kernel_rfl) trivial
          go_wp2_with (go_at_call 29; go_must (have h_ := mod_any (c := 32) m ⟨by rw [Hm.out]; omega, by rw [Hm.out]; omega⟩ _ (reads_row (heap_below F4.out.2.2.1 B15.out)); rw [Hm.out] at h_; refine h_.mono ?_; rintro e v16 ⟨y, rfl, hx, hxv, hb⟩; have Y := Lib.hid (And.intro hx hxv); have B16 := Lib.hid (B15.out.trans (hb.mono B15.out.size)); have P16 := Lib.hid (heap_below P15.out hb); have Q16 := Lib.hid (heap_below Q15.out hb); clear hx hxv hb h_))
          refine ⟨rfl, ?_⟩
          apply AnyC.solo (i := 6) rfl (by kernel_rfl) trivial
          refine wpList_store_mid rfl _ _ _ rfl p 0 x.cs rfl rfl (there_row P16.out (Nat.le_refl 4)) (by kernel_rfl) (by kernel_rfl) ?_
          go_wp2
          refine ⟨rfl, ?_⟩
          apply AnyC.solo (i := 7) rfl (by kernel_rfl) trivial
          refine wpList_store_mid rfl _ _ _ rfl q 0 y.cs rfl rfl (there_row ((heap_set4_other (fun e => Ne.out e.symm)).trans Q16.out) (Nat.le_refl 4)) (by kernel_rfl) (by kernel_rfl) ?_
          go_wp2
          refine ⟨rfl, ?_⟩
          exact AnyC.done trivial (by kernel_rfl) ⟨p, q, x, y, w4, rfl, Mq.stored B16.out P16.out Q16.out Ne.out Gp.out Gq.out X.out Y.out, F4.out.1, F4.out.2.2.2.1, F4.out.2.2.2.2⟩
    · go_wp2
      refine ⟨rfl, ?_⟩
      obtain ⟨v17, hv17⟩ : ∃ v17, v17 = w4.alloc (.cells z0 48) := ⟨_, rfl⟩
      obtain ⟨p, hp⟩ : ∃ p, p = w4.heap.size := ⟨_, rfl⟩
      rw [← hv17, ← hp]
      have B17 : Hid (Below w4.heap.size w4 v17) := by show Below _ _ _; rw [hv17]; exact B0.out.alloc B0.out.size _
      have P17 : Hid (v17.heap[p]? = some (.cells (W4.mk 0 0 0 0).cs 48 (0, 0))) := by show _ = _; rw [hv17, hp, Hz0.out]; exact heap_alloc_new _ _
      have Gp : Hid (w4.heap.size ≤ p) := by show _ ≤ _; rw [hp]; exact B0.out.size
      clear hv17 hp
      apply AnyC.two (i := 1) (j := 5) rfl rfl (by kernel_rfl) trivial
      · go_wp2_with (go_at_call 29; go_must (have h_ := mod_any (c := 32) l ⟨by rw [Hl.out]; omega, by rw [Hl.out]; omega⟩ _ (reads_row (heap_below F4.out.2.1 B17.out)); rw [Hl.out] at h_; refine h_.mono ?_; rintro e v18 ⟨x, rfl, hx, hxv, hb⟩; have X := Lib.hid (And.intro hx hxv); have B18 := Lib.hid (B17.out.trans (hb.mono B17.out.size)); have P18 := Lib.hid (heap_below P17.out hb); clear hx hxv hb h_))
        refine ⟨rfl, ?_⟩
        apply AnyC.two (i := 3) (j := 5) rfl rfl (by kernel_rfl) trivial
        · go_wp2_with (go_at_call 29; go_must (have h_ := mod_any (c := 32) m ⟨by rw [Hm.out]; omega, by rw [Hm.out]; omega⟩ _ (reads_row (heap_below F4.out.2.2.1 B18.out)); rw [Hm.out] at h_; refine h_.mono ?_; rintro e v19 ⟨y, rfl, hx, hxv, hb⟩; have Y := Lib.hid (And.intro hx hxv); have B19 := Lib.hid (B18.out.trans (hb.mono B18.out.size)); have P19 := Lib.hid (heap_below P18.out hb); clear hx hxv hb h_))
          refine ⟨rfl, ?_⟩
          apply AnyC.solo (i := 5) rfl (by kernel_rfl) trivial
          go_wp2
          refine ⟨rfl, ?_⟩
          obtain ⟨v20, hv20⟩ : ∃ v20, v20 = v19.alloc (.cells z0 48) := ⟨_, rfl⟩
          obtain ⟨q, hq⟩ : ∃ q, q = v19.heap.size := ⟨_, rfl⟩
          rw [← hv20, ← hq]
          have B20 : Hid (Below w4.heap.size w4 v20) := by show Below _ _ _; rw [hv20]; exact B19.out.alloc B19.out.size _
          have Q20 : Hid (v20.heap[q]? = some (.cells (W4.mk 0 0 0 0).cs 48 (0, 0))) := by show _ = _; rw [hv20, hq, Hz0.out]; exact heap_alloc_new _ _
          have Gq : Hid (w4.heap.size ≤ q) := by show _ ≤ _; rw [hq]; exact B19.out.size
          have Ne : Hid (p ≠ q) := by have h_ := lt_of_heap P19.out; show _ ≠ _; omega
          have P20 : Hid (v20.heap[p]? = some (.cells (W4.mk 0 0 0 0).cs 48 (0, 0))) := by show _ = _; rw [hv20, Below.heap_alloc _ _ _ (lt_of_heap P19.out)]; exact P19.out
          clear hv20 hq
          apply AnyC.solo (i := 6) rfl (by kernel_rfl) trivial
          refine wpList_store_mid rfl _ _ _ rfl p 0 x.cs rfl rfl (there_row P20.out (Nat.le_refl 4)) (by kernel_rfl) (by kernel_rfl) ?_
          go_wp2
          refine ⟨rfl, ?_⟩
          apply AnyC.solo (i := 7) rfl (by kernel_rfl) trivial
          refine wpList_store_mid rfl _ _ _ rfl q 0 y.cs rfl rfl (there_row ((heap_set4_other (fun e => Ne.out e.symm)).trans Q20.out) (Nat.le_refl 4)) (by kernel_rfl) (by kernel_rfl) ?_
          go_wp2
          refine ⟨rfl, ?_⟩
          exact AnyC.done trivial (by kernel_rfl) ⟨p, q, x, y, w4, rfl, Mq.stored B20.out P20.out Q20.out Ne.out Gp.out Gq.out X.out Y.out, F4.out.1, F4.out.2.2.2.1, F4.out.2.2.2.2⟩
        · go_wp2
          refine ⟨rfl, ?_⟩
          obtain ⟨v21, hv21⟩ : ∃ v21, v21 = v18.alloc (.cells z0 48) := ⟨_, rfl⟩
          obtain ⟨q, hq⟩ : ∃ q, q = v18.heap.size := ⟨_, rfl⟩
          rw [← hv21, ← hq]
          have B21 : Hid (Below w4.heap.size w4 v21) := by show Below _ _ _; rw [hv21]; exact B18.out.alloc B18.out.size _
          have Q21 : Hid (v21.heap[q]? = some (.cells (W4.mk 0 0 0 0).cs 48 (0, 0))) := by show _ = _; rw [hv21, hq, Hz0.out]; exact heap_alloc_new _ _
          have Gq : Hid (w4.heap.size ≤ q) := by show _ ≤ _; rw [hq]; exact B18.out.size
          have Ne : Hid (p ≠ q) := by have h_ := lt_of_heap P18.out; show _ ≠ _; omega
          have P21 : Hid (v21.heap[p]? = some (.cells (W4.mk 0 0 0 0).cs 48 (0, 0))) := by show _ = _; rw [hv21, Below.heap_alloc _ _ _ (lt_of_heap P18.out)]; exact P18.out
          clear hv21 hq
          apply AnyC.solo (i := 3) rfl (by kernel_rfl) trivial
          go_wp2_with (go_at_call 29; go_must (have h_ := mod_any (c := 32) m ⟨by rw [Hm.out]; omega, by rw [Hm.out]; omega⟩ _ (reads_row (heap_below F4.out.2.2.1 B21.out)); rw [Hm.out] at h_; refine h_.mono ?_; rintro e v22 ⟨y, rfl, hx, hxv, hb⟩; have Y := Lib.hid (And.intro hx hxv); have B22 := Lib.hid (B21.out.trans (hb.mono B21.out.size)); have P22 := Lib.hid (heap_below P21.out hb); have Q22 := Lib.hid (heap_below Q21.out hb); clear hx hxv hb h_))
          refine ⟨rfl, ?_⟩
          apply AnyC.solo (i := 6) rfl (by kernel_rfl) trivial
          refine wpList_store_mid rfl _ _ _ rfl p 0 x.cs rfl rfl (there_row P22.out (Nat.le_refl 4)) (by kernel_rfl) (by kernel_rfl) ?_
          go_wp2
          refine ⟨rfl, ?_⟩
          apply AnyC.solo (i := 7) rfl (by kernel_rfl) trivial
          refine wpList_store_mid rfl _ _ _ rfl q 0 y.cs rfl rfl (there_row ((heap_set4_other (fun e => Ne.out e.symm)).trans Q22.out) (Nat.le_refl 4)) (by kernel_rfl) (by kernel_rfl) ?_
          go_wp2
          refine ⟨rfl, ?_⟩
          exact AnyC.done trivial (by kernel_rfl) ⟨p, q, x, y, w4, rfl, Mq.stored B22.out P22.out Q22.out Ne.out Gp.out Gq.out X.out Y.out, F4.out.1, F4.out.2.2.2.1, F4.out.2.2.2.2⟩
      · go_wp2
        refine ⟨rfl, ?_⟩
        obtain ⟨v23, hv23⟩ : ∃ v23, v23 = v17.alloc (.cells z0 48) := ⟨_, rfl⟩
        obtain ⟨q, hq⟩ : ∃ q, q = v17.heap.size := ⟨_, rfl⟩
        rw [← hv23, ← hq]
        have B23 : Hid (Below w4.heap.size w4 v23) := by show Below _ _ _; rw [hv23]; exact B17.out.alloc B17.out.size _
        have Q23 : Hid (v23.heap[q]? = some (.cells (W4.mk 0 0 0 0).cs 48 (0, 0))) := by show _ = _; rw [hv23, hq, Hz0.out]; exact heap_alloc_new _ _
        have Gq : Hid (w4.heap.size ≤ q) := by show _ ≤ _; rw [hq]; exact B17.out.size
        have Ne : Hid (p ≠ q) := by have h_ := lt_of_heap P17.out; show _ ≠ _; omega
        have P23 : Hid (v23.heap[p]? = some (.cells (W4.mk 0 0 0 0).cs 48 (0, 0))) := by show _ = _; rw [hv23, Below.heap_alloc _ _ _ (lt_of_heap P17.out)]; exact P17.out
        clear hv23 hq
        apply AnyC.solo (i := 1) rfl (by kernel_rfl) trivial
        go_wp2_with (go_at_call 29; go_must (have h_ := mod_any (c := 32) l ⟨by rw [Hl.out]; omega, by rw [Hl.out]; omega⟩ _ (reads_row (heap_below F4.out.2.1 B23.out)); rw [Hl.out] at h_; refine h_.mono ?_; rintro e v24 ⟨x, rfl, hx, hxv, hb⟩; have X := Lib.hid (And.intro hx hxv); have B24 := Lib.hid (B23.out.trans (hb.mono B23.out.size)); have P24 := Lib.hid (heap_below P23.out hb); have Q24 := Lib.hid (heap_below Q23.out hb); clear hx hxv hb h_))
        refine ⟨rfl, ?_⟩
        apply AnyC.solo (i := 3) rfl (by kernel_rfl) trivial
        go_wp2_with (go_at_call 29; go_must (have h_ := mod_any (c := 32) m ⟨by rw [Hm.out]; omega, by rw [Hm.out]; omega⟩ _ (reads_row (heap_below F4.out.2.2.1 B24.out)); rw [Hm.out] at h_; refine h_.mono ?_; rintro e v25 ⟨y, rfl, hx, hxv, hb⟩; have Y := Lib.hid (And.intro hx hxv); have B25 := Lib.hid (B24.out.trans (hb.mono B24.out.size)); have P25 := Lib.hid (heap_below P24.out hb); have Q25 := Lib.hid (heap_below Q24.out hb); clear hx hxv hb h_))
        refine ⟨rfl, ?_⟩
        apply AnyC.solo (i := 6) rfl (by kernel_rfl) trivial
        refine wpList_store_mid rfl _ _ _ rfl p 0 x.cs rfl rfl (there_row P25.out (Nat.le_refl 4)) (by kernel_rfl) (by kernel_rfl) ?_
        go_wp2
        refine ⟨rfl, ?_⟩
        apply AnyC.solo (i := 7) rfl (by kernel_rfl) trivial
        refine wpList_store_mid rfl _ _ _ rfl q 0 y.cs rfl rfl (there_row ((heap_set4_other (fun e => Ne.out e.symm)).trans Q25.out) (Nat.le_refl 4)) (by kernel_rfl) (by kernel_rfl) ?_
        go_wp2
        refine ⟨rfl, ?_⟩
        exact AnyC.done trivial (by kernel_rfl) ⟨p, q, x, y, w4, rfl, Mq.stored B25.out P25.out Q25.out Ne.out Gp.out Gq.out X.out Y.out, F4.out.1, F4.out.2.2.2.1, F4.out.2.2.2.2⟩
    · go_wp2
      refine ⟨rfl, ?_⟩
      obtain ⟨v26, hv26⟩ : ∃ v26, v26 = w4.alloc (.cells z0 48) := ⟨_, rfl⟩
      obtain ⟨q, hq⟩ : ∃ q, q = w4.heap.size := ⟨_, rfl⟩
      rw [← hv26, ← hq]
      have B26 : Hid (Below w4.heap.size w4 v26) := by show Below _ _ _; rw [hv26]; exact B0.out.alloc B0.out.size _
      have Q26 : Hid (v26.heap[q]? = some (.cells (W4.mk 0 0 0 0).cs 48 (0, 0))) := by show _ = _; rw [hv26, hq, Hz0.out]; exact heap_alloc_new _ _
      have Gq : Hid (w4.heap.size ≤ q) := by show _ ≤ _; rw [hq]; exact B0.out.size
      clear hv26 hq
      apply AnyC.two (i := 1) (j := 4) rfl rfl (by kernel_rfl) trivial
      · go_wp2_with (go_at_call 29; go_must (have h_ := mod_any (c := 32) l ⟨by rw [Hl.out]; omega, by rw [Hl.out]; omega⟩ _ (reads_row (heap_below F4.out.2.1 B26.out)); rw [Hl.out] at h_; refine h_.mono ?_; rintro e v27 ⟨x, rfl, hx, hxv, hb⟩; have X := Lib.hid (And.intro hx hxv); have B27 := Lib.hid (B26.out.trans (hb.mono B26.out.size)); have Q27 := Lib.hid (heap_below Q26.out hb); clear hx hxv hb h_))
        refine ⟨rfl, ?_⟩
        apply AnyC.two (i := 3) (j := 4) rfl rfl (by kernel_rfl) trivial
        · go_wp2_with (go_at_call 29; go_must (have h_ := mod_any (c := 32) m ⟨by rw [Hm.out]; omega, by rw [Hm.out]; omega⟩ _ (reads_row (heap_below F4.out.2.2.1 B27.out)); rw [Hm.out] at h_; refine h_.mono ?_; rintro e v28 ⟨y, rfl, hx, hxv, hb⟩; have Y := Lib.hid (And.intro hx hxv); have B28 := Lib.hid (B27.out.trans (hb.mono B27.out.size)); have Q28 := Lib.hid (heap_below Q27.out hb); clear hx hxv hb h_))
          refine ⟨rfl, ?_⟩
          apply AnyC.solo (i := 4) rfl (by kernel_rfl) trivial
          go_wp2
          refine ⟨rfl, ?_⟩
          obtain ⟨v29, hv29⟩ : ∃ v29, v29 = v28.alloc (.cells z0 48) := ⟨_, rfl⟩
          obtain ⟨p, hp⟩ : ∃ p, p = v28.heap.size := ⟨_, rfl⟩
          rw [← hv29, ← hp]
          have B29 : Hid (Below w4.heap.size w4 v29) := by show Below _ _ _; rw [hv29]; exact B28.out.alloc B28.out.size _
          have P29 : Hid (v29.heap[p]? = some (.cells (W4.mk 0 0 0 0).cs 48 (0, 0))) := by show _ = _; rw [hv29, hp, Hz0.out]; exact heap_alloc_new _ _
          have Gp : Hid (w4.heap.size ≤ p) := by show _ ≤ _; rw [hp]; exact B28.out.size
          have Ne : Hid (p ≠ q) := by have h_ := lt_of_heap Q28.out; show _ ≠ _; omega
          have Q29 : Hid (v29.heap[q]? = some (.cells (W4.mk 0 0 0 0).cs 48 (0, 0))) := by show _ = _; rw [hv29, Below.heap_alloc _ _ _ (lt_of_heap Q28.out)]; exact Q28.out
          clear hv29 hp
          apply AnyC.solo (i := 6) rfl (by kernel_rfl) trivial
          refine wpList_store_mid rfl _ _ _ rfl p 0 x.cs rfl rfl (there_row P29.out (Nat.le_refl 4)) (by kernel_rfl) (by kernel_rfl) ?_
          go_wp2
          refine ⟨rfl, ?_⟩
          apply AnyC.solo (i := 7) rfl (by kernel_rfl) trivial
          refine wpList_store_mid rfl _ _ _ rfl q 0 y.cs rfl rfl (there_row ((heap_set4_other (fun e => Ne.out e.symm)).trans Q29.out) (Nat.le_refl 4)) (by kernel_rfl) (by kernel_rfl) ?_
          go_wp2
          refine ⟨rfl, ?_⟩
          exact AnyC.done trivial (by kernel_rfl) ⟨p, q, x, y, w4, rfl, Mq.stored B29.out P29.out Q29.out Ne.out Gp.out Gq.out X.out Y.out, F4.out.1, F4.out.2.2.2.1, F4.out.2.2.2.2⟩
        · go_wp2
          refine ⟨rfl, ?_⟩
          obtain ⟨v30, hv30⟩ : ∃ v30, v30 = v27.alloc (.cells z0 48) := ⟨_, rfl⟩
          obtain ⟨p, hp⟩ : ∃ p, p = v27.heap.size := ⟨_, rfl⟩
          rw [← hv30, ← hp]
          have B30 : Hid (Below w4.heap.size w4 v30) := by show Below _ _ _; rw [hv30]; exact B27.out.alloc B27.out.size _
          have P30 : Hid (v30.heap[p]? = some (.cells (W4.mk 0 0 0 0).cs 48 (0, 0))) := by show _ = _; rw [hv30, hp, Hz0.out]; exact heap_alloc_new _ _
          have Gp : Hid (w4.heap.size ≤ p) := by show _ ≤ _; rw [hp]; exact B27.out.size
          have Ne : Hid (p ≠ q) := by have h_ := lt_of_heap Q27.out; show _ ≠ _; omega
          have Q30 : Hid (v30.heap[q]? = some (.cells (W4.mk 0 0 0 0).cs 48 (0, 0))) := by show _ = _; rw [hv30, Below.heap_alloc _ _ _ (lt_of_heap Q27.out)]; exact Q27.out
          clear hv30 hp
          apply AnyC.solo (i := 3) rfl (by kernel_rfl) trivial
          go_wp2_with (go_at_call 29; go_must (have h_ := mod_any (c := 32) m ⟨by rw [Hm.out]; omega, by rw [Hm.out]; omega⟩ _ (reads_row (heap_below F4.out.2.2.1 B30.out)); rw [Hm.out] at h_; refine h_.mono ?_; rintro e v31 ⟨y, rfl, hx, hxv, hb⟩; have Y := Lib.hid (And.intro hx hxv); have B31 := Lib.hid (B30.out.trans (hb.mono B30.out.size)); have P31 := Lib.hid (heap_below P30.out hb); have Q31 := Lib.hid (heap_below Q30.out hb); clear hx hxv hb h_))
          refine ⟨rfl, ?_⟩
          apply AnyC.solo (i := 6) rfl (by kernel_rfl) trivial
          refine wpList_store_mid rfl _ _ _ rfl p 0 x.cs rfl rfl (there_row P31.out (Nat.le_refl 4)) (by kernel_rfl) (by kernel_rfl) ?_
          go_wp2
          refine ⟨rfl, ?_⟩
          apply AnyC.solo (i := 7) rfl (by kernel_rfl) trivial
          refine wpList_store_mid rfl _ _ _ rfl q 0 y.cs rfl rfl (there_row ((heap_set4_other (fun e => Ne.out e.symm)).trans Q31.out) (Nat.le_refl 4)) (by kernel_rfl) (by kernel_rfl) ?_
          go_wp2
          refine ⟨rfl, ?_⟩
          exact AnyC.done trivial (by kernel_rfl) ⟨p, q, x, y, w4, rfl, Mq.stored B31.out P31.out Q31.out Ne.out Gp.out Gq.out X.out Y.out, F4.out.1, F4.out.2.2.2.1, F4.out.2.2.2.2⟩
      · go_wp2
        refine ⟨rfl, ?_⟩
        obtain ⟨v32, hv32⟩ : ∃ v32, v32 = v26.alloc (.cells z0 48) := ⟨_, rfl⟩
        obtain ⟨p, hp⟩ : ∃ p, p = v26.heap.size := ⟨_, rfl⟩
        rw [← hv32, ← hp]
        have B32 : Hid (Below w4.heap.size w4 v32) := by show Below _ _ _; rw [hv32]; exact B26.out.alloc B26.out.size _
        have P32 : Hid (v32.heap[p]? = some (.cells (W4.mk 0 0 0 0).cs 48 (0, 0))) := by show _ = _; rw [hv32, hp, Hz0.out]; exact heap_alloc_new _ _
        have Gp : Hid (w4.heap.size ≤ p) := by show _ ≤ _; rw [hp]; exact B26.out.size
        have Ne : Hid (p ≠ q) := by have h_ := lt_of_heap Q26.out; show _ ≠ _; omega
        have Q32 : Hid (v32.heap[q]? = some (.cells (W4.mk 0 0 0 0).cs 48 (0, 0))) := by show _ = _; rw [hv32, Below.heap_alloc _ _ _ (lt_of_heap Q26.out)]; exact Q26.out
        clear hv32 hp
        apply AnyC.solo (i := 1) rfl (by kernel_rfl) trivial
        go_wp2_with (go_at_call 29; go_must (have h_ := mod_any (c := 32) l ⟨by rw [Hl.out]; omega, by rw [Hl.out]; omega⟩ _ (reads_row (heap_below F4.out.2.1 B32.out)); rw [Hl.out] at h_; refine h_.mono ?_; rintro e v33 ⟨x, rfl, hx, hxv, hb⟩; have X := Lib.hid (And.intro hx hxv); have B33 := Lib.hid (B32.out.trans (hb.mono B32.out.size)); have P33 := Lib.hid (heap_below P32.out hb); have Q33 := Lib.hid (heap_below Q32.out hb); clear hx hxv hb h_))
        refine ⟨rfl, ?_⟩
        apply AnyC.solo (i := 3) rfl (by kernel_rfl) trivial
        go_wp2_with (go_at_call 29; go_must (have h_ := mod_any (c := 32) m ⟨by rw [Hm.out]; omega, by rw [Hm.out]; omega⟩ _ (reads_row (heap_below F4.out.2.2.1 B33.out)); rw [Hm.out] at h_; refine h_.mono ?_; rintro e v34 ⟨y, rfl, hx, hxv, hb⟩; have Y := Lib.hid (And.intro hx hxv); have B34 := Lib.hid (B33.out.trans (hb.mono B33.out.size)); have P34 := Lib.hid (heap_below P33.out hb); have Q34 := Lib.hid (heap_below Q33.out hb); clear hx hxv hb h_))
        refine ⟨rfl, ?_⟩
        apply AnyC.solo (i := 6) rfl (by kernel_rfl) trivial
        refine wpList_store_mid rfl _ _ _ rfl p 0 x.cs rfl rfl (there_row P34.out (Nat.le_refl 4)) (by kernel_rfl) (by kernel_rfl) ?_
        go_wp2
        refine ⟨rfl, ?_⟩
        apply AnyC.solo (i := 7) rfl (by kernel_rfl) trivial
        refine wpList_store_mid rfl _ _ _ rfl q 0 y.cs rfl rfl (there_row ((heap_set4_other (fun e => Ne.out e.symm)).trans Q34.out) (Nat.le_refl 4)) (by kernel_rfl) (by kernel_rfl) ?_
        go_wp2
        refine ⟨rfl, ?_⟩
        exact AnyC.done trivial (by kernel_rfl) ⟨p, q, x, y, w4, rfl, Mq.stored B34.out P34.out Q34.out Ne.out Gp.out Gq.out X.out Y.out, F4.out.1, F4.out.2.2.2.1, F4.out.2.2.2.2⟩
  · rintro a v ⟨p, q, x, y, w4, rfl, hM, hF⟩
    have HS : Hid (Mz w4 (v.alloc (.cells z0 48)) p q v.heap.size x y (leN l % ordN) (leN m % ordN) ⟨0, 0, 0, 0⟩) := by
      show Mz _ _ _ _ _ _ _ _ _ _
      rw [Hz0.out]
      exact Mz.start hM.out
    have YLT : Hid (y.val < ordN) := by show _ < _; rw [hM.out.yval]; exact Nat.mod_lt _ ordN_pos
    have XLT : Hid (x.val / 2 ^ 256 = 0) := Nat.div_eq_of_lt (x.val_lt hM.out.xok)
    obtain ⟨b, hb⟩ : ∃ b, b = v.heap.size := ⟨_, rfl⟩
    have Hb := Lib.hid hb
    clear F hb
    go_wp2
    rw [← Hb.out]
    rw [← Hb.out] at HS
    go_loopw [10] (fun i wr => ∃ (j : Nat) (d : W4), j ≤ 256 ∧ i = .int .i64 ((j : Int) - 1) ∧ Hid (d.ok ∧ d.val = (x.val / 2 ^ j * y.val) % ordN) ∧ Hid (Mz w4 wr p q b x y (leN l % ordN) (leN m % ordN) d)) (fun i _ => (intOf i + 1).toNat)
    case atStart => exact ⟨256, _, Nat.le_refl _, by go_num, ⟨⟨by decide, by decide, by decide, by decide⟩, by rw [XLT.out, Nat.zero_mul]; rfl⟩, HS⟩
    case round =>
      obtain ⟨j, d, hj, rfl, hd, h3⟩ := hrel
      clear HS
      cases j with
      | zero =>
        have e : ((0 : Nat) : Int) - 1 = -1 := rfl
        rw [e]
        clear e
        go_wp2
        refine AnyC.startB (fun w' => w'.heap[b]? = some (.cells d.cs 48 (0, 0))) (by kernel_rfl) rfl ?_
        intro wa hba _
        have FA := Lib.hid (h3.out.drew hba)
        have RO : Hid (wa.heap[w.heap.size + 2]? = some (.cells (bvs o).toArray 22)) := heap_below hF.out.2.1 FA.out.mp.below
        have T0 : Hid (wa.there (w.heap.size + 3) 0 32) := there_below hF.out.2.2.1 (by have h_ := hF.out.2.2.2; omega) FA.out.mp.below
        have LT : Hid (w.heap.size + 3 < wa.heap.size ∧ b ≠ w.heap.size + 3 ∧ b < wa.heap.size) := ⟨by have h_ := hF.out.2.2.2; have h2_ := FA.out.mp.below.size; omega, by have h_ := hF.out.2.2.2; have h2_ := FA.out.bge; omega, lt_of_heap FA.out.row⟩
        have BA : Hid (Below w.heap.size w wa) := hF.out.1.trans (FA.out.mp.below.mono hF.out.1.size)
        have DV : Hid (d.ok ∧ d.val = (leN l % ordN * (leN m % ordN)) % ordN) := ⟨hd.out.1, by
          have h_ := hd.out.2
          rw [Nat.pow_zero, Nat.div_one, hM.out.xval, hM.out.yval] at h_
          exact h_⟩
        clear hba h3 hd
        apply AnyC.take (i := 0) rfl (by kernel_rfl) rfl
        · intro w' hC K hK
          refine wpList_load_arr rfl _ _ rfl b 0 rfl d.cs _ (by with_reducible exact range_row hC) Tryd.underlying48 rfl (by kernel_rfl) ?_
          go_wp2
          exact hK
        · rfl
        apply AnyC.take (i := 1) rfl (by kernel_rfl) rfl
        · intro w' hC K hK
          go_wp2
          exact hK
        · rfl
        apply AnyC.solo (i := 2) rfl (by kernel_rfl) FA.out.row
        go_wp2_with (go_at_call 29; go_must (have h_ := mod_any (c := 32) o ⟨by rw [Hn.out]; omega, by rw [Hn.out]; omega⟩ _ (reads_row RO.out); rw [Hn.out] at h_; refine h_.mono ?_; rintro e w5 ⟨g, rfl, hx, hxv, hb5⟩; have X5 := Lib.hid (And.intro hx hxv); have R5 := Lib.hid (heap_below FA.out.row hb5); have T5 := Lib.hid (there_below T0.out LT.out.1 hb5); have B5 := Lib.hid (BA.out.trans (hb5.mono BA.out.size)); have L5 : Hid (w.heap.size + 3 < w5.heap.size) := Nat.lt_of_lt_of_le LT.out.1 hb5.size; clear hx hxv hb5 h_))
        refine ⟨rfl, ?_⟩
        apply AnyC.solo (i := 3) rfl (by kernel_rfl) R5.out
        go_wp2_with (go_at_call 30; go_must (refine (plus_any d g DV.out.1 X5.out.1 (by rw [DV.out.2]; exact Nat.mod_lt _ ordN_pos) (by rw [X5.out.2]; exact Nat.mod_lt _ ordN_pos) _).mono ?_; rintro e w8 ⟨f, rfl, hf, hfv, hb8⟩; have E8 := Lib.hid (And.intro hf (hfv.trans (show (d.val + g.val) % ordN = (leN l * leN m + leN o) % ordN by rw [DV.out.2, X5.out.2, ← Nat.add_mod]; exact muladd_mod _ _ _ _))); have R8 := Lib.hid (heap_below R5.out hb8); have T8 := Lib.hid (there_below T5.out L5.out hb8); have B8 := Lib.hid (B5.out.trans (hb8.mono B5.out.size)); have L8 : Hid (w.heap.size + 3 < w8.heap.size) := Nat.lt_of_lt_of_le L5.out hb8.size; clear hf hfv hb8))
        refine ⟨rfl, ?_⟩
        apply AnyC.solo (i := 4) rfl (by kernel_rfl) R8.out
        go_wp2_with (go_at_call 28; go_must (refine (bytesOf_any f E8.out.1 _).mono ?_; rintro e w9 ⟨rfl, hb9⟩; rw [byteW_val E8.out.1, E8.out.2]; have R9 := Lib.hid (heap_below R8.out hb9); have B9 := Lib.hid (B8.out.trans (hb9.mono B8.out.size)); have Hth := Lib.hid (there_below T8.out L8.out hb9); clear hb9; obtain ⟨rs, hrs⟩ : ∃ rs, (bvs (toB ((leN l * leN m + leN o) % ordN))).toArray = rs := ⟨_, rfl⟩; rw [hrs]; have Hrs := Lib.hid hrs; have Hrz : Hid (rs.size = 32) := (by show rs.size = 32; rw [← hrs]; simp [bvs_length, toB_length]); clear hrs))
        refine ⟨rfl, ?_⟩
        apply AnyC.solo (i := 5) rfl (by kernel_rfl) R9.out
        go_wp2_with (refine wpList_store_mid rfl _ _ _ rfl (w.heap.size + 3) 0 rs rfl rfl (by rw [Hrz.out]; exact Hth.out) (by rw [Hrz.out]; kernel_rfl) (by rw [← Hrs.out]; exact all_oneCell_toArray (bvs_one _)) ?_)
        refine ⟨rfl, ?_⟩
        refine AnyC.done ((heap_setCells_ne LT.out.2.1 _ _ _).trans R9.out) (by kernel_rfl) ?_
        go_wp2
        have hld := ret32 Hth.out Hrz.out
        refine bodyPost_ret (v := .agg rs) (by simp [results, Tryd.results17, asAddr, hld]) rfl ⟨by rw [← Hrs.out], ?_⟩
        exact below_setCells _ _ _ B9.out (by omega)
      | succ k =>
        have e : ((k + 1 : Nat) : Int) - 1 = (k : Int) := by omega
        rw [e]
        have hm0 : (0 : Int) ≤ (k : Int) := by omega
        have hm8 : (k : Int) < 256 := by omega
        have hmq : k / 64 < 4 := by omega
        have Hmq := Lib.hid hmq
        have hbit := W4.bit h3.out.mp.xok (m := k) (by omega)
        have hand := and1_w (r := k % 64) (W4.wd_lt h3.out.mp.xok (k / 64))
        have hdl : d.val < ordN := by rw [hd.out.2]; exact Nat.mod_lt _ ordN_pos
        have Hdl := Lib.hid hdl
        obtain ⟨t, htd⟩ : ∃ t, t = x.wd (k / 64) / 2 ^ (k % 64) % 2 := ⟨_, rfl⟩
        rw [← htd] at hand hbit
        have Hbit := Lib.hid hbit
        have hq2 : t = 0 ∨ t = 1 := by omega
        clear e hbit hdl hmq htd
        have T0 : Hid True := trivial
        rcases hq2 with rfl | rfl
        · rw [show (((0 : Nat) : Int)) = 0 from rfl] at hand
          go_wp2_with (first
              | (go_at_call 30; first
                | (have hx_ := T1; refine (plus_any d2 y D2.out.1 h5.out.mp.yok D2.out.2.2 YLT.out _).mono ?_; rintro e w3 ⟨d3, rfl, hd3, hdv3, hb3⟩; have h6 := Lib.hid (h5.out.drew hb3); have D3 := Lib.hid (And.intro hd3 hdv3); have TH := Lib.hid (there_row (n := d3.cs.size) h6.out.row (Nat.le_refl 4)); have h7 := Lib.hid (Mz.put d3 h6.out); clear hd3 hdv3 hb3 T1 hx_)
                | (have hx_ := T0; refine (plus_any d d hd.out.1 hd.out.1 Hdl.out Hdl.out wr).mono ?_; rintro e w2 ⟨d2, rfl, hd2, hdv, hb2⟩; have h4 := Lib.hid (h3.out.drew hb2); rw [dbl_mul hd.out.2] at hdv; have D2 := Lib.hid (And.intro hd2 (And.intro hdv (show d2.val < ordN by rw [hdv]; exact Nat.mod_lt _ ordN_pos))); have h5 := Lib.hid (Mz.put d2 h4.out); have TH2 := Lib.hid (there_row (n := d2.cs.size) h4.out.row (Nat.le_refl 4)); have cu := h5.out.mp.xw Hmq.out; have T1 := hx_; clear hd2 hdv hb2 T0 hx_))
              | (refine wpList_load_arr rfl _ _ rfl b 0 rfl d.cs _ (by with_reducible exact range_row h3.out.row) Tryd.underlying48 rfl (by kernel_rfl) ?_)
              | (refine wpList_load_arr rfl _ _ rfl b 0 rfl d2.cs _ (by with_reducible exact range_row h5.out.row) Tryd.underlying48 rfl (by kernel_rfl) ?_)
              | (refine wpList_load_arr rfl _ _ rfl q 0 rfl y.cs _ (by with_reducible exact range_row h5.out.mp.qy) Tryd.underlying48 rfl (by kernel_rfl) ?_)
              | (refine wpList_store_mid rfl _ _ _ rfl b 0 d2.cs rfl rfl (by with_reducible exact TH2.out) (by kernel_rfl) (by kernel_rfl) ?_)
              | (refine wpList_store_mid rfl _ _ _ rfl b 0 d3.cs rfl rfl (by with_reducible exact TH.out) (by kernel_rfl) (by kernel_rfl) ?_))
          go_roundw
          case rel => exact ⟨k, d2, by omega, by go_num, ⟨D2.out.1, mul0 Hbit.out D2.out.2.1⟩, h5⟩
          case measure => simp [intOf]
        · rw [show (((1 : Nat) : Int)) = 1 from rfl] at hand
          go_wp2_with (first
              | (go_at_call 30; first
                | (have hx_ := T1; refine (plus_any d2 y D2.out.1 h5.out.mp.yok D2.out.2.2 YLT.out _).mono ?_; rintro e w3 ⟨d3, rfl, hd3, hdv3, hb3⟩; have h6 := Lib.hid (h5.out.drew hb3); have D3 := Lib.hid (And.intro hd3 hdv3); have TH := Lib.hid (there_row (n := d3.cs.size) h6.out.row (Nat.le_refl 4)); have h7 := Lib.hid (Mz.put d3 h6.out); clear hd3 hdv3 hb3 T1 hx_)
                | (have hx_ := T0; refine (plus_any d d hd.out.1 hd.out.1 Hdl.out Hdl.out wr).mono ?_; rintro e w2 ⟨d2, rfl, hd2, hdv, hb2⟩; have h4 := Lib.hid (h3.out.drew hb2); rw [dbl_mul hd.out.2] at hdv; have D2 := Lib.hid (And.intro hd2 (And.intro hdv (show d2.val < ordN by rw [hdv]; exact Nat.mod_lt _ ordN_pos))); have h5 := Lib.hid (Mz.put d2 h4.out); have TH2 := Lib.hid (there_row (n := d2.cs.size) h4.out.row (Nat.le_refl 4)); have cu := h5.out.mp.xw Hmq.out; have T1 := hx_; clear hd2 hdv hb2 T0 hx_))
              | (refine wpList_load_arr rfl _ _ rfl b 0 rfl d.cs _ (by with_reducible exact range_row h3.out.row) Tryd.underlying48 rfl (by kernel_rfl) ?_)
              | (refine wpList_load_arr rfl _ _ rfl b 0 rfl d2.cs _ (by with_reducible exact range_row h5.out.row) Tryd.underlying48 rfl (by kernel_rfl) ?_)
              | (refine wpList_load_arr rfl _ _ rfl q 0 rfl y.cs _ (by with_reducible exact range_row h5.out.mp.qy) Tryd.underlying48 rfl (by kernel_rfl) ?_)
              | (refine wpList_store_mid rfl _ _ _ rfl b 0 d2.cs rfl rfl (by with_reducible exact TH2.out) (by kernel_rfl) (by kernel_rfl) ?_)
              | (refine wpList_store_mid rfl _ _ _ rfl b 0 d3.cs rfl rfl (by with_reducible exact TH.out) (by kernel_rfl) (by kernel_rfl) ?_))
          go_roundw
          case rel => exact ⟨k, d3, by omega, by go_num, ⟨D3.out.1, mul1 Hbit.out D2.out.2.1 D3.out.2⟩, h7⟩
          case measure => simp [intOf]
end Go.Proofs.YtagjeideohplpaaDoor
