/- Arrays as numbers: what the laws use. No conditions. -/
import Derived.Test.YtagjeideohplpaaDoorS12
namespace Go.Proofs.YtagjeideohplpaaDoor
open Go.RowKit
/-- An array of 32 bytes, as a number. -/
def Num (xs : Array Value) (n : Nat) : Prop := ∃ l : List UInt8, l.length = 32 ∧ xs = (bvs l).toArray ∧ leN l = n
theorem Num.size {xs : Array Value} {n : Nat} (h : Num xs n) : xs.size = 32 := by
  obtain ⟨l, hl, rfl, _⟩ := h
  simp [bvs_length, hl]
theorem Num.cells {xs : Array Value} {n : Nat} (h : Num xs n) : (xs.all fun x => x.oneCell') = true := by
  obtain ⟨l, hl, rfl, _⟩ := h
  exact all_oneCell_toArray (bvs_one _)
theorem Num.of {l : List UInt8} (h : l.length = 32) : Num (bvs l).toArray (leN l) := ⟨l, h, rfl, rfl⟩
theorem Num.lt {xs : Array Value} {n : Nat} (h : Num xs n) : n < 115792089237316195423570985008687907853269984665640564039457584007913129639936 := by
  obtain ⟨l, hl, _, rfl⟩ := h
  exact leN32 hl
theorem Num.toB {v : Nat} (h : v < 115792089237316195423570985008687907853269984665640564039457584007913129639936) : Num (bvs (toB v)).toArray v := ⟨_, toB_length v, rfl, leN_toB h⟩
theorem ordN_lt : ordN < 115792089237316195423570985008687907853269984665640564039457584007913129639936 := by decide
theorem mod_lt_full (v : Nat) : v % ordN < 115792089237316195423570985008687907853269984665640564039457584007913129639936 := Nat.lt_trans (Nat.mod_lt _ ordN_pos) ordN_lt
def NumRet (n : Nat) (w : World) (e : Ending) (w' : World) : Prop := ∃ rs, e = .returned (.agg rs) ∧ Num rs n ∧ Below w.heap.size w w'
theorem NumRet.of {v : Nat} {w : World} {e : Ending} {w' : World} (hv : v < 115792089237316195423570985008687907853269984665640564039457584007913129639936) (h : BytesPost (Go.Proofs.YtagjeideohplpaaDoor.toB v) w e w') : NumRet v w e w' := ⟨_, h.1, Num.toB hv, h.2⟩
theorem Add_n {xs ys : Array Value} {a b : Nat} (hx : Num xs a) (hy : Num ys b) (w : World) (ho : Ord w) : Calls Tryd.prog 10 #[.agg xs, .agg ys] w (NumRet ((a + b) % ordN) w) := by
  obtain ⟨l, hl, rfl, rfl⟩ := hx
  obtain ⟨m, hm, rfl, rfl⟩ := hy
  exact (Add_any l m hl hm w ho).mono fun _ _ h => NumRet.of (mod_lt_full _) h
theorem Neg_n {xs : Array Value} {a : Nat} (hx : Num xs a) (w : World) (ho : Ord w) : Calls Tryd.prog 11 #[.agg xs] w (NumRet (negN a) w) := by
  obtain ⟨l, hl, rfl, rfl⟩ := hx
  exact (Neg_any l hl w ho).mono fun _ _ h => NumRet.of (mod_lt_full _) h
theorem MulAdd_n {xs ys us : Array Value} {a b c : Nat} (hx : Num xs a) (hy : Num ys b) (hu : Num us c) (w : World) (ho : Ord w) : Calls Tryd.prog 9 #[.agg xs, .agg ys, .agg us] w (NumRet ((a * b + c) % ordN) w) := by
  obtain ⟨l, hl, rfl, rfl⟩ := hx
  obtain ⟨m, hm, rfl, rfl⟩ := hy
  obtain ⟨o, hn, rfl, rfl⟩ := hu
  exact (MulAdd_any l m o hl hm hn w ho).mono fun _ _ h => NumRet.of (mod_lt_full _) h
theorem Canonical_n {xs : Array Value} {a : Nat} (hx : Num xs a) (w : World) (ho : Ord w) : Calls Tryd.prog 12 #[.agg xs] w (fun e w' => e = .returned (.bool (decide (a < ordN))) ∧ Below w.heap.size w w') := by
  obtain ⟨l, hl, rfl, rfl⟩ := hx
  exact Canonical_any l hl w ho
theorem Reduce_n (l : List UInt8) (hl : l.length = 64) {n : Nat} (hn : leN l = n) (w : World) (ho : Ord w) : Calls Tryd.prog 8 #[.agg (bvs l).toArray] w (NumRet (n % ordN) w) := by
  subst hn
  exact (Reduce_any l hl w ho).mono fun _ _ h => NumRet.of (mod_lt_full _) h
theorem eq_n {xs ys : Array Value} {a b : Nat} (hx : Num xs a) (hy : Num ys b) (w : World) : (Op.equalIn 10000 22 (.agg xs) (.agg ys)).run Tryd.prog w = .ok (decide (a = b)) w := by
  obtain ⟨l, hl, rfl, rfl⟩ := hx
  obtain ⟨m, hm, rfl, rfl⟩ := hy
  rw [eq32 9998 _ _ hl hm w]
  congr 1
  by_cases h : leN l = leN m
  · rw [leN_inj (hl.trans hm.symm) h]; simp
  · rw [decide_eq_false h]
    have : l ≠ m := fun e => h (by rw [e])
    simpa using this
theorem eq_true {xs ys : Array Value} {a b : Nat} (hx : Num xs a) (hy : Num ys b) (h : a = b) : ∀ w, (Op.equalIn 10000 22 (.agg xs) (.agg ys)).run Tryd.prog w = .ok true w := fun w => by
  rw [eq_n hx hy w, decide_eq_true h]
theorem zeroN : ∃ zs : Array Value, Num zs 0 ∧ (∀ w, (zeroValue 22).run Tryd.prog w = .ok (.agg zs) w) := ⟨_, Num.of (l := List.replicate 32 0) (by simp), fun w => by kernel_rfl⟩
/-- Arrays where they lie. -/
def Lb (bs : List (Nat × Array Value)) (w : World) : Prop := ∀ e ∈ bs, e.1 < w.heap.size ∧ w.rangeAt e.1 0 e.2.toList
theorem Lb.of {bs : List (Nat × Array Value)} {w : World} {t : TypeId} (h : ∀ e ∈ bs, w.heap[e.1]? = some (.cells e.2 t (0, 0))) : Lb bs w := fun e he => ⟨lt_of_heap (h e he), range_row (h e he)⟩
theorem Lb.below {bs : List (Nat × Array Value)} {w w' : World} (h : Lb bs w) (hb : Below w.heap.size w w') : Lb bs w' := fun e he => by
  obtain ⟨h1, h2⟩ := h e he
  exact ⟨Nat.lt_of_lt_of_le h1 hb.size, fun j v hv => (hb.cell (p := ⟨e.1, 0 + j, none⟩) h1).trans (h2 j v hv)⟩
theorem Lb.range {bs : List (Nat × Array Value)} {w : World} (h : Lb bs w) {b : Nat} {xs : Array Value} (hm : (b, xs) ∈ bs) : w.rangeAt b 0 xs.toList := (h _ hm).2
theorem wpList_load_box {ops : Array Oper} {rest : List Oper} {op : Oper} {a : Act} {w : World} {Q : Exit → Act → World → Prop} {bs : List (Nat × Array Value)} (hC : Lb bs w) (hw : Region.wanted op (yielded ops a.tmps) = true) (x : Operand) (ho : op.op = .load 22 x)
    (b : Nat) (xs : Array Value) (hm : (b, xs) ∈ bs) (hs : xs.size = 32) (hx : a.eval x = .pointer (some ⟨b, 0, none⟩)) {d : Nat} (hd : op.dst = some d)
    (h : wpList Tryd.prog ops Q rest { a with tmps := a.tmps.setIfInBounds d (.agg xs) } w) : wpList Tryd.prog ops Q (op :: rest) a w := by
  unfold wpList
  rw [if_pos hw]
  refine .inl (wp_load_mid 22 x ho b 0 hx xs.toList _ (hC.range hm) Tryd.underlying22 rfl (by rw [Array.length_toList, hs]; kernel_rfl) ?_)
  rw [Array.toArray_toList, hd]
  exact h
/-- The boxes of up to three arguments. -/
theorem Lb.three {w : World} {xs ys us : Array Value} : Lb [(w.heap.size, xs), (w.heap.size + 1, ys), (w.heap.size + 2, us)] (((w.alloc (.cells xs 22)).alloc (.cells ys 22)).alloc (.cells us 22)) ∧ Below w.heap.size w (((w.alloc (.cells xs 22)).alloc (.cells ys 22)).alloc (.cells us 22)) ∧ (((w.alloc (.cells xs 22)).alloc (.cells ys 22)).alloc (.cells us 22)).heap.size = w.heap.size + 3 := by
  refine ⟨Lb.of (t := 22) fun e he => ?_, (((Below.refl _ _).alloc (Nat.le_refl _) _).alloc (by simp) _).alloc (by simp; omega) _, by simp⟩
  simp only [List.mem_cons, List.not_mem_nil, or_false] at he
  obtain rfl | rfl | rfl := he
  · show (World.alloc _ _).heap[w.heap.size]? = _
    rw [Below.heap_alloc _ _ _ (by simp <;> omega), Below.heap_alloc _ _ _ (by simp)]; exact heap_alloc_new w _
  · show (World.alloc _ _).heap[w.heap.size + 1]? = _
    rw [Below.heap_alloc _ _ _ (by simp)]
    have h1 := heap_alloc_new (w.alloc (.cells xs 22)) (.cells ys 22)
    rw [show (w.alloc (.cells xs 22)).heap.size = w.heap.size + 1 from by simp] at h1
    exact h1
  · show (World.alloc _ _).heap[w.heap.size + 2]? = _
    have h1 := heap_alloc_new ((w.alloc (.cells xs 22)).alloc (.cells ys 22)) (.cells us 22)
    rw [show ((w.alloc (.cells xs 22)).alloc (.cells ys 22)).heap.size = w.heap.size + 2 from by simp] at h1
    exact h1
theorem Lb.two {w : World} {xs ys : Array Value} : Lb [(w.heap.size, xs), (w.heap.size + 1, ys)] ((w.alloc (.cells xs 22)).alloc (.cells ys 22)) ∧ Below w.heap.size w ((w.alloc (.cells xs 22)).alloc (.cells ys 22)) ∧ ((w.alloc (.cells xs 22)).alloc (.cells ys 22)).heap.size = w.heap.size + 2 := by
  refine ⟨Lb.of (t := 22) fun e he => ?_, ((Below.refl _ _).alloc (Nat.le_refl _) _).alloc (by simp) _, by simp⟩
  simp only [List.mem_cons, List.not_mem_nil, or_false] at he
  obtain rfl | rfl := he
  · show (World.alloc _ _).heap[w.heap.size]? = _
    rw [Below.heap_alloc _ _ _ (by simp)]; exact heap_alloc_new w _
  · show (World.alloc _ _).heap[w.heap.size + 1]? = _
    have h1 := heap_alloc_new (w.alloc (.cells xs 22)) (.cells ys 22)
    rw [show (w.alloc (.cells xs 22)).heap.size = w.heap.size + 1 from by simp] at h1
    exact h1
/-- One more box, made and filled. -/
theorem Lb.push {bs : List (Nat × Array Value)} {w : World} {zs ys : Array Value} {t : TypeId} (h : Lb bs w) (hz : zs.size = ys.size) : Lb ((w.heap.size, ys) :: bs) ((w.alloc (.cells zs t)).setCells w.heap.size 0 ys.toList) := fun e he => by
  have hb : Below w.heap.size w ((w.alloc (.cells zs t)).setCells w.heap.size 0 ys.toList) := below_setCells _ _ _ ((Below.refl _ _).alloc (Nat.le_refl _) _) (Nat.le_refl _)
  rcases List.mem_cons.1 he with rfl | he
  · refine ⟨?_, World.rangeAt_setCells_same _ _ _ _ (there_new w zs t _ (by rw [Array.length_toList, hz]; omega))⟩
    have h2 : (w.alloc (.cells zs t)).heap.size ≤ ((w.alloc (.cells zs t)).setCells w.heap.size 0 ys.toList).heap.size := (below_setCells (B := 0) _ _ _ (Below.refl 0 (w.alloc (.cells zs t))) (Nat.zero_le _)).size
    simp at h2
    show w.heap.size < _
    omega
  · exact (h.below hb) e he
end Go.Proofs.YtagjeideohplpaaDoor
