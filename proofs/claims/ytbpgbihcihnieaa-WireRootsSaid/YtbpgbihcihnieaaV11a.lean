/- wire: DecodeRoot, its blocks. Printed by wip/genV11.py. No conditions. -/
import Derived.Test.YtbpgbihcihnieaaV10
import Derived.Test.YtbpgbihcihnieaaV6g
namespace Go.Proofs.Ytbpgbihcihnieaa
open Go.RowKit
/-- DecodeRoot's two roots: the answer's place, the one under way. -/
structure WB (w v : World) (Z C : Array Value) : Prop where
  below : Below w.heap.size w v
  t2 : v.heap[w.heap.size]? = some (.cells Z 47 (0, 0))
  s : v.heap[w.heap.size + 1]? = some (.cells C 47 (0, 0))
theorem WB.start (w : World) (Z : Array Value) : WB w ((w.alloc (.cells Z 47)).alloc (.cells Z 47)) Z Z := by
  refine ⟨((Below.refl _ _).alloc (Nat.le_refl _) _).alloc (by simp) _, ?_, ?_⟩
  · rw [Below.heap_alloc _ _ _ (by simp)]; exact heap_alloc_new w _
  · have h1 := heap_alloc_new (w.alloc (.cells Z 47)) (.cells Z 47)
    rw [show (w.alloc (.cells Z 47)).heap.size = w.heap.size + 1 from by simp] at h1
    exact h1
theorem WB.frm {w v v' : World} {Z C : Array Value} {ps : List Nat} (h : WB w v Z C) (hf : Frm ps v v') (hp : ∀ q ∈ ps, w.heap.size + 2 ≤ q) : WB w v' Z C :=
  ⟨h.below.trans (hf.below h.below.size (fun q hq => by have := hp q hq; omega)), hf.heap h.t2 (fun hq => by have := hp _ hq; omega), hf.heap h.s (fun hq => by have := hp _ hq; omega)⟩
theorem WB.put {w v v' : World} {Z C C' : Array Value} {ps : List Nat} (h : WB w v Z C) (hf : Frm ps v v') (hp : ∀ q ∈ ps, w.heap.size + 1 ≤ q) (hs : v'.heap[w.heap.size + 1]? = some (.cells C' 47 (0, 0))) : WB w v' Z C' :=
  ⟨h.below.trans (hf.below h.below.size (fun q hq => by have := hp q hq; omega)), hf.heap h.t2 (fun hq => by have := hp _ hq; omega), hs⟩
theorem put_size {C : Array Value} {x : List UInt8} {off n : Nat} (h : off + n ≤ C.size) : (C.toList.take off ++ bvs (x.take n) ++ C.toList.drop (off + Nat.min x.length n)).toArray.size = C.size := by
  have h1 : Nat.min x.length n ≤ n := Nat.min_le_right _ _
  have h2 : (bvs (x.take n)).length = Nat.min x.length n := by simp [bvs_length, Nat.min_comm]
  simp only [List.size_toArray, List.length_append, List.length_take, List.length_drop, Array.length_toList, h2]
  omega
theorem seg_put {pre old new post : List Value} {off n : Nat} (h1 : pre.length = off) (h2 : old.length = n) (_h3 : new.length = n) : (pre ++ (old ++ post)).take off ++ new ++ (pre ++ (old ++ post)).drop (off + n) = pre ++ (new ++ post) := by
  subst h1
  have e : pre.length + n = (pre ++ old).length := by simp [h2]
  rw [List.take_left, e, ← List.append_assoc pre old post, List.drop_left, List.append_assoc]
theorem three_set (C : Array Value) (a b c : Value) (r : List Value) (u0 u1 u2 : Value) (h : C = (u0 :: u1 :: u2 :: r).toArray) : ((C.setIfInBounds 0 a).setIfInBounds 1 b).setIfInBounds 2 c = (a :: b :: c :: r).toArray := by
  subst h
  simp
/-- All fields are as they must be: the root that was written. -/
theorem root_written {y f1 f2 f3 f4 f5 f6 : List UInt8} (hy : y.length = 64) (l4 : f4.length = 32) (l5 : f5.length = 32) (l6 : f6.length = 32) {C1 C2 C3 C4 C5 : Array Value}
    (h1 : C1 = (rootZ.cs.toList.take 99 ++ bvs (y.take 64) ++ rootZ.cs.toList.drop (99 + Nat.min y.length 64)).toArray)
    (h2 : C2 = ((C1.setIfInBounds 0 (.int .u64 (numV f1))).setIfInBounds 1 (.int .u64 (numV f2))).setIfInBounds 2 (.int .u64 (numV f3)))
    (h3 : C3 = (C2.toList.take 3 ++ bvs (f4.take 32) ++ C2.toList.drop (3 + Nat.min f4.length 32)).toArray)
    (h4 : C4 = (C3.toList.take 35 ++ bvs (f5.take 32) ++ C3.toList.drop (35 + Nat.min f5.length 32)).toArray)
    (h5 : C5 = (C4.toList.take 67 ++ bvs (f6.take 32) ++ C4.toList.drop (67 + Nat.min f6.length 32)).toArray) : C5 = (RootV.mk (numV f1) (numV f2) (numV f3) f4 f5 f6 y).cs := by
  have z : (bvs (List.replicate 32 0)).length = 32 := by simp [bvs_length]
  rw [hy, show rootZ.cs = (RootV.mk 0 0 0 (List.replicate 32 0) (List.replicate 32 0) (List.replicate 32 0) (List.replicate 64 0)).cs from rfl, root_sig (by simp) (by simp) (by simp) hy] at h1
  rw [three_set C1 _ _ _ (bvs (List.replicate 32 0) ++ (bvs (List.replicate 32 0) ++ (bvs (List.replicate 32 0) ++ bvs y))) _ _ _ h1] at h2
  have e2 : C2.toList = [.int .u64 (numV f1), .int .u64 (numV f2), .int .u64 (numV f3)] ++ (bvs (List.replicate 32 0) ++ (bvs (List.replicate 32 0) ++ (bvs (List.replicate 32 0) ++ bvs y))) := by rw [h2]; rfl
  rw [l4, show Nat.min 32 32 = 32 from rfl, e2, List.take_of_length_le (l := f4) (by omega), seg_put (off := 3) (n := 32) rfl z (by rw [bvs_length, l4])] at h3
  have e3 : C3.toList = ([.int .u64 (numV f1), .int .u64 (numV f2), .int .u64 (numV f3)] ++ bvs f4) ++ (bvs (List.replicate 32 0) ++ (bvs (List.replicate 32 0) ++ bvs y)) := by rw [h3, List.append_assoc]
  rw [l5, show Nat.min 32 32 = 32 from rfl, e3, List.take_of_length_le (l := f5) (by omega), seg_put (off := 35) (n := 32) (by rw [List.length_append, bvs_length, l4]; rfl) z (by rw [bvs_length, l5])] at h4
  have e4 : C4.toList = (([.int .u64 (numV f1), .int .u64 (numV f2), .int .u64 (numV f3)] ++ bvs f4) ++ bvs f5) ++ (bvs (List.replicate 32 0) ++ bvs y) := by rw [h4, ← List.append_assoc]
  rw [l6, show Nat.min 32 32 = 32 from rfl, e4, List.take_of_length_le (l := f6) (by omega), seg_put (off := 67) (n := 32) (by rw [List.length_append, List.length_append, bvs_length, bvs_length, l4, l5]; rfl) z (by rw [bvs_length, l6])] at h5
  rw [h5]
  simp [RootV.cs, RootV.vs]
theorem three_at {w : World} {b : Nat} {C : Array Value} {t : TypeId} {f : Nat × Nat} (h : w.heap[b]? = some (.cells C t f)) (h3 : 3 ≤ C.size) : ∃ u0 u1 u2, w.cell? ⟨b, 0, none⟩ = some u0 ∧ w.cell? ⟨b, 1, none⟩ = some u1 ∧ w.cell? ⟨b, 2, none⟩ = some u2 := by
  refine ⟨C[0], C[1], C[2], ?_, ?_, ?_⟩ <;> rw [cell_of_row w b _ _ _ _ h] <;> simp
theorem three_put {w v : World} {Z C : Array Value} {f1 f2 f3 : List UInt8} (h : WB w v Z C) : WB w (((v.setCell ⟨w.heap.size + 1, 0, none⟩ (.int .u64 (numV f1))).setCell ⟨w.heap.size + 1, 1, none⟩ (.int .u64 (numV f2))).setCell ⟨w.heap.size + 1, 2, none⟩ (.int .u64 (numV f3))) Z (((C.setIfInBounds 0 (.int .u64 (numV f1))).setIfInBounds 1 (.int .u64 (numV f2))).setIfInBounds 2 (.int .u64 (numV f3))) ∧
    Frm [w.heap.size + 1] v (((v.setCell ⟨w.heap.size + 1, 0, none⟩ (.int .u64 (numV f1))).setCell ⟨w.heap.size + 1, 1, none⟩ (.int .u64 (numV f2))).setCell ⟨w.heap.size + 1, 2, none⟩ (.int .u64 (numV f3))) := by
  have h1 := heap_setCell_same v (w.heap.size + 1) 0 _ _ (.int .u64 (numV f1)) h.s
  have h2 := heap_setCell_same _ (w.heap.size + 1) 1 _ _ (.int .u64 (numV f2)) h1
  have h3 := heap_setCell_same _ (w.heap.size + 1) 2 _ _ (.int .u64 (numV f3)) h2
  have hf := ((Frm.setCell v (w.heap.size + 1) 0 (.int .u64 (numV f1))).trans (Frm.setCell _ (w.heap.size + 1) 1 (.int .u64 (numV f2)))).trans (Frm.setCell _ (w.heap.size + 1) 2 (.int .u64 (numV f3)))
  exact ⟨h.put hf (by simp) h3, hf⟩
end Go.Proofs.Ytbpgbihcihnieaa
