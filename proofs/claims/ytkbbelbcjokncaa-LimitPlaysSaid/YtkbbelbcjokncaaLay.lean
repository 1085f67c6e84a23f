/- Elements of many cells, whatever they are. No conditions. -/
import Derived.Test.YtkbbelbcjokncaaMem
import Derived.Deep.MidRow
namespace Go.Proofs.Ytkbbelbcjokncaa
open Go.RowKit
def layL : List Value → Nat → List Value → List Value
  | xs, _, [] => xs
  | xs, o, v :: vs => layL (xs.set o v) (o + 1) vs
theorem layL_behind : ∀ (vs a b : List Value) (o : Nat), layL (a ++ b) (a.length + o) vs = a ++ layL b o vs
  | [], _, _, _ => rfl
  | v :: vs, a, b, o => by
    simp only [layL]
    rw [List.set_append_right _ _ (by omega), show a.length + o - a.length = o from by omega, show a.length + o + 1 = a.length + (o + 1) from by omega]
    exact layL_behind vs a _ _
theorem layL_front : ∀ (vs a b : List Value), a.length = vs.length → layL (a ++ b) 0 vs = vs ++ b
  | [], [], b, h => rfl
  | [], x :: a, b, h => by simp at h
  | v :: vs, [], b, h => by simp at h
  | v :: vs, x :: a, b, h => by
    simp only [layL, List.cons_append, List.set_cons_zero]
    have h1 := layL_behind vs [v] (a ++ b) 0
    simp only [List.length_singleton, List.singleton_append] at h1
    rw [show 0 + 1 = 1 + 0 from rfl, h1, layL_front vs a b (by simpa using h)]
theorem layL_flat {α : Type} (f : α → List Value) (k : Nat) : ∀ (l : List α) (i : Nat) (d : α), (∀ x ∈ l, (f x).length = k) → (f d).length = k → i < l.length → layL (l.flatMap f) (i * k) (f d) = (l.set i d).flatMap f
  | [], _, _, _, _, h => by simp at h
  | x :: t, 0, d, hl, hd, _ => by
    simp only [List.flatMap_cons, List.set_cons_zero, Nat.zero_mul]
    exact layL_front _ _ _ ((hl x (by simp)).trans hd.symm)
  | x :: t, i + 1, d, hl, hd, h => by
    simp only [List.flatMap_cons, List.set_cons_succ]
    rw [show (i + 1) * k = (f x).length + i * k from by rw [hl x (by simp), Nat.succ_mul]; omega, layL_behind, layL_flat f k t i d (fun y hy => hl y (by simp [hy])) hd (by simpa using h)]
theorem flat_get {α : Type} (f : α → List Value) (k : Nat) : ∀ (l : List α) (i j : Nat) (x : α) (v : Value), (∀ x ∈ l, (f x).length = k) → l[i]? = some x → (f x)[j]? = some v → (l.flatMap f)[i * k + j]? = some v
  | [], _, _, _, _, _, h, _ => by simp at h
  | y :: t, 0, j, x, v, hl, hx, hv => by
    have hy : y = x := by simpa using hx
    subst hy
    have hj : j < (f y).length := by
      rcases Nat.lt_or_ge j (f y).length with h | h
      · exact h
      · rw [List.getElem?_eq_none h] at hv; cases hv
    rw [List.flatMap_cons, Nat.zero_mul, Nat.zero_add, List.getElem?_append_left hj]
    exact hv
  | y :: t, i + 1, j, x, v, hl, hx, hv => by
    have hy := hl y (by simp)
    rw [List.flatMap_cons, List.getElem?_append_right (by rw [hy, Nat.succ_mul]; omega), show (i + 1) * k + j - (f y).length = i * k + j from by rw [hy, Nat.succ_mul]; omega]
    exact flat_get f k t i j x v (fun z hz => hl z (by simp [hz])) (by simpa using hx) hv
theorem stored_many {base' : Nat} {e : TypeId} {size g' n cap : Nat} : ∀ (vs : List Value) (o : Nat) (w : World) (xs : List Value), w.ownsRow base' e size (.slice (some ⟨g', 0, none⟩) n cap) n xs →
    (w.setCells g' o vs).ownsRow base' e size (.slice (some ⟨g', 0, none⟩) n cap) n (layL xs o vs) ∧ w.grownBy (w.setCells g' o vs) (some g')
  | [], _, _, _, h => ⟨h, rfl, rfl, rfl, Nat.le_refl _, fun _ _ _ => rfl⟩
  | v :: vs, o, w, xs, h => by
    obtain ⟨h1, h2⟩ := h.stored o v
    obtain ⟨h3, h4⟩ := stored_many vs (o + 1) _ _ h1
    exact ⟨h3, h4.os.trans h2.os, h4.tape.trans h2.tape, h4.output.trans h2.output, Nat.le_trans h2.size h4.size, fun k hk hne => (h4.block k (Nat.lt_of_lt_of_le hk h2.size) hne).trans (h2.block k hk hne)⟩
theorem heap_size_setCells (b : Nat) : ∀ (vs : List Value) (o : Nat) (w : World), (w.setCells b o vs).heap.size = w.heap.size
  | [], _, _ => rfl
  | v :: vs, o, w => (heap_size_setCells b vs (o + 1) _).trans (by simp [World.setCell])

end Go.Proofs.Ytkbbelbcjokncaa
