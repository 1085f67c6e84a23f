/- Elements of many cells: read out of a row, laid into one. No conditions. -/
import Derived.Test.YtdggibigfocadaaD6
namespace Go.Proofs.Ytdggibigfocadaa
open Go.RowKit
variable {w w' : World} {base g : Nat} {own : Nat → Prop} {s : DS} {S P : Value}
def layL : List Value → Nat → List Value → List Value
  | xs, _, [] => xs
  | xs, o, v :: vs => layL (xs.set o v) (o + 1) vs
theorem layL_behind : ∀ (vs a b : List Value) (o : Nat), layL (a ++ b) (a.length + o) vs = a ++ layL b o vs
  | [], _, _, _ => rfl
  | v :: vs, a, b, o => by
    simp only [layL]
    rw [List.set_append_right _ _ (by omega), show a.length + o - a.length = o from by omega, show a.length + o + 1 = a.length + (o + 1) from by omega]
    exact layL_behind vs a _ _
theorem layL_front : ∀ (vs a b : List Value), a.length = vs.length → layL (a ++ b) 0 vs = vs ++ b
  | [], [], b, h => rfl
  | [], x :: a, b, h => by simp at h
  | v :: vs, [], b, h => by simp at h
  | v :: vs, x :: a, b, h => by
    simp only [layL, List.cons_append, List.set_cons_zero]
    have h1 := layL_behind vs [v] (a ++ b) 0
    simp only [List.length_singleton, List.singleton_append] at h1
    rw [show 0 + 1 = 1 + 0 from rfl, h1, layL_front vs a b (by simpa using h)]
theorem layL_flat {α : Type} (f : α → List Value) (k : Nat) : ∀ (l : List α) (i : Nat) (d : α), (∀ x ∈ l, (f x).length = k) → (f d).length = k → i < l.length → layL (l.flatMap f) (i * k) (f d) = (l.set i d).flatMap f
  | [], _, _, _, _, h => by simp at h
  | x :: t, 0, d, hl, hd, _ => by
    simp only [List.flatMap_cons, List.set_cons_zero, Nat.zero_mul]
    exact layL_front _ _ _ ((hl x (by simp)).trans hd.symm)
  | x :: t, i + 1, d, hl, hd, h => by
    simp only [List.flatMap_cons, List.set_cons_succ]
    rw [show (i + 1) * k = (f x).length + i * k from by rw [hl x (by simp), Nat.succ_mul]; omega, layL_behind, layL_flat f k t i d (fun y hy => hl y (by simp [hy])) hd (by simpa using h)]
theorem flat_get {α : Type} (f : α → List Value) (k : Nat) : ∀ (l : List α) (i j : Nat) (x : α) (v : Value), (∀ x ∈ l, (f x).length = k) → l[i]? = some x → (f x)[j]? = some v → (l.flatMap f)[i * k + j]? = some v
  | [], _, _, _, _, _, h, _ => by simp at h
  | y :: t, 0, j, x, v, hl, hx, hv => by
    have hy : y = x := by simpa using hx
    subst hy
    have hj : j < (f y).length := by
      rcases Nat.lt_or_ge j (f y).length with h | h
      · exact h
      · rw [List.getElem?_eq_none h] at hv; cases hv
    rw [List.flatMap_cons, Nat.zero_mul, Nat.zero_add, List.getElem?_append_left hj]
    exact hv
  | y :: t, i + 1, j, x, v, hl, hx, hv => by
    have hy := hl y (by simp)
    rw [List.flatMap_cons, List.getElem?_append_right (by rw [hy, Nat.succ_mul]; omega), show (i + 1) * k + j - (f y).length = i * k + j from by rw [hy, Nat.succ_mul]; omega]
    exact flat_get f k t i j x v (fun z hz => hl z (by simp [hz])) (by simpa using hx) hv
theorem stored_many {base' : Nat} {e : TypeId} {size g' n cap : Nat} : ∀ (vs : List Value) (o : Nat) (w : World) (xs : List Value), w.ownsRow base' e size (.slice (some ⟨g', 0, none⟩) n cap) n xs →
    (w.setCells g' o vs).ownsRow base' e size (.slice (some ⟨g', 0, none⟩) n cap) n (layL xs o vs) ∧ w.grownBy (w.setCells g' o vs) (some g')
  | [], _, _, _, h => ⟨h, rfl, rfl, rfl, Nat.le_refl _, fun _ _ _ => rfl⟩
  | v :: vs, o, w, xs, h => by
    obtain ⟨h1, h2⟩ := h.stored o v
    obtain ⟨h3, h4⟩ := stored_many vs (o + 1) _ _ h1
    exact ⟨h3, h4.os.trans h2.os, h4.tape.trans h2.tape, h4.output.trans h2.output, Nat.le_trans h2.size h4.size, fun k hk hne => (h4.block k (Nat.lt_of_lt_of_le hk h2.size) hne).trans (h2.block k hk hne)⟩
theorem heap_size_setCells (b : Nat) : ∀ (vs : List Value) (o : Nat) (w : World), (w.setCells b o vs).heap.size = w.heap.size
  | [], _, _ => rfl
  | v :: vs, o, w => (heap_size_setCells b vs (o + 1) _).trans (by simp [World.setCell])

/-- A pending write is read. -/
theorem Dsk.pendAt (h : Dsk w base own g s S P) {k : Nat} {p : Nat × List UInt8} (hk : s.pend[k]? = some p) :
    ∃ gP c, P = .slice (some ⟨gP, 0, none⟩) s.pend.length c ∧ own gP ∧ gP < w.heap.size ∧ w.rangeAt gP (k * 65) (.int .i64 (p.1 : Int) :: bvs p.2) := by
  have hlt : k < s.pend.length := by
    rcases Nat.lt_or_ge k s.pend.length with h' | h'
    · exact h'
    · rw [List.getElem?_eq_none h'] at hk; cases hk
  obtain ⟨gP, c, hP, hb, hl⟩ := h.rowP.form (by omega)
  refine ⟨gP, c, hP, h.ownP _ (by rw [hP]; rfl), hl, fun j v hv => ?_⟩
  have hrow := h.rowP
  rw [hP] at hrow
  have hl65 : ∀ x ∈ s.pend, (Value.int .i64 (x.1 : Int) :: bvs x.2).length = 65 := fun x hx => by rw [List.length_cons, bvs_length, (h.ok.pend x hx).2]
  have hj : j < 65 := by
    rcases Nat.lt_or_ge j 65 with h' | h'
    · exact h'
    · rw [List.getElem?_eq_none (by rw [hl65 p (List.mem_of_getElem? hk)]; exact h')] at hv; cases hv
  rw [hrow.cellAt (k * 65 + j) (by have : (k + 1) * 65 ≤ s.pend.length * 65 := Nat.mul_le_mul_right _ hlt; omega)]
  exact flat_get _ 65 s.pend k j p v hl65 hk hv
/-- A sector is read. -/
theorem Dsk.secAt (h : Dsk w base own g s S P) {k : Nat} {d : List UInt8} (hk : s.secs[k]? = some d) :
    ∃ gS c, S = .slice (some ⟨gS, 0, none⟩) s.secs.length c ∧ own gS ∧ gS < w.heap.size ∧ w.rangeAt gS (k * 64) (bvs d) ∧ w.there gS (k * 64) 64 := by
  have hlt : k < s.secs.length := by
    rcases Nat.lt_or_ge k s.secs.length with h' | h'
    · exact h'
    · rw [List.getElem?_eq_none h'] at hk; cases hk
  obtain ⟨gS, c, hS, hb, hl⟩ := h.rowS.form (by omega)
  have hrow := h.rowS
  rw [hS] at hrow
  have hl64 : ∀ x ∈ s.secs, (bvs x).length = 64 := fun x hx => by rw [bvs_length, h.ok.secs x hx]
  have hd := hl64 d (List.mem_of_getElem? hk)
  have hle : (k + 1) * 64 ≤ s.secs.length * 64 := Nat.mul_le_mul_right _ hlt
  have hr : w.rangeAt gS (k * 64) (bvs d) := fun j v hv => by
    have hj : j < 64 := by
      rcases Nat.lt_or_ge j 64 with h' | h'
      · exact h'
      · rw [List.getElem?_eq_none (by omega)] at hv; cases hv
    rw [hrow.cellAt (k * 64 + j) (by omega)]
    exact flat_get bvs 64 s.secs k j d v hl64 hk hv
  refine ⟨gS, c, hS, h.ownS _ (by rw [hS]; rfl), hl, hr, fun j hj => ⟨?_, hrow.frozenAt _⟩⟩
  rw [hr j _ (List.getElem?_eq_getElem (by omega))]
  rfl
/-- A sector is written. -/
theorem Dsk.secSet (h : Dsk w base own g s S P) {k gS c : Nat} {d : List UInt8} (hS : S = .slice (some ⟨gS, 0, none⟩) s.secs.length c) (hk : k < s.secs.length) (hd : d.length = 64) :
    Dsk (w.setCells gS (k * 64) (bvs d)) base own g { s with secs := s.secs.set k d } S P ∧ Turns own w (w.setCells gS (k * 64) (bvs d)) := by
  have hrow := h.rowS
  rw [hS] at hrow
  obtain ⟨h1, h2⟩ := stored_many (bvs d) (k * 64) w _ hrow
  have ho : own gS := h.ownS _ (by rw [hS]; rfl)
  have hsz := heap_size_setCells gS (bvs d) (k * 64) w
  have hSb : S.ownBlock = some gS := by rw [hS]; rfl
  have hgg : gS ≠ g := fun e => h.gS (by rw [hSb, e])
  have hl64 : ∀ x ∈ s.secs, (bvs x).length = 64 := fun x hx => by rw [bvs_length, h.ok.secs x hx]
  refine ⟨⟨⟨?_, ?_, ?_⟩, ?_, ?_, ?_, h.ownG, h.ownS, h.ownP, ?_, h.gS, h.gP, h.sP⟩, ⟨h2.os, h2.tape, h2.output, by rw [hsz]; exact Nat.le_refl _, fun k hk hn => h2.block k hk (fun e => hn (by cases e; exact ho))⟩⟩
  · intro l hl
    rcases List.mem_or_eq_of_mem_set hl with hl | rfl
    · exact h.ok.secs l hl
    · exact hd
  · intro p hp
    rw [List.length_set]
    exact h.ok.pend p hp
  · rw [List.length_set]; exact h.ok.max
  · exact (h2.block g h.lt (fun e => hgg (by cases e; rfl))).trans h.blk
  · rw [List.length_set, show cellsS (s.secs.set k d) = layL (cellsS s.secs) (k * 64) (bvs d) from (layL_flat bvs 64 s.secs k d hl64 (by rw [bvs_length]; exact hd) hk).symm, hS]
    exact h1
  · refine World.ownsRow.kept h.rowP h2 ?_
    rcases h.sP with e | e
    · rw [e] at hSb; cases hSb
    · exact .inr (fun e' => e (by rw [e', hSb]))
  · intro k hk
    rw [hsz]
    exact h.bnd k hk
end Go.Proofs.Ytdggibigfocadaa
