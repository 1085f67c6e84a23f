/- json: the parser's state in memory; fail, next, must, rest. No conditions. -/
import Derived.Test.YtkbopeoaoakfnaaDoorG2
import Derived.Test.YtkbopeoaoakfnaaDoorQt
import Derived.Test.YtkbopeoaoakfnaaDoorJP1
namespace Go.Proofs.YtkbopeoaoakfnaaDoor
open Go.RowKit
def FaultAt (w : World) (base g : Nat) (p : Value) : Option (Int × Int) → Prop
  | none => p = .pointer none
  | some (a, e) => ∃ f, p = .pointer (some ⟨f, 0, none⟩) ∧ base ≤ f ∧ f ≠ g ∧ w.heap[f]? = some (.cells #[.int .i64 a, .int .i64 e] 84 (0, 0))
/-- The parser of s at block g. -/
def Ps (w : World) (base g : Nat) (s : List UInt8) (st : PS) : Prop :=
  ∃ p, w.heap[g]? = some (.cells #[.string ⟨s.toArray⟩, .int .i64 (st.at_ : Int), .int .i64 st.depth, p] 80 (0, 0)) ∧ base ≤ g ∧ st.at_ ≤ s.length ∧ FaultAt w base g p st.fault
/-- The blocks of own may have been written; every other one is as it was. -/
structure Turn (g : Nat) (w w' : World) : Prop where
  os : w'.os = w.os
  tape : w'.tape = w.tape
  output : w'.output = w.output
  size : w.heap.size ≤ w'.heap.size
  block : ∀ k, k < w.heap.size → k ≠ g → w'.heap[k]? = w.heap[k]?
theorem Turn.refl (g : Nat) (w : World) : Turn g w w := ⟨rfl, rfl, rfl, Nat.le_refl _, fun _ _ _ => rfl⟩
theorem Turn.trans {g : Nat} {a b c : World} (h : Turn g a b) (h' : Turn g b c) : Turn g a c :=
  ⟨h'.os.trans h.os, h'.tape.trans h.tape, h'.output.trans h.output, Nat.le_trans h.size h'.size, fun k hk hn => (h'.block k (Nat.lt_of_lt_of_le hk h.size) hn).trans (h.block k hk hn)⟩
theorem Turn.of_below {g : Nat} {w w' : World} (h : Below w.heap.size w w') : Turn g w w' := ⟨h.os, h.tape, h.output, h.size, fun k hk _ => h.block k hk⟩
theorem Turn.setCell {g j : Nat} {a w : World} (h : Turn g a w) (v : Value) : Turn g a (w.setCell ⟨g, j, none⟩ v) :=
  ⟨h.os, h.tape, h.output, by simp [World.setCell]; exact h.size, fun k hk hn => (Below.heap_setCell _ _ _ _ hn).trans (h.block k hk hn)⟩
theorem Turn.drewN {g : Nat} {a w : World} (h : Turn g a w) (n : Nat) : Turn g a (w.drewN n) := ⟨h.os, h.tape, h.output, h.size, h.block⟩
section
variable {w w' : World} {base g : Nat} {s : List UInt8} {st : PS}
/-- Below B only the parser's block was written through. -/
structure TurnB (B g : Nat) (w w' : World) : Prop where
  os : w'.os = w.os
  tape : w'.tape = w.tape
  output : w'.output = w.output
  size : w.heap.size ≤ w'.heap.size
  block : ∀ k, k < B → k ≠ g → w'.heap[k]? = w.heap[k]?
theorem TurnB.refl (B g : Nat) (w : World) : TurnB B g w w := ⟨rfl, rfl, rfl, Nat.le_refl _, fun _ _ _ => rfl⟩
theorem TurnB.trans {B g : Nat} {a b c : World} (h : TurnB B g a b) (h' : TurnB B g b c) : TurnB B g a c :=
  ⟨h'.os.trans h.os, h'.tape.trans h.tape, h'.output.trans h.output, Nat.le_trans h.size h'.size, fun k hk hn => (h'.block k hk hn).trans (h.block k hk hn)⟩
theorem TurnB.of_below {B g : Nat} {w w' : World} (h : Below B w w') : TurnB B g w w' := ⟨h.os, h.tape, h.output, h.size, fun k hk _ => h.block k hk⟩
theorem Turn.toB {B g : Nat} {w w' : World} (h : Turn g w w') (hB : B ≤ w.heap.size) : TurnB B g w w' := ⟨h.os, h.tape, h.output, h.size, fun k hk hn => h.block k (by omega) hn⟩
theorem TurnB.turn {g : Nat} {w w' : World} (h : TurnB w.heap.size g w w') : Turn g w w' := ⟨h.os, h.tape, h.output, h.size, h.block⟩
theorem Ps.below (h : Ps w base g s st) (hb : Below w.heap.size w w') : Ps w' base g s st := by
  obtain ⟨p, h1, h2, h3, h4⟩ := h
  refine ⟨p, heap_below h1 hb, h2, h3, ?_⟩
  revert h4
  cases st.fault with
  | none => exact id
  | some x => rintro ⟨f, e, h5, h6, h7⟩; exact ⟨f, e, h5, h6, heap_below h7 hb⟩
theorem Ps.drewN (h : Ps w base g s st) (n : Nat) : Ps (w.drewN n) base g s st := h
theorem Ps.at_ (h : Ps w base g s st) : w.cell? ⟨g, 0, none⟩ = some (.string ⟨s.toArray⟩) ∧ w.cell? ⟨g, 1, none⟩ = some (.int .i64 (st.at_ : Int)) ∧ w.cell? ⟨g, 2, none⟩ = some (.int .i64 st.depth) := by
  obtain ⟨p, h1, _⟩ := h
  exact ⟨cell_of_row _ _ _ _ _ _ h1, cell_of_row _ _ _ _ _ _ h1, cell_of_row _ _ _ _ _ _ h1⟩
theorem Ps.none_ (h : Ps w base g s st) (hf : st.fault = none) : w.cell? ⟨g, 3, none⟩ = some (.pointer none) := by
  obtain ⟨p, h1, _, _, h4⟩ := h
  rw [hf] at h4
  have h5 : p = .pointer none := h4
  subst h5
  exact cell_of_row _ _ _ _ _ _ h1
theorem Ps.some_ (h : Ps w base g s st) {a e : Int} (hf : st.fault = some (a, e)) : ∃ f, w.cell? ⟨g, 3, none⟩ = some (.pointer (some ⟨f, 0, none⟩)) ∧ w.cell? ⟨f, 0, none⟩ = some (.int .i64 a) ∧ w.cell? ⟨f, 1, none⟩ = some (.int .i64 e) := by
  obtain ⟨p, h1, _, _, h4⟩ := h
  rw [hf] at h4
  obtain ⟨f, rfl, _, _, h7⟩ := h4
  exact ⟨f, cell_of_row _ _ _ _ _ _ h1, cell_of_row _ _ _ _ _ _ h7, cell_of_row _ _ _ _ _ _ h7⟩
theorem Ps.unfrozen (h : Ps w base g s st) : ∀ i, w.frozen? ⟨g, i, none⟩ = false := by
  obtain ⟨p, h1, _⟩ := h
  intro i
  exact frozen_row h1 i
set_option maxRecDepth 100000 in
set_option maxHeartbeats 1000000 in
theorem fail_any (h : Ps w base g s st) (hb : base ≤ w.heap.size) (a e : Int) : Calls Tryd.prog 33 #[.pointer (some ⟨g, 0, none⟩), .int .i64 a, .int .i64 e] w fun x w' => x = .returned (.tuple #[]) ∧ Ps w' base g s (st.fail a e) ∧ Turn g w w' := by
  have hfz := h.unfrozen
  have H := Lib.hid h
  have HB := Lib.hid hb
  cases hf : st.fault with
  | none =>
    have c3 := h.none_ hf
    have hfo := fun o => (h.below ((Below.refl _ _).alloc (Nat.le_refl _) o)).unfrozen 3
    have hco := fun o => (h.below ((Below.refl _ _).alloc (Nat.le_refl _) o)).none_ hf
    clear h hb
    go_enter Tryd.func33, Tryd.ntmps33
    go_wp2
    first
      | go_end0
      | (refine bodyPost_ret (results_none rfl _ _ _) rfl ?_)
    refine ⟨rfl, ?_, (Turn.of_below ((Below.refl _ _).alloc (Nat.le_refl _) _)).setCell _⟩
    obtain ⟨p, h1, h2, h3, h4⟩ := H.out
    have hlt := lt_of_heap h1
    have h5 := heap_below h1 ((Below.refl _ _).alloc (Nat.le_refl _) (.cells #[.int .i64 a, .int .i64 e] 84))
    have e1 : st.fail a e = { st with fault := some (a, e) } := by unfold PS.fail; rw [hf]
    rw [e1]
    refine ⟨.pointer (some ⟨w.heap.size, 0, none⟩), heap_setCell_same _ _ _ _ _ _ h5, h2, h3, w.heap.size, rfl, HB.out, by omega, ?_⟩
    exact (heap_setCell_other _ _ _ _ (show w.heap.size ≠ g by omega)).trans (heap_alloc_new w _)
  | some x =>
    obtain ⟨a0, e0⟩ := x
    obtain ⟨f, c3, _, _⟩ := h.some_ hf
    clear h hb
    go_enter Tryd.func33, Tryd.ntmps33
    go_wp2
    first
      | go_end0
      | (refine bodyPost_ret (results_none rfl _ _ _) rfl ?_)
    have e1 : st.fail a e = st := by unfold PS.fail; rw [hf]
    rw [e1]
    exact ⟨rfl, H.out, Turn.refl _ _⟩
end
end Go.Proofs.YtkbopeoaoakfnaaDoor
