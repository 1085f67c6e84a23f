/- Frames of a few blocks; copy into a row. No conditions. -/
import Derived.Test.YtkbopeoaoakfnaaDoorG1
import Derived.Laws.CopyRow
import Derived.Laws.IdiomCopy
namespace Go.Proofs.YtkbopeoaoakfnaaDoor
open Go.RowKit
/-- Only the blocks of ps have been written through; others were made. -/
structure Frm (ps : List Nat) (w w' : World) : Prop where
  os : w'.os = w.os
  tape : w'.tape = w.tape
  output : w'.output = w.output
  size : w.heap.size ≤ w'.heap.size
  block : ∀ k, k < w.heap.size → k ∉ ps → w'.heap[k]? = w.heap[k]?
theorem Frm.refl (ps : List Nat) (w : World) : Frm ps w w := ⟨rfl, rfl, rfl, Nat.le_refl _, fun _ _ _ => rfl⟩
theorem Frm.trans {ps : List Nat} {a b c : World} (h : Frm ps a b) (k : Frm ps b c) : Frm ps a c :=
  ⟨k.os.trans h.os, k.tape.trans h.tape, k.output.trans h.output, Nat.le_trans h.size k.size, fun i hi hn => (k.block i (Nat.lt_of_lt_of_le hi h.size) hn).trans (h.block i hi hn)⟩
theorem Frm.more {ps qs : List Nat} {w w' : World} (h : Frm ps w w') (hs : ∀ p ∈ ps, p ∈ qs) : Frm qs w w' := ⟨h.os, h.tape, h.output, h.size, fun k hk hn => h.block k hk fun hp => hn (hs k hp)⟩
theorem Frm.of_below {ps : List Nat} {w w' : World} (h : Below w.heap.size w w') : Frm ps w w' := ⟨h.os, h.tape, h.output, h.size, fun k hk _ => h.block k hk⟩
theorem Frm.below {ps : List Nat} {w w' : World} {B : Nat} (h : Frm ps w w') (hB : B ≤ w.heap.size) (hp : ∀ p ∈ ps, B ≤ p) : Below B w w' :=
  ⟨h.os, h.tape, h.output, h.size, fun k hk => h.block k (by omega) fun hk' => absurd (hp k hk') (by omega)⟩
theorem Frm.heap {ps : List Nat} {w w' : World} {b : Nat} {o : Obj} (h : Frm ps w w') (hb : w.heap[b]? = some o) (hn : b ∉ ps) : w'.heap[b]? = some o := (h.block b (lt_of_heap hb) hn).trans hb
theorem Frm.setCell (w : World) (b i : Nat) (v : Value) : Frm [b] w (w.setCell ⟨b, i, none⟩ v) := by
  have hs : (w.setCell ⟨b, i, none⟩ v).heap.size = w.heap.size := by unfold World.setCell; simp
  exact ⟨rfl, rfl, rfl, Nat.le_of_eq hs.symm, fun k _ hn => Below.heap_setCell w ⟨b, i, none⟩ v k (by simpa using hn)⟩
theorem heap_setRow {w : World} {b : Nat} {C cs : Array Value} {t : TypeId} {f : Nat × Nat} (h : w.heap[b]? = some (.cells C t f)) : (w.setRow b cs).heap[b]? = some (.cells cs t f) := by
  unfold World.setRow
  simp only [Array.getElem?_modify, if_pos, h, Option.map_some]
theorem Frm.setRow (w : World) (b : Nat) (cs : Array Value) : Frm [b] w (w.setRow b cs) ∧ (w.setRow b cs).heap.size = w.heap.size := by
  have hs : (w.setRow b cs).heap.size = w.heap.size := by unfold World.setRow; simp
  refine ⟨⟨rfl, rfl, rfl, Nat.le_of_eq hs.symm, fun k _ hn => ?_⟩, hs⟩
  unfold World.setRow
  simp only [Array.getElem?_modify]
  rw [if_neg (fun e => hn (by simp [e]))]
/-- copy of bytes into a row: what is there behind it. -/
theorem copy_row {w : World} {b off n c m c2 : Nat} {C : Array Value} {t : TypeId} {A : Option Addr} {x : List UInt8} {B : Nat} (h : w.heap[b]? = some (.cells C t (0, 0))) (hr : Reads w B 1 A m (bvs x)) (hx : x.length = m) (hfit : off + n ≤ C.size) :
    ∃ w1 : World, (∀ ty, (Builtin.copy_ #[64, 64] ty #[.slice (some ⟨b, off, none⟩) n c, .slice A m c2]).run Tryd.prog w = .ok (goInt (Nat.min m n)) w1) ∧
      w1.heap[b]? = some (.cells (C.toList.take off ++ bvs (x.take n) ++ C.toList.drop (off + Nat.min m n)).toArray t (0, 0)) ∧ Frm [b] w w1 ∧ w1.heap.size = w.heap.size := by
  by_cases h0 : Nat.min m n = 0
  · refine ⟨w, fun ty => ?_, ?_, Frm.refl _ _, rfl⟩
    · rw [h0]
      exact run_copy_none (P := Tryd.prog) w _ _ ty _ _ _ n c m c2 Tryd.underlying64 (by kernel_rfl) h0
    · have h1 : x.take n = [] := by
        apply List.eq_nil_of_length_eq_zero
        rw [List.length_take, hx, Nat.min_comm]
        exact h0
      rw [h1, h0, Nat.add_zero, show bvs ([] : List UInt8) = [] from rfl, List.append_nil, List.take_append_drop]
      exact h
  · have hm : 0 < m := by
      rcases Nat.eq_zero_or_pos m with e | e
      · subst e; exact absurd (Nat.zero_min n) h0
      · exact e
    obtain ⟨b2, off2, rfl, hb2, hc⟩ := hr.bytes hm
    have hlen : (bvs (x.take n)).length = Nat.min m n := by simp [bvs_length, hx, Nat.min_comm]
    refine ⟨w.setRow b (C.toList.take off ++ bvs (x.take n) ++ C.toList.drop (off + (bvs (x.take n)).length)).toArray, fun ty => ?_, ?_, (Frm.setRow w b _).1, (Frm.setRow w b _).2⟩
    · rw [show (goInt (Nat.min m n)) = goInt (bvs (x.take n)).length from by rw [hlen]]
      refine run_copy_row (P := Tryd.prog) w _ _ ty _ b off n c _ m c2 C t (bvs (x.take n)) Tryd.underlying64 (by kernel_rfl) h hlen ?_ ?_ ?_
      · intro j v hv
        rw [add_none]
        have hj : j < Nat.min m n := by
          rcases Nat.lt_or_ge j (Nat.min m n) with h' | h'
          · exact h'
          · rw [List.getElem?_eq_none (by rw [hlen]; exact h')] at hv; cases hv
        have hjm : j < m := Nat.lt_of_lt_of_le hj (Nat.min_le_left _ _)
        have hjn : j < n := Nat.lt_of_lt_of_le hj (Nat.min_le_right _ _)
        rw [hc j hjm]
        simp only [bvs, List.getElem?_map, List.getElem?_take, if_pos hjn] at hv
        rw [List.getElem?_eq_getElem (by omega)] at hv
        rw [List.getD_eq_getElem?_getD, List.getElem?_eq_getElem (by omega)]
        simpa [bv] using hv
      · have h_ : Nat.min m n ≤ n := Nat.min_le_right m n
        rw [hlen]
        omega
      · exact fun v hv => bvs_one _ v hv
    · rw [hlen]
      exact heap_setRow h
end Go.Proofs.YtkbopeoaoakfnaaDoor
