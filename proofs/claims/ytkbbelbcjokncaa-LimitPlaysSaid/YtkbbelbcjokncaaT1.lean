/- A table of buckets in memory. No conditions. -/
import Derived.Test.YtkbbelbcjokncaaProg
import Derived.Test.YtkbbelbcjokncaaMem
import Derived.Maps.OwnSet
import Derived.BigQuiet
import Derived.Deep.DeepMust
namespace Go.Proofs.Ytkbbelbcjokncaa
open Go.RowKit
/-- How an element of the map reads: a pointer is its block's number. -/
def ptrElem : Value → Option (DataW Unit × List MemPlace)
  | .pointer none => some (.nil, [])
  | .pointer (some ⟨b, 0, none⟩) => some (.lit (.int .u64 (b : Int)), [])
  | _ => none
theorem ptrElem_nil {v : Value} {ps : List MemPlace} (h : ptrElem v = some (.nil, ps)) : v = .pointer none := by
  unfold ptrElem at h
  split at h
  · rfl
  · simp at h
  · cases h
theorem ptrElem_at {v : Value} {b : Nat} {ps : List MemPlace} (h : ptrElem v = some (.lit (.int .u64 (b : Int)), ps)) : v = .pointer (some ⟨b, 0, none⟩) := by
  unfold ptrElem at h
  split at h
  · simp at h
  · rename_i c
    simp only [Option.some.injEq, Prod.mk.injEq, DataW.lit.injEq, Lit.int.injEq, true_and] at h
    have : c = b := by omega
    rw [this]
  · cases h
/-- What a limit.Table holds: a bucket is its tokens and its moment. -/
structure LT where
  most : Int
  each : Int
  bk : List UInt8 → Option (Int × Int)
  n : Nat
structure Turns (own : Nat → Prop) (w w' : World) : Prop where
  os : w'.os = w.os
  tape : w'.tape = w.tape
  output : w'.output = w.output
  size : w.heap.size ≤ w'.heap.size
  block : ∀ k, k < w.heap.size → ¬ own k → w'.heap[k]? = w.heap[k]?
theorem Turns.refl (own : Nat → Prop) (w : World) : Turns own w w := ⟨rfl, rfl, rfl, Nat.le_refl _, fun _ _ _ => rfl⟩
theorem Turns.trans {own : Nat → Prop} {a b c : World} (h : Turns own a b) (h' : Turns own b c) : Turns own a c :=
  ⟨h'.os.trans h.os, h'.tape.trans h.tape, h'.output.trans h.output, Nat.le_trans h.size h'.size, fun k hk hn => (h'.block k (Nat.lt_of_lt_of_le hk h.size) hn).trans (h.block k hk hn)⟩
theorem Turns.of_grown {own : Nat → Prop} {w w' : World} {b : Option Nat} (h : w.grownBy w' b) (hb : ∀ k, b = some k → own k) : Turns own w w' :=
  ⟨h.os, h.tape, h.output, h.size, fun k hk hn => h.block k hk (fun e => hn (hb k e.symm))⟩
structure Tbl (w : World) (base : Nat) (own : Nat → Prop) (g : Nat) (t : LT) (m : Nat) (D : DataW Unit) : Prop where
  blk : w.heap[g]? = some (.cells #[.int .i64 t.most, .int .i64 t.each, .map (some m)] 46 (0, 0))
  map : w.ownsMap Try.prog 9 ptrElem m t.n D
  size : Maps.size D = t.n
  none_ : ∀ k, t.bk k = none → Maps.has D (.string k) = false
  some_ : ∀ k p, t.bk k = some p → ∃ b : Nat, (∀ z, D.atKey (.string k) z = .lit (.int .u64 (b : Int))) ∧ w.heap[b]? = some (.cells #[.int .i64 p.1, .int .i64 p.2] 49 (0, 0)) ∧ own b
  inj : ∀ k k' p p', t.bk k = some p → t.bk k' = some p' → D.atKey (.string k) .nil = D.atKey (.string k') .nil → k = k'
  ownG : own g
  ownM : own m
  bnd : ∀ k, own k → base ≤ k ∧ k < w.heap.size
variable {w w' : World} {base g m : Nat} {own : Nat → Prop} {t : LT} {D : DataW Unit}
theorem Tbl.field (h : Tbl w base own g t m D) {i : Nat} {v : Value} (hv : (#[.int .i64 t.most, .int .i64 t.each, .map (some m)] : Array Value)[i]? = some v) : w.cell? ⟨g, i, none⟩ = some v := by
  rw [cell_of_row _ g i _ _ _ h.blk]; exact hv
/-- Other blocks are turned. -/
theorem Tbl.keep (h : Tbl w base own g t m D) (hs : w.heap.size ≤ w'.heap.size) (hb : ∀ k, own k → w'.heap[k]? = w.heap[k]?) : Tbl w' base own g t m D := by
  refine ⟨(hb g h.ownG).trans h.blk, ?_, h.size, h.none_, fun k p hk => ?_, h.inj, h.ownG, h.ownM, fun k hk => ⟨(h.bnd k hk).1, Nat.lt_of_lt_of_le (h.bnd k hk).2 hs⟩⟩
  · obtain ⟨es, clock, h1, h2⟩ := h.map
    exact ⟨es, clock, (hb m h.ownM).trans h1, h2⟩
  · obtain ⟨b, h1, h2, h3⟩ := h.some_ k p hk
    exact ⟨b, h1, (hb b h3).trans h2, h3⟩
theorem Tbl.below (h : Tbl w base own g t m D) (hb : Below w.heap.size w w') : Tbl w' base own g t m D := h.keep hb.size fun k hk => hb.block k (h.bnd k hk).2
def LT.fresh (most each : Int) : LT := ⟨most, each, fun _ => none, 0⟩
def NewPost (most each : Int) (w : World) (e : Ending) (w' : World) : Prop :=
  ∃ g m D, e = .returned (.tuple #[.pointer (some ⟨g, 0, none⟩), .int .i64 0]) ∧ Tbl w' w.heap.size (fun k => w.heap.size ≤ k ∧ k < w'.heap.size) g (LT.fresh most each) m D ∧ Below w.heap.size w w'
set_option maxRecDepth 100000 in
set_option maxHeartbeats 1000000 in
theorem New_any (most each : Int) (h1 : 1 ≤ most) (h2 : most ≤ 2147483648) (h3 : 0 ≤ each) (h4 : each ≤ 2147483648) (w : World) : Calls Try.prog 9 #[.int .i64 most, .int .i64 each] w (NewPost most each w) := by
  have d1 : decide (most < 1) = false := decide_eq_false (by omega)
  have d2 : decide (2147483648 < most) = false := decide_eq_false (by omega)
  have d3 : decide (each < 0) = false := decide_eq_false (by omega)
  have d4 : decide (2147483648 < each) = false := decide_eq_false (by omega)
  have hmm := fun w => run_makeMap (P := Try.prog) 44 w
  clear h1 h2 h3 h4
  go_enter Try.func9, Try.ntmps9
  go_wp2
  go_ret2
  have hm := World.ownsMap_made (H := Unit) w Try.prog 9 ptrElem
  refine ⟨w.heap.size + 1, w.heap.size, .map [], rfl, ⟨?_, hm.kept (World.grownBy_alloc _ _ none) (by simp), rfl, fun _ _ => rfl, fun k p h => (by cases h), fun k k' p p' h => (by cases h), ⟨by omega, by simp⟩, ⟨Nat.le_refl _, by simp; omega⟩, fun k hk => hk⟩, ?_⟩
  · have h1 := heap_alloc_new (w.alloc (.map #[] 0)) (.cells #[.int .i64 most, .int .i64 each, .map (some w.heap.size)] 46 (0, 0))
    rw [show w.heap.size + 1 = (w.alloc (.map #[] 0)).heap.size from by simp]
    exact h1
  · exact ((Below.refl _ _).alloc (Nat.le_refl _) _).alloc (by simp) _
end Go.Proofs.Ytkbbelbcjokncaa
