/- Four words: in memory. No conditions. -/
import Derived.Test.YtagjeideohplpaaDoorMem
import Derived.Test.YtagjeideohplpaaDoorProg
import Derived.Test.YtagjeideohplpaaDoorReg3
import Derived.Shelf.Spec.BitsCarry
import Derived.Deep.DeepMust
import Derived.BigQuiet
import Derived.Deep.MidRow
namespace Go.Proofs.YtagjeideohplpaaDoor
open Go.RowKit
theorem run_Add64 (x y c : Nat) (hc : c ≤ 1) (w : World) : (callFunc 21 #[.int .u64 x, .int .u64 y, .int .u64 c]).run Tryd.prog w =
      .ok (.value (.tuple #[.int .u64 (((x + y + c) % 18446744073709551616 : Nat) : Int), .int .u64 (((x + y + c) / 18446744073709551616 : Nat) : Int)])) w := by
  rw [run_callFunc_extern Tryd.func21 (by kernel_rfl) (by kernel_rfl) (by kernel_rfl) (e := add64Entry) (by kernel_rfl), run_add64 x y c (by omega) (by omega) (by omega) (by omega)]
  simp only [Result.andThen]
  congr 5 <;> omega
theorem run_Sub64 (x y b : Nat) (hb : b ≤ 1) (w : World) : (callFunc 33 #[.int .u64 x, .int .u64 y, .int .u64 b]).run Tryd.prog w =
      .ok (.value (.tuple #[.int .u64 (((x + 18446744073709551616 - y - b) % 18446744073709551616 : Nat) : Int), .int .u64 ((if x < y + b then 1 else 0 : Nat) : Int)])) w := by
  rw [run_callFunc_extern Tryd.func33 (by kernel_rfl) (by kernel_rfl) (by kernel_rfl) (e := sub64Entry) (by kernel_rfl), run_sub64 x y b hb]
  rfl
/-- Four words, the least first. -/
structure W4 where
  a : Nat
  b : Nat
  c : Nat
  d : Nat
def W4.ok (x : W4) : Prop := x.a < 18446744073709551616 ∧ x.b < 18446744073709551616 ∧ x.c < 18446744073709551616 ∧ x.d < 18446744073709551616
def W4.cs (x : W4) : Array Value := #[.int .u64 x.a, .int .u64 x.b, .int .u64 x.c, .int .u64 x.d]
def W4.val (x : W4) : Nat := x.a + 18446744073709551616 * x.b + 340282366920938463463374607431768211456 * x.c + 6277101735386680763835789423207666416102355444464034512896 * x.d
/-- The first k words of the sum are done. -/
def AddInv (x y d : W4) (c : Nat) : Nat → Prop
  | 0 => d = x ∧ c = 0
  | 1 => x.a + y.a = d.a + c * 18446744073709551616 ∧ d.b = x.b ∧ d.c = x.c ∧ d.d = x.d
  | 2 => x.a + y.a + 18446744073709551616 * (x.b + y.b) = d.a + 18446744073709551616 * d.b + c * 340282366920938463463374607431768211456 ∧ d.c = x.c ∧ d.d = x.d
  | 3 => x.a + y.a + 18446744073709551616 * (x.b + y.b) + 340282366920938463463374607431768211456 * (x.c + y.c) = d.a + 18446744073709551616 * d.b + 340282366920938463463374607431768211456 * d.c + c * 6277101735386680763835789423207666416102355444464034512896 ∧ d.d = x.d
  | _ => x.val + y.val = d.val + c * 115792089237316195423570985008687907853269984665640564039457584007913129639936
theorem AddInv.step0 {x y d : W4} {c : Nat} (h : AddInv x y d c 0) : AddInv x y { d with a := (d.a + y.a + c) % 18446744073709551616 } ((d.a + y.a + c) / 18446744073709551616) 1 := by
  obtain ⟨rfl, rfl⟩ := h
  refine ⟨?_, rfl, rfl, rfl⟩
  show d.a + y.a = (d.a + y.a + 0) % 18446744073709551616 + (d.a + y.a + 0) / 18446744073709551616 * 18446744073709551616
  omega
theorem AddInv.step1 {x y d : W4} {c : Nat} (h : AddInv x y d c 1) : AddInv x y { d with b := (d.b + y.b + c) % 18446744073709551616 } ((d.b + y.b + c) / 18446744073709551616) 2 := by
  obtain ⟨h, h1, h2, h3⟩ := h
  refine ⟨?_, h2, h3⟩
  show _ = d.a + 18446744073709551616 * ((d.b + y.b + c) % 18446744073709551616) + (d.b + y.b + c) / 18446744073709551616 * 340282366920938463463374607431768211456
  rw [h1]
  omega
theorem AddInv.step2 {x y d : W4} {c : Nat} (h : AddInv x y d c 2) : AddInv x y { d with c := (d.c + y.c + c) % 18446744073709551616 } ((d.c + y.c + c) / 18446744073709551616) 3 := by
  obtain ⟨h, h2, h3⟩ := h
  refine ⟨?_, h3⟩
  show _ = d.a + 18446744073709551616 * d.b + 340282366920938463463374607431768211456 * ((d.c + y.c + c) % 18446744073709551616) + (d.c + y.c + c) / 18446744073709551616 * 6277101735386680763835789423207666416102355444464034512896
  rw [h2]
  omega
theorem AddInv.step3 {x y d : W4} {c : Nat} (h : AddInv x y d c 3) : AddInv x y { d with d := (d.d + y.d + c) % 18446744073709551616 } ((d.d + y.d + c) / 18446744073709551616) 4 := by
  obtain ⟨h, h3⟩ := h
  show x.val + y.val = d.a + 18446744073709551616 * d.b + 340282366920938463463374607431768211456 * d.c + 6277101735386680763835789423207666416102355444464034512896 * ((d.d + y.d + c) % 18446744073709551616) + (d.d + y.d + c) / 18446744073709551616 * 115792089237316195423570985008687907853269984665640564039457584007913129639936
  unfold W4.val
  rw [h3]
  omega
def AddPost (x y : W4) (w : World) (e : Ending) (w' : World) : Prop := ∃ (d : W4) (c : Nat), e = .returned (.agg d.cs) ∧ d.ok ∧ c ≤ 1 ∧ x.val + y.val = d.val + c * 115792089237316195423570985008687907853269984665640564039457584007913129639936 ∧ Below w.heap.size w w'
theorem cell4 {w : World} {b : Nat} {d : W4} {T : TypeId} (h : w.heap[b]? = some (.cells d.cs T (0, 0))) : w.cell? ⟨b, 0, none⟩ = some (.int .u64 d.a) ∧ w.cell? ⟨b, 1, none⟩ = some (.int .u64 d.b) ∧ w.cell? ⟨b, 2, none⟩ = some (.int .u64 d.c) ∧ w.cell? ⟨b, 3, none⟩ = some (.int .u64 d.d) := by
  refine ⟨?_, ?_, ?_, ?_⟩ <;> (rw [cell_of_row _ b _ _ _ _ h]; rfl)
/-- The blocks of add and sub: the sum so far, the other number, the answer's place. -/
def Three (w wr : World) (d y z : W4) : Prop := Below w.heap.size w wr ∧ wr.heap[w.heap.size]? = some (.cells d.cs 35 (0, 0)) ∧ wr.heap[w.heap.size + 1]? = some (.cells y.cs 35 (0, 0)) ∧ wr.heap[w.heap.size + 1 + 1]? = some (.cells z.cs 35 (0, 0))
theorem Three.below {w wr w' : World} {d y z : W4} (h : Three w wr d y z) (hb : Below wr.heap.size wr w') : Three w w' d y z := by
  obtain ⟨h0, h1, h2, h3⟩ := h
  have lt : ∀ {b o}, wr.heap[b]? = some o → b < wr.heap.size := fun {b o} h => by
    rcases Nat.lt_or_ge b wr.heap.size with h' | h'
    · exact h'
    · rw [Array.getElem?_eq_none h'] at h; cases h
  exact ⟨h0.trans (hb.mono h0.size), (hb.block _ (lt h1)).trans h1, (hb.block _ (lt h2)).trans h2, (hb.block _ (lt h3)).trans h3⟩
theorem Three.set {w wr : World} {d y z d' : W4} {i : Nat} {v : Value} (h : Three w wr d y z) (hd : d.cs.setIfInBounds i v = d'.cs) : Three w (wr.setCell ⟨w.heap.size, i, none⟩ v) d' y z := by
  obtain ⟨h0, h1, h2, h3⟩ := h
  refine ⟨h0.setCell (p := ⟨w.heap.size, i, none⟩) (Nat.le_refl _) v, ?_, ?_, ?_⟩
  · rw [← hd]; exact heap_setCell_same wr w.heap.size i _ _ v h1
  · exact (Below.heap_setCell _ _ _ _ (by simp)).trans h2
  · exact (Below.heap_setCell _ _ _ _ (by simp; omega)).trans h3
theorem ret4 {wr : World} {b : Nat} {d z : W4} (h : wr.heap[b]? = some (.cells z.cs 35 (0, 0))) :
    (loadVar 35 ⟨b, 0, none⟩).run Tryd.prog ((((wr.setCell ⟨b, 0, none⟩ (.int .u64 d.a)).setCell ⟨b, 1, none⟩ (.int .u64 d.b)).setCell ⟨b, 2, none⟩ (.int .u64 d.c)).setCell ⟨b, 3, none⟩ (.int .u64 d.d)) =
      .ok (.agg d.cs) ((((wr.setCell ⟨b, 0, none⟩ (.int .u64 d.a)).setCell ⟨b, 1, none⟩ (.int .u64 d.b)).setCell ⟨b, 2, none⟩ (.int .u64 d.c)).setCell ⟨b, 3, none⟩ (.int .u64 d.d)) := by
  have hth : wr.there b 0 4 := fun j hj => by
    refine ⟨?_, by simp [World.frozen?, h]⟩
    rw [cell_of_row wr b (0 + j) z.cs _ (0, 0) h]
    obtain rfl | rfl | rfl | rfl : j = 0 ∨ j = 1 ∨ j = 2 ∨ j = 3 := by omega
    all_goals rfl
  have key : ∀ l : List Value, l.length = 4 → (loadVar 35 ⟨b, 0, none⟩).run Tryd.prog (wr.setCells b 0 l) = .ok (.agg l.toArray) (wr.setCells b 0 l) := fun l hl =>
    run_loadVar_mid (P := Tryd.prog) (wr.setCells b 0 l) b 0 35 l _ (World.rangeAt_setCells_same _ _ _ _ (by rw [hl]; exact hth)) Tryd.underlying35 rfl (by rw [hl]; kernel_rfl)
  have h2 := key [.int .u64 d.a, .int .u64 d.b, .int .u64 d.c, .int .u64 d.d] rfl
  simp only [World.setCells, Nat.zero_add, Nat.reduceAdd] at h2
  exact h2
end Go.Proofs.YtagjeideohplpaaDoor
