/- json: an object's keys in a map. No conditions. -/
import Derived.Test.YtkbopeoaoakfnaaDoorJ9
import Derived.Maps.OwnSet
namespace Go.Proofs.YtkbopeoaoakfnaaDoor
open Go.RowKit
/-- How a truth in a map reads. -/
def boolElem : Value → Option (DataW Unit × List MemPlace)
  | .bool b => some (.lit (.bool b), [])
  | _ => none
/-- The map at m holds just the keys ks. -/
def KI (w : World) (m : Nat) (ks : List (List UInt8)) : Prop :=
  ∃ (n : Nat) (D : DataW Unit), w.ownsMap Tryd.prog 9 boolElem m n D ∧ n ≤ ks.length ∧ ∀ (k : List UInt8) (z : DataW Unit), D.atKey (.string k) z = if k ∈ ks then .lit (.bool true) else z
section
variable {w w' : World} {m : Nat} {ks : List (List UInt8)}
theorem KI.made (w : World) : KI (w.alloc (.map #[] 0)) w.heap.size [] := ⟨0, _, World.ownsMap_made w Tryd.prog 9 boolElem, Nat.le_refl _, fun k z => by simp [DataW.atKey]⟩
theorem KI.lt (h : KI w m ks) : m < w.heap.size := by obtain ⟨n, D, h1, _⟩ := h; exact h1.lt
theorem KI.kept {row : Option Nat} (h : KI w m ks) (hg : w.grownBy w' row) (hne : some m ≠ row) : KI w' m ks := by obtain ⟨n, D, h1, h2, h3⟩ := h; exact ⟨n, D, h1.kept hg hne, h2, h3⟩
theorem key_of (k : List UInt8) (hk : k.length ≤ 1000000) : keyOf Tryd.prog 9 (.string ⟨k.toArray⟩) = some (.string k) := by
  rw [keyOf_string Tryd.underlying9]
  simp [mapKey, Tryd.underlying9, ByteArray.size, maxLen]
  omega
theorem bool_zero (w : World) : (zeroValue 4).run Tryd.prog w = .ok (.bool false) w := by kernel_rfl
theorem KI.look (h : KI w m ks) (k : List UInt8) (hk : k.length ≤ 1000000) : (Instr.lookup 124 (.map (some m)) (.string ⟨k.toArray⟩) false).run Tryd.prog w = .ok (.bool (decide (k ∈ ks))) w := by
  obtain ⟨n, D, h1, _, h3⟩ := h
  obtain ⟨v, ps, hrun, hv⟩ := h1.lookup (Maps.string_keyed Tryd.underlying9) Tryd.underlying124 (bool_zero w) (R := boolElem) (zd := .lit (.bool false)) (zp := []) rfl (key_of k hk)
  rw [hrun]
  rw [h3] at hv
  have h4 : v = .bool (decide (k ∈ ks)) := by
    cases v with
    | bool b =>
      simp only [boolElem, Option.some.injEq, Prod.mk.injEq] at hv
      by_cases hm : k ∈ ks
      · rw [if_pos hm] at hv
        have := hv.1
        simp only [DataW.lit.injEq, Lit.bool.injEq] at this
        simp [this, hm]
      · rw [if_neg hm] at hv
        have := hv.1
        simp only [DataW.lit.injEq, Lit.bool.injEq] at this
        simp [this, hm]
    | _ => simp [boolElem] at hv
  rw [h4]
theorem KI.put (h : KI w m ks) (hlen : ks.length ≤ 1000000) (k : List UInt8) (hk : k.length ≤ 1000000) : ∃ w', (Instr.mapUpdate 124 (.map (some m)) (.string ⟨k.toArray⟩) (.bool true)).run Tryd.prog w = .ok () w' ∧ KI w' m (ks ++ [k]) ∧ w.grownBy w' (some m) := by
  obtain ⟨n, D, h1, h2, h3⟩ := h
  have K := Maps.string_keyed (P := Tryd.prog) Tryd.underlying9
  obtain ⟨w2, hrun, ho, ht⟩ := h1.store K Tryd.underlying124 (by simp only [maxLen]; omega) (R := boolElem) (val := .bool true) (d := .lit (.bool true)) (ps := []) (key_of k hk) rfl
  refine ⟨w2, hrun, ⟨n + 1, _, ho, by simp; omega, fun k' z => ?_⟩, ht.grown⟩
  by_cases e : k' = k
  · subst e
    rw [Maps.atKey_put_same h1.isMap (K.key (key_of k' hk)), if_pos (by simp)]
  · rw [Maps.atKey_put_other (by intro h; cases h; exact e rfl), h3]
    simp [e]
end
end Go.Proofs.YtkbopeoaoakfnaaDoor
