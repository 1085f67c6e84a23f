/- Schoolbook multiplication: the mathematics. No conditions. -/
import Derived.Test.YtagjeideohplpaaDoorS9
namespace Go.Proofs.YtagjeideohplpaaDoor
open Go.RowKit
def wN : List Nat → Nat
  | [] => 0
  | v :: r => v + 18446744073709551616 * wN r
def wC (ws : List Nat) : Array Value := (ws.map fun (v : Nat) => Value.int .u64 (v : Int)).toArray
theorem wC_size (ws : List Nat) : (wC ws).size = ws.length := by simp [wC]
theorem wC_at {ws : List Nat} {k : Nat} (hk : k < ws.length) : (wC ws)[k]? = some (.int .u64 (ws.getD k 0 : Int)) := by
  simp [wC, hk]
theorem wC_set {ws : List Nat} {k v : Nat} (hk : k < ws.length) {u : Value} (hu : u = .int .u64 (v : Int)) : (wC ws).setIfInBounds k u = wC (ws.set k v) := by
  subst hu
  apply Array.ext_getElem?
  intro i
  by_cases hi : i = k
  · subst hi; simp [wC, hk]
  · rw [Array.getElem?_setIfInBounds_ne (Ne.symm hi)]
    simp [wC, List.getElem?_set_ne (Ne.symm hi)]
theorem wN_set : ∀ (ws : List Nat) (k v : Nat), k < ws.length → wN (ws.set k v) + 18446744073709551616 ^ k * ws.getD k 0 = wN ws + 18446744073709551616 ^ k * v
  | [], k, v, h => by simp at h
  | a :: r, 0, v, _ => by
    simp [wN]
    omega
  | a :: r, k + 1, v, h => by
    have h1 := wN_set r k v (by simpa using h)
    simp only [List.set_cons_succ, wN, List.getD_cons_succ]
    rw [Nat.pow_succ, Nat.mul_comm (18446744073709551616 ^ k) 18446744073709551616, Nat.mul_assoc, Nat.mul_assoc]
    omega
theorem getD_set_ne {ws : List Nat} {k j v : Nat} (h : k ≠ j) : (ws.set k v).getD j 0 = ws.getD j 0 := by
  simp [List.getD_eq_getElem?_getD, List.getElem?_set_ne h]
theorem getD_set_eq {ws : List Nat} {k v : Nat} (h : k < ws.length) : (ws.set k v).getD k 0 = v := by
  simp [List.getD_eq_getElem?_getD, h]
/-- The words below the i-th. -/
def W4.low (x : W4) (i : Nat) : Nat := wN ([x.a, x.b, x.c, x.d].take i)
theorem W4.low_zero (x : W4) : x.low 0 = 0 := rfl
theorem W4.low_four (x : W4) : x.low 4 = x.val := by
  simp [W4.low, wN, W4.val]
  omega
theorem W4.low_succ (x : W4) {i : Nat} (hi : i < 4) : x.low (i + 1) = x.low i + 18446744073709551616 ^ i * x.wd i := by
  obtain rfl | rfl | rfl | rfl : i = 0 ∨ i = 1 ∨ i = 2 ∨ i = 3 := by omega
  all_goals simp [W4.low, wN, W4.wd]
  all_goals omega
/-- The words of the product: so far. -/
structure Mw (ws : List Nat) (i : Nat) (V : Nat) : Prop where
  len : ws.length = 8
  lt : ∀ k, ws.getD k 0 < 18446744073709551616
  zero : ∀ k, i + 4 ≤ k → ws.getD k 0 = 0
  val : wN ws = V
theorem Mw.start : Mw [0, 0, 0, 0, 0, 0, 0, 0] 0 0 := by
  refine ⟨rfl, fun k => ?_, fun k _ => ?_, rfl⟩
  · rcases Nat.lt_or_ge k 8 with h | h
    · obtain rfl | rfl | rfl | rfl | rfl | rfl | rfl | rfl : k = 0 ∨ k = 1 ∨ k = 2 ∨ k = 3 ∨ k = 4 ∨ k = 5 ∨ k = 6 ∨ k = 7 := by omega
      all_goals decide
    · simp [h]
  · rcases Nat.lt_or_ge k 8 with h | h
    · obtain rfl | rfl | rfl | rfl | rfl | rfl | rfl | rfl : k = 0 ∨ k = 1 ∨ k = 2 ∨ k = 3 ∨ k = 4 ∨ k = 5 ∨ k = 6 ∨ k = 7 := by omega
      all_goals rfl
    · simp [h]
/-- Within a row: a carry of weight B^(i+j). -/
structure Mi (ws : List Nat) (i j c V : Nat) : Prop where
  len : ws.length = 8
  lt : ∀ k, ws.getD k 0 < 18446744073709551616
  zero : ∀ k, i + 4 ≤ k → ws.getD k 0 = 0
  carry : c < 18446744073709551616
  val : wN ws + 18446744073709551616 ^ (i + j) * c = V
theorem Mw.enter {ws : List Nat} {i V : Nat} (h : Mw ws i V) : Mi ws i 0 0 V := ⟨h.len, h.lt, h.zero, by decide, by rw [Nat.mul_zero, Nat.add_zero, h.val]⟩
theorem mul_hl (X Y : Nat) (hX : X < 18446744073709551616) (hY : Y < 18446744073709551616) : X * Y / 18446744073709551616 ≤ 18446744073709551614 ∧ X * Y = X * Y % 18446744073709551616 + 18446744073709551616 * (X * Y / 18446744073709551616) ∧ X * Y ≤ 340282366920938463426481119284349108225 := by
  have h1 : X * Y ≤ 18446744073709551615 * 18446744073709551615 := Nat.mul_le_mul (by omega) (by omega)
  omega
/-- The step's sums: one product, a word, a carry. -/
theorem step_sums {P u c : Nat} (hP : P ≤ 340282366920938463426481119284349108225) (hu : u < 18446744073709551616) (hc : c < 18446744073709551616) :
    ((P % 18446744073709551616 + u + 0) % 18446744073709551616 + c + 0) % 18446744073709551616 + 18446744073709551616 * (P / 18446744073709551616 + (P % 18446744073709551616 + u + 0) / 18446744073709551616 + ((P % 18446744073709551616 + u + 0) % 18446744073709551616 + c + 0) / 18446744073709551616) = P + u + c ∧
    P / 18446744073709551616 + (P % 18446744073709551616 + u + 0) / 18446744073709551616 + ((P % 18446744073709551616 + u + 0) % 18446744073709551616 + c + 0) / 18446744073709551616 < 18446744073709551616 := by
  omega
theorem Mi.step {ws : List Nat} {i j c V P l s : Nat} (h : Mi ws i j c V) (hi : i < 4) (hj : j < 4) (hs : l + 18446744073709551616 * s = P + ws.getD (i + j) 0 + c) (hl : l < 18446744073709551616) (hsb : s < 18446744073709551616) :
    Mi (ws.set (i + j) l) i (j + 1) s (V + 18446744073709551616 ^ (i + j) * P) := by
  refine ⟨by rw [List.length_set, h.len], fun k => ?_, fun k hk => ?_, hsb, ?_⟩
  · by_cases hk : i + j = k
    · subst hk; rw [getD_set_eq (by rw [h.len]; omega)]; exact hl
    · rw [getD_set_ne hk]; exact h.lt k
  · rw [getD_set_ne (by omega)]; exact h.zero k hk
  · have h1 := wN_set ws (i + j) l (by rw [h.len]; omega)
    have h2 := h.val
    have h3 : 18446744073709551616 ^ (i + j) * (l + 18446744073709551616 * s) = 18446744073709551616 ^ (i + j) * (P + ws.getD (i + j) 0 + c) := by rw [hs]
    rw [Nat.mul_add, Nat.mul_add, Nat.mul_add, ← Nat.mul_assoc, ← Nat.pow_succ] at h3
    rw [show i + (j + 1) = (i + j).succ from rfl]
    omega
theorem Mi.leave {ws : List Nat} {i c V : Nat} (h : Mi ws i 4 c V) (hi : i < 4) : Mw (ws.set (i + 4) c) (i + 1) V := by
  refine ⟨by rw [List.length_set, h.len], fun k => ?_, fun k hk => ?_, ?_⟩
  · by_cases hk : i + 4 = k
    · subst hk; rw [getD_set_eq (by rw [h.len]; omega)]; exact h.carry
    · rw [getD_set_ne hk]; exact h.lt k
  · rw [getD_set_ne (by omega)]; exact h.zero k (by omega)
  · have h1 := wN_set ws (i + 4) c (by rw [h.len]; omega)
    rw [h.zero (i + 4) (Nat.le_refl _)] at h1
    have h2 := h.val
    omega
/-- The target of a row's j-th step. -/
theorem low_step (x y : W4) {i j : Nat} (hj : j < 4) : x.low i * y.val + 18446744073709551616 ^ i * x.wd i * y.low j + 18446744073709551616 ^ (i + j) * (x.wd i * y.wd j) = x.low i * y.val + 18446744073709551616 ^ i * x.wd i * y.low (j + 1) := by
  rw [y.low_succ hj, Nat.mul_add, Nat.add_assoc, Nat.pow_add]
  congr 2
  rw [Nat.mul_assoc, Nat.mul_assoc]
  congr 1
  rw [Nat.mul_left_comm]
theorem low_row (x y : W4) {i : Nat} (hi : i < 4) : x.low i * y.val + 18446744073709551616 ^ i * x.wd i * y.low 4 = x.low (i + 1) * y.val := by
  rw [y.low_four, x.low_succ hi, Nat.add_mul]
/-- The bytes of eight words. -/
def byteL (ws : List Nat) (i : Nat) : UInt8 := UInt8.ofNat (ws.getD (i / 8) 0 / 2 ^ (8 * (i % 8)))
theorem byteL_cell (ws : List Nat) (k : Nat) : Value.int IntKind.u8 ((ws.getD (k / 8) 0 : Int) / 2 ^ (8 * (k % 8)) % 256) = bv (byteL ws k) := by
  unfold bv byteL
  congr 1
theorem genL_cut (f : Nat → UInt8) : ∀ n, leN (genL f (n + 8)) = leN (genL f 8) + 18446744073709551616 * leN (genL (fun i => f (i + 8)) n) := by
  intro n
  have h1 : genL f (n + 8) = genL f 8 ++ genL (fun i => f (i + 8)) n := by
    simp only [genL]
    rw [show n + 8 = 8 + n from Nat.add_comm _ _, List.range_add, List.map_append, List.map_map]
    congr 1
    apply List.map_congr_left
    intro i _
    show f (8 + i) = f (i + 8)
    rw [Nat.add_comm]
  rw [h1, leN_app, genL_length]
theorem leN_byteL : ∀ ws : List Nat, (∀ k, ws.getD k 0 < 18446744073709551616) → leN (genL (byteL ws) (8 * ws.length)) = wN ws
  | [], _ => rfl
  | v :: r, h => by
    have hv : v < 18446744073709551616 := h 0
    have h1 := leN_byteL r (fun k => h (k + 1))
    rw [show 8 * (v :: r).length = 8 * r.length + 8 from by simp; omega, genL_cut]
    have h2 : (fun i => byteL (v :: r) (i + 8)) = byteL r := by
      funext i
      unfold byteL
      rw [show (i + 8) / 8 = i / 8 + 1 from by omega, show (i + 8) % 8 = i % 8 from by omega, List.getD_cons_succ]
    have h3 : genL (byteL (v :: r)) 8 = genL (fun i => UInt8.ofNat (v / 256 ^ i)) 8 := by
      simp only [genL]
      apply List.map_congr_left
      intro i hi
      have hi' : i < 8 := by simpa using hi
      unfold byteL
      rw [show i / 8 = 0 from by omega, show i % 8 = i from by omega, Nat.pow_mul]
      rfl
    rw [h2, h1, h3, leN_gen, Nat.mod_eq_of_lt (by simpa using hv)]
    rfl
end Go.Proofs.YtagjeideohplpaaDoor
