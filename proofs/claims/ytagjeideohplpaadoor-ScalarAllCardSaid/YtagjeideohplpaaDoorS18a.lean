/- The reference: the arithmetic of mod. No conditions. -/
import Derived.Test.YtagjeideohplpaaDoorS17c
namespace Go.Proofs.YtagjeideohplpaaDoor
open Go.RowKit
theorem leN_drop {l : List UInt8} {q : Nat} (hq : q ≤ l.length) : leN l / 256 ^ q = leN (l.drop q) := by
  have h1 : leN l = leN (l.take q) + 256 ^ q * leN (l.drop q) := by
    have h2 := leN_app (l.take q) (l.drop q)
    rw [List.take_append_drop, List.length_take, Nat.min_eq_left hq] at h2
    exact h2
  have h3 := leN_lt (l.take q)
  rw [List.length_take, Nat.min_eq_left hq] at h3
  rw [h1, Nat.add_mul_div_left _ _ (Nat.pow_pos (by decide)), Nat.div_eq_of_lt h3, Nat.zero_add]
theorem byte_bit (x R : Nat) {r : Nat} (hr : r < 8) : (x + 256 * R) / 2 ^ r % 2 = x / 2 ^ r % 2 := by
  obtain rfl | rfl | rfl | rfl | rfl | rfl | rfl | rfl : r = 0 ∨ r = 1 ∨ r = 2 ∨ r = 3 ∨ r = 4 ∨ r = 5 ∨ r = 6 ∨ r = 7 := by omega
  all_goals simp only [show (2 : Nat) ^ 0 = 1 from rfl, show (2 : Nat) ^ 1 = 2 from rfl, show (2 : Nat) ^ 2 = 4 from rfl, show (2 : Nat) ^ 3 = 8 from rfl, show (2 : Nat) ^ 4 = 16 from rfl, show (2 : Nat) ^ 5 = 32 from rfl, show (2 : Nat) ^ 6 = 64 from rfl, show (2 : Nat) ^ 7 = 128 from rfl]
  all_goals omega
theorem leN_bit {l : List UInt8} {m : Nat} (hm : m / 8 < l.length) : leN l / 2 ^ m % 2 = (l.getD (m / 8) 0).toNat / 2 ^ (m % 8) % 2 := by
  have h1 : (2 : Nat) ^ m = 256 ^ (m / 8) * 2 ^ (m % 8) := by
    rw [show (256 : Nat) = 2 ^ 8 from rfl, ← Nat.pow_mul, ← Nat.pow_add, Nat.div_add_mod]
  have h2 : l.drop (m / 8) = (l.getD (m / 8) 0) :: l.drop (m / 8 + 1) := by
    rw [List.drop_eq_getElem_cons hm]
    congr 1
    simp [List.getD_eq_getElem?_getD, hm]
  rw [h1, ← Nat.div_div_eq_div_mul, leN_drop (Nat.le_of_lt hm), h2]
  exact byte_bit _ _ (Nat.mod_lt _ (by decide))
theorem bit_step (N m : Nat) : N / 2 ^ m = 2 * (N / 2 ^ (m + 1)) + N / 2 ^ m % 2 := by
  have h1 : N / 2 ^ (m + 1) = N / 2 ^ m / 2 := by rw [Nat.pow_succ, Nat.div_div_eq_div_mul]
  rw [h1]
  omega
theorem dbl_mod {v N m : Nat} (h : v = N / 2 ^ (m + 1) % ordN) : (v + v) % ordN = 2 * (N / 2 ^ (m + 1)) % ordN := by
  rw [h, ← Nat.add_mod, Nat.two_mul]
theorem bits_and_u8_nat (a b : Nat) (ha : a < 256) (hb : b < 256) : bits .and .u8 (a : Int) (b : Int) = ((a &&& b : Nat) : Int) := by
  have hx : a &&& b < 2 ^ 8 := Nat.and_lt_two_pow _ (by omega)
  have h1 : (BitVec.ofInt 8 (a : Int)).toNat = a := by
    rw [BitVec.ofInt_natCast, BitVec.toNat_ofNat]; exact Nat.mod_eq_of_lt (by omega)
  have h2 : (BitVec.ofInt 8 (b : Int)).toNat = b := by
    rw [BitVec.ofInt_natCast, BitVec.toNat_ofNat]; exact Nat.mod_eq_of_lt (by omega)
  show IntKind.u8.wrap ((BitVec.ofInt 8 (a : Int) &&& BitVec.ofInt 8 (b : Int)).toNat : Int) = _
  rw [BitVec.toNat_and, h1, h2, IntKind.wrap_u8]
  omega
theorem and1 {a : Nat} (ha : a < 256) : bits BinOp.and IntKind.u8 (a : Int) 1 = ((a % 2 : Nat) : Int) := by
  have h := bits_and_u8_nat a 1 ha (by decide)
  rw [Nat.and_one_is_mod] at h
  exact h
theorem and1_div {x r : Nat} (hx : x < 256) : bits BinOp.and IntKind.u8 ((x : Int) / 2 ^ r) 1 = ((x / 2 ^ r % 2 : Nat) : Int) := by
  have h := and1 (a := x / 2 ^ r) (Nat.lt_of_le_of_lt (Nat.div_le_self _ _) hx)
  rw [← h]
  congr 1
end Go.Proofs.YtagjeideohplpaaDoor
