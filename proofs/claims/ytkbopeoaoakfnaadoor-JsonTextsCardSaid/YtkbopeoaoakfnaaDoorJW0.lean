/- json in plain Lean: what Print writes. No conditions. -/
import Derived.Test.YtkbopeoaoakfnaaDoorJT0
namespace Go.Proofs.YtkbopeoaoakfnaaDoor
open Go
/-- A hexadecimal digit. -/
def hexC (n : Nat) : UInt8 := [(48 : UInt8), 49, 50, 51, 52, 53, 54, 55, 56, 57, 97, 98, 99, 100, 101, 102].getD n 0
/-- What a rune is written as. -/
def quoteR (r : Nat) : List UInt8 :=
  if r = 34 ∨ r = 92 then 92 :: Lib.encodeRune r
  else if r < 32 then [92, 117, 48, 48, hexC (r / 16), hexC (r % 16)]
  else Lib.encodeRune r
def quoteD : Nat → List UInt8 → List UInt8
  | 0, _ => []
  | n + 1, l => if l = [] then [] else quoteR (Lib.decodeL l).1 ++ quoteD n (l.drop (Lib.decodeL l).2)
/-- A text between quotation marks. -/
def quoteB (s : List UInt8) : List UInt8 := 34 :: (quoteD s.length s ++ [34])
mutual
/-- What a value is printed as. -/
def prt : JV → List UInt8
  | .nil => [110, 117, 108, 108]
  | .null => [110, 117, 108, 108]
  | .bool b => Lib.formatBool b
  | .num s => s
  | .text s => quoteB s
  | .list l => 91 :: (prtL true l ++ [93])
  | .obj ks l => 123 :: (prtO true ks l ++ [125])
def prtL : Bool → List JV → List UInt8
  | _, [] => []
  | f, j :: l => (if f then [] else [44]) ++ (prt j ++ prtL false l)
def prtO : Bool → List (List UInt8) → List JV → List UInt8
  | _, _, [] => []
  | f, ks, j :: l => (if f then [] else [44]) ++ (quoteB (ks.headD []) ++ (58 :: (prt j ++ prtO false ks.tail l)))
end
theorem quoteB_pos (s : List UInt8) : 2 ≤ (quoteB s).length := by unfold quoteB; simp
mutual
theorem prtL_len : ∀ (f : Bool) (l : List JV), l.length ≤ (prtL f l).length + 1
  | _, [] => by simp
  | f, j :: l => by
    have h := prtL_len2 l
    rw [prtL]
    simp only [List.length_append, List.length_cons]
    omega
theorem prtL_len2 : ∀ (l : List JV), l.length ≤ (prtL false l).length
  | [] => by simp
  | j :: l => by
    have h := prtL_len2 l
    rw [prtL]
    simp only [List.length_append, List.length_cons, Bool.false_eq_true, if_false, List.length_nil]
    omega
end
theorem prtO_len : ∀ (f : Bool) (ks : List (List UInt8)) (l : List JV), l.length ≤ (prtO f ks l).length
  | _, _, [] => by simp
  | f, ks, j :: l => by
    have h := prtO_len false ks.tail l
    rw [prtO]
    simp only [List.length_append, List.length_cons]
    omega
theorem quoteD_fuel : ∀ (n m : Nat) (l : List UInt8), l.length ≤ n → l.length ≤ m → quoteD n l = quoteD m l
  | 0, 0, _, _, _ => rfl
  | 0, m + 1, l, h, _ => by
    have : l = [] := List.eq_nil_of_length_eq_zero (by omega)
    subst this
    rfl
  | n + 1, 0, l, _, h => by
    have : l = [] := List.eq_nil_of_length_eq_zero (by omega)
    subst this
    rfl
  | n + 1, m + 1, l, h1, h2 => by
    unfold quoteD
    split
    · rfl
    · rename_i hne
      have hw := Lib.decodeL_width l
      have hl : 0 < l.length := List.length_pos_iff.2 hne
      rw [quoteD_fuel n m (l.drop (Lib.decodeL l).2) (by rw [List.length_drop]; omega) (by rw [List.length_drop]; omega)]
/-- One rune more. -/
theorem quoteD_step (l : List UInt8) (hne : l ≠ []) : quoteD l.length l = quoteR (Lib.decodeL l).1 ++ quoteD (l.drop (Lib.decodeL l).2).length (l.drop (Lib.decodeL l).2) := by
  have hl : 0 < l.length := List.length_pos_iff.2 hne
  obtain ⟨n, hn⟩ : ∃ n, l.length = n + 1 := ⟨l.length - 1, by omega⟩
  rw [hn]
  conv => lhs; unfold quoteD
  rw [if_neg hne]
  have hw := Lib.decodeL_width l
  rw [quoteD_fuel n _ _ (by rw [List.length_drop]; omega) (Nat.le_refl _)]
end Go.Proofs.YtkbopeoaoakfnaaDoor
