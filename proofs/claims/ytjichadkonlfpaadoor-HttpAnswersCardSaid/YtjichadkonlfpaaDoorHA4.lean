/- Respond, both. No conditions. -/
import Derived.Test.YtjichadkonlfpaaDoorHA3
namespace Go.Proofs.YtjichadkonlfpaaDoor
open Go.RowKit
abbrev Pow10 (w : World) : Prop := Lib.TabIs Tryd.prog w "internal/strconv.uint64pow10" .u64 Lib.pow10Tab
theorem tab_below {w w' : World} (h : Pow10 w) (hb : Below w.heap.size w w') : Pow10 w' := by
  unfold Pow10 Lib.TabIs World.var? at h ⊢
  cases hgn : Tryd.prog.globalNamed "internal/strconv.uint64pow10" with
  | none => rw [hgn] at h; cases h
  | some g =>
    rw [hgn] at h
    simp only [Option.bind_some] at h ⊢
    have hlt : g < w.heap.size := by
      rcases Nat.lt_or_ge g w.heap.size with h' | h'
      · exact h'
      · rw [Array.getElem?_eq_none h'] at h; cases h
    rw [hb.block g hlt]
    exact h
theorem below_sgrow (w : World) (k : Nat) (os : Array Obj) : Below w.heap.size w (Sort.grow (w.drewN k) os) := by
  refine ⟨rfl, rfl, rfl, ?_, fun j hj => ?_⟩
  · rw [Sort.size_grow]; exact Nat.le_add_right _ _
  · show (w.heap ++ os)[j]? = _
    rw [Array.getElem?_append_left hj]
theorem digits3 : ∀ n : Fin 1000, Lib.decDigits (1000 + n.val) = [49, UInt8.ofNat (48 + n.val / 100), UInt8.ofNat (48 + n.val / 10 % 10), UInt8.ofNat (48 + n.val % 10)] := by decide +kernel
def codeP (n : Nat) : List UInt8 := [UInt8.ofNat (48 + n / 100), UInt8.ofNat (48 + n / 10 % 10), UInt8.ofNat (48 + n % 10)]
theorem itoa_nat (n : Nat) : Lib.itoa (n : Int) = Lib.decDigits n := by
  unfold Lib.itoa
  rw [if_neg (by omega)]
  rfl
theorem itoa_any (n : Nat) (hn : n ≤ 140737488355328) (w : World) (ht : Pow10 w) : Calls Tryd.prog 18 #[.int .i64 (n : Int)] w fun e w' => e = .returned (.string ⟨(Lib.decDigits n).toArray⟩) ∧ Below w.heap.size w w' := by
  refine (Tryd.strconv_Itoa (n : Int) (by omega) (by omega) w ht).mono ?_
  rintro e w' ⟨rfl, k, os, rfl⟩
  exact ⟨by rw [itoa_nat], below_sgrow w k os⟩
theorem decDigits_len : ∀ (k n : Nat), n < 10 ^ (k + 1) → (Lib.decDigits n).length ≤ k + 1
  | 0, n, h => by rw [Lib.decDigits, dif_pos (by omega)]; simp
  | k + 1, n, h => by
    rw [Lib.decDigits]
    split
    · simp
    · have h2 : n / 10 < 10 ^ (k + 1) := by rw [Nat.pow_succ] at h; omega
      have := decDigits_len k (n / 10) h2
      simp only [List.length_append, List.length_cons, List.length_nil]
      omega
def preP (n : Nat) (st : Int) (m : Nat) : List UInt8 := [72, 84, 84, 80, 47, 49, 46, 49, 32] ++ codeP n ++ [32] ++ reasonP st ++ [13, 10, 99, 111, 110, 116, 101, 110, 116, 45, 108, 101, 110, 103, 116, 104, 58, 32] ++ Lib.decDigits m ++ [13, 10]
def closeL : List UInt8 := [99, 111, 110, 110, 101, 99, 116, 105, 111, 110, 58, 32, 99, 108, 111, 115, 101, 13, 10]
def respP (n : Nat) (st : Int) (l : List UInt8) (cl : Bool) : List UInt8 := preP n st l.length ++ (if cl then closeL else []) ++ [13, 10] ++ l
/-- The number of a status. -/
def codeN (st : Int) : Nat := (max (st.tmod 1000) (-(st.tmod 1000))).toNat
theorem codeN_lt (st : Int) : codeN st < 1000 := by
  have h1 := Int.tmod_lt_of_pos st (b := 1000) (by decide)
  have h2 := Int.lt_tmod_of_pos st (b := 1000) (by decide)
  unfold codeN
  omega
theorem preP_len (st : Int) (m : Nat) (hm : m ≤ 140737488351232) : (preP (codeN st) st m).length ≤ 200 := by
  have h1 := reasonP_len st
  have h2 := decDigits_len 15 m (by omega)
  simp only [preP, List.length_append, List.length_cons, List.length_nil, codeP]
  omega
def RPost (l : List UInt8) (w : World) (e : Ending) (w' : World) : Prop := ∃ A c, e = .returned (.slice A l.length c) ∧ Reads w' w'.heap.size 1 A l.length (bvs l) ∧ Below w.heap.size w w'
end Go.Proofs.YtjichadkonlfpaaDoor
