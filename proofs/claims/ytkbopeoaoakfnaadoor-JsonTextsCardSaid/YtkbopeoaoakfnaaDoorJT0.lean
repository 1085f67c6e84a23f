/- json in plain Lean: the runes of a text. No conditions. -/
import Derived.Test.YtkbopeoaoakfnaaDoorJP1
namespace Go.Proofs.YtkbopeoaoakfnaaDoor
open Go
theorem dl_ascii (c : UInt8) (l : List UInt8) (h : c.toNat < 128) : Lib.decodeL (c :: l) = (c.toNat, 1) := by
  rw [Lib.decodeL_N]
  simp [Lib.decodeN, h]
theorem runeW_ascii (c : UInt8) (l : List UInt8) (h : c.toNat < 128) : runeW (c :: l) = 1 := by
  unfold runeW
  rw [dl_ascii c l h, if_neg]
  rintro (h1 | ⟨h1, _⟩)
  · cases h1
  · simp only at h1; omega
theorem dl_high (c : UInt8) (l : List UInt8) (h : 128 ≤ c.toNat) : 128 ≤ (Lib.decodeL (c :: l)).1 := by
  rw [Lib.decodeL_N]
  rcases Lib.decodeN_shape (c :: l).length ((c :: l).getD 0 0).toNat ((c :: l).getD 1 0).toNat ((c :: l).getD 2 0).toNat ((c :: l).getD 3 0).toNat with ⟨h1, e⟩ | ⟨c1, c2, c3, cv, e⟩ | ⟨c1, c2, c3, c4, cv, cs, e⟩ | ⟨c1, c2, c3, c4, c5, cv, cw, e⟩ | e
  · simp at h1; omega
  · rw [e]; exact cv
  · rw [e]; dsimp only; omega
  · rw [e]; dsimp only; omega
  · rw [e]; decide
theorem runeW_other {l : List UInt8} (hne : l ≠ []) (h : (Lib.decodeL l).1 ≠ 65533) : runeW l = (Lib.decodeL l).2 := by
  unfold runeW
  rw [if_neg]
  rintro (h1 | ⟨h1, _⟩)
  · exact hne h1
  · exact h h1
theorem dl_err {l : List UInt8} (h : Lib.hasPrefix l [239, 191, 189] = true) : (Lib.decodeL l) = (65533, 3) := by
  match l, h with
  | a :: b :: c :: l, h =>
    simp [Lib.hasPrefix] at h
    obtain ⟨rfl, rfl, rfl⟩ := h
    rw [Lib.decodeL_N]
    simp [Lib.decodeN]
  | [], h => simp [Lib.hasPrefix] at h
  | [_], h => simp [Lib.hasPrefix] at h
  | [_, _], h => simp [Lib.hasPrefix] at h
theorem runeW_err {l : List UInt8} (h : Lib.hasPrefix l [239, 191, 189] = true) : runeW l = 3 := by
  unfold runeW
  rw [dl_err h, if_neg]
  rintro (h1 | ⟨_, h1⟩)
  · subst h1; simp [Lib.hasPrefix] at h
  · simp at h1
theorem runeW_bad {l : List UInt8} (hr : (Lib.decodeL l).1 = 65533) (h : Lib.hasPrefix l [239, 191, 189] = false) : runeW l = 0 := by
  by_cases hne : l = []
  · unfold runeW; rw [if_pos (.inl hne)]
  by_cases h1 : (Lib.decodeL l).2 = 1
  · unfold runeW; rw [if_pos (.inr ⟨hr, h1⟩)]
  · have h2 := Lib.encode_decode l hne (fun h => h1 h.2)
    rw [hr] at h2
    have h3 : Lib.encodeRune ((65533 : Nat) : Int) = [239, 191, 189] := by decide
    rw [h3] at h2
    exfalso
    have h4 : Lib.hasPrefix l [239, 191, 189] = true := by
      generalize (Lib.decodeL l).2 = n at h2
      match l, n, h2 with
      | a :: b :: c :: l, n + 3, h2 =>
        simp at h2
        obtain ⟨rfl, rfl, rfl, _⟩ := h2
        simp [Lib.hasPrefix]
      | [], n, h2 => simp at h2
      | [_], n, h2 => cases n <;> simp at h2
      | [_, _], 0, h2 => simp at h2
      | [_, _], 1, h2 => simp at h2
      | [_, _], n + 2, h2 => simp at h2
      | a :: b :: c :: l, 0, h2 => simp at h2
      | a :: b :: c :: l, 1, h2 => simp at h2
      | a :: b :: c :: l, 2, h2 => simp at h2
    rw [h4] at h
    cases h
theorem runeW_le (l : List UInt8) : runeW l ≤ l.length := by
  unfold runeW
  split
  · omega
  · rename_i h
    exact Lib.decodeL_le l (fun h1 => h (.inl h1))
/-- One step of a text: a rune that stands as it is. -/
theorem textP_fuel (s : List UInt8) : ∀ (N M k : Nat) (out : List UInt8), s.length - k < N → s.length - k < M → textP s N k out = textP s M k out
  | 0, _, _, _, h, _ => by omega
  | _ + 1, 0, _, _, _, h => by omega
  | N + 1, M + 1, k, out, hN, hM => by
    unfold textP
    cases hk : s[k]? with
    | none => rfl
    | some c =>
      have hlt : k < s.length := by
        rcases Nat.lt_or_ge k s.length with h' | h'
        · exact h'
        · rw [List.getElem?_eq_none h'] at hk; cases hk
      dsimp only
      split
      · rfl
      split
      · rfl
      split
      · cases he : escP s k with
        | none => rfl
        | some xk =>
          obtain ⟨x, k'⟩ := xk
          have := escP_le he
          exact textP_fuel s N M k' _ (by omega) (by omega)
      split
      · rfl
      · exact textP_fuel s N M _ _ (by omega) (by omega)
/-- The text from k on. -/
def textT (s : List UInt8) (k : Nat) (out : List UInt8) : Option (List UInt8) × Nat := textP s (s.length + 1) k out
theorem textT_open {s : List UInt8} {k : Nat} {out : List UInt8} : textT s k out = match s[k]? with
    | none => (none, k)
    | some c =>
      if c = 34 then (some out, k + 1)
      else if c.toNat < 32 then (none, k)
      else if c = 92 then (match escP s k with | none => (none, k) | some (x, k') => textT s k' (out ++ x))
      else if runeW (s.drop k) = 0 then (none, k)
      else textT s (k + runeW (s.drop k)) (out ++ (s.drop k).take (runeW (s.drop k))) := by
  conv => lhs; unfold textT textP
  cases hk : s[k]? with
  | none => rfl
  | some c =>
    have hlt : k < s.length := by
      rcases Nat.lt_or_ge k s.length with h' | h'
      · exact h'
      · rw [List.getElem?_eq_none h'] at hk; cases hk
    dsimp only
    split
    · rfl
    split
    · rfl
    split
    · cases he : escP s k with
      | none => rfl
      | some xk =>
        obtain ⟨x, k'⟩ := xk
        have := escP_le he
        exact textP_fuel s _ _ k' _ (by omega) (by omega)
    split
    · rfl
    · exact textP_fuel s _ _ _ _ (by omega) (by omega)
theorem textT_rune {s : List UInt8} {k : Nat} {out : List UInt8} {c : UInt8} (hc : s[k]? = some c) (h1 : c ≠ 34) (h2 : ¬ c.toNat < 32) (h3 : c ≠ 92) (hw : runeW (s.drop k) ≠ 0) :
    textT s k out = textT s (k + runeW (s.drop k)) (out ++ (s.drop k).take (runeW (s.drop k))) := by
  rw [textT_open, hc]
  dsimp only
  rw [if_neg h1, if_neg h2, if_neg h3, if_neg hw]
theorem take_more {s : List UInt8} {k n m : Nat} : (s.drop k).take n ++ (s.drop (k + n)).take m = (s.drop k).take (n + m) := by
  rw [← List.drop_drop, List.take_add]
end Go.Proofs.YtkbopeoaoakfnaaDoor
