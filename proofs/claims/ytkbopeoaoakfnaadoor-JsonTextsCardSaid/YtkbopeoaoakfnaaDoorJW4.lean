/- json in plain Lean: a text that was printed is read as its runes. No conditions. -/
import Derived.Test.YtkbopeoaoakfnaaDoorJW0
namespace Go.Proofs.YtkbopeoaoakfnaaDoor
open Go
theorem u8_of (x : Int) (h0 : 0 ≤ x) (h1 : x < 256) : (x.toNat.toUInt8).toNat = x.toNat := by
  rw [Nat.toUInt8_eq, UInt8.toNat_ofNat']
  omega
/-- What a rune's bytes decode to. -/
theorem decode_enc (r : Nat) (hr : r < 55296 ∨ (57343 < r ∧ r ≤ 1114111)) (t : List UInt8) : Lib.decodeL (Lib.encodeRune (r : Int) ++ t) = (r, (Lib.encodeRune (r : Int)).length) := by
  rw [Lib.decodeL_N]
  unfold Lib.encodeRune
  by_cases h1 : r ≤ 127
  · rw [Lib.encodeRuneZ_one (by omega) (by omega)]
    have e0 := u8_of (r : Int) (by omega) (by omega)
    simp only [List.map_cons, List.map_nil, List.cons_append, List.nil_append, List.getD_cons_zero, List.length_cons, List.length_nil]
    rw [e0]
    unfold Lib.decodeN
    rw [if_pos (by omega), Int.toNat_natCast]
  by_cases h2 : r ≤ 2047
  · rw [Lib.encodeRuneZ_two (by omega) (by omega)]
    have e0 : ((192 + (r : Int) / 64 : Int).toNat.toUInt8).toNat = 192 + r / 64 := (u8_of _ (by omega) (by omega)).trans (by omega)
    have e1 : ((128 + (r : Int) % 64 : Int).toNat.toUInt8).toNat = 128 + r % 64 := (u8_of _ (by omega) (by omega)).trans (by omega)
    simp only [List.map_cons, List.map_nil, List.cons_append, List.nil_append, List.getD_cons_zero, List.getD_cons_succ, List.length_cons, List.length_nil]
    rw [e0, e1]
    unfold Lib.decodeN
    rw [if_neg (by omega), if_pos (by omega), if_pos (by omega)]
    simp only [Prod.mk.injEq, and_true]
    omega
  by_cases h3 : r ≤ 65535
  · rw [Lib.encodeRuneZ_three (by omega)]
    have e0 : ((224 + (r : Int) / 4096 : Int).toNat.toUInt8).toNat = 224 + r / 4096 := (u8_of _ (by omega) (by omega)).trans (by omega)
    have e1 : ((128 + (r : Int) / 64 % 64 : Int).toNat.toUInt8).toNat = 128 + r / 64 % 64 := (u8_of _ (by omega) (by omega)).trans (by omega)
    have e2 : ((128 + (r : Int) % 64 : Int).toNat.toUInt8).toNat = 128 + r % 64 := (u8_of _ (by omega) (by omega)).trans (by omega)
    simp only [List.map_cons, List.map_nil, List.cons_append, List.nil_append, List.getD_cons_zero, List.getD_cons_succ, List.length_cons, List.length_nil]
    rw [e0, e1, e2]
    unfold Lib.decodeN
    rw [if_neg (by omega), if_neg (by omega), if_pos (by omega), if_pos (by omega)]
    simp only [Prod.mk.injEq, and_true]
    omega
  · rw [Lib.encodeRuneZ_four (by omega) (by omega)]
    have e0 : ((240 + (r : Int) / 262144 : Int).toNat.toUInt8).toNat = 240 + r / 262144 := (u8_of _ (by omega) (by omega)).trans (by omega)
    have e1 : ((128 + (r : Int) / 4096 % 64 : Int).toNat.toUInt8).toNat = 128 + r / 4096 % 64 := (u8_of _ (by omega) (by omega)).trans (by omega)
    have e2 : ((128 + (r : Int) / 64 % 64 : Int).toNat.toUInt8).toNat = 128 + r / 64 % 64 := (u8_of _ (by omega) (by omega)).trans (by omega)
    have e3 : ((128 + (r : Int) % 64 : Int).toNat.toUInt8).toNat = 128 + r % 64 := (u8_of _ (by omega) (by omega)).trans (by omega)
    simp only [List.map_cons, List.map_nil, List.cons_append, List.nil_append, List.getD_cons_zero, List.getD_cons_succ, List.length_cons, List.length_nil]
    rw [e0, e1, e2, e3]
    unfold Lib.decodeN
    rw [if_neg (by omega), if_neg (by omega), if_neg (by omega), if_pos (by omega), if_pos (by omega)]
    simp only [Prod.mk.injEq, and_true]
    omega
/-- The first byte of a rune's bytes. -/
theorem enc_head (r : Nat) (hr : r < 55296 ∨ (57343 < r ∧ r ≤ 1114111)) : ∃ c l, Lib.encodeRune (r : Int) = c :: l ∧ (r < 128 → c.toNat = r ∧ l = []) ∧ (128 ≤ r → 128 ≤ c.toNat) := by
  unfold Lib.encodeRune
  by_cases h1 : r ≤ 127
  · rw [Lib.encodeRuneZ_one (by omega) (by omega)]
    have e0 := u8_of (r : Int) (by omega) (by omega)
    exact ⟨_, _, rfl, fun _ => ⟨by rw [e0]; omega, rfl⟩, fun h => by omega⟩
  by_cases h2 : r ≤ 2047
  · rw [Lib.encodeRuneZ_two (by omega) (by omega)]
    have e0 := u8_of (192 + (r : Int) / 64) (by omega) (by omega)
    exact ⟨_, _, rfl, fun _ => by omega, fun h => by rw [e0]; omega⟩
  by_cases h3 : r ≤ 65535
  · rw [Lib.encodeRuneZ_three (by omega)]
    have e0 := u8_of (224 + (r : Int) / 4096) (by omega) (by omega)
    exact ⟨_, _, rfl, fun _ => by omega, fun h => by rw [e0]; omega⟩
  · rw [Lib.encodeRuneZ_four (by omega) (by omega)]
    have e0 := u8_of (240 + (r : Int) / 262144) (by omega) (by omega)
    exact ⟨_, _, rfl, fun _ => by omega, fun h => by rw [e0]; omega⟩
theorem decL_valid (l : List UInt8) : (Lib.decodeL l).1 < 55296 ∨ (57343 < (Lib.decodeL l).1 ∧ (Lib.decodeL l).1 ≤ 1114111) := by
  rw [Lib.decodeL_N]
  have k0 := (l.getD 0 0).toNat_lt
  rcases Lib.decodeN_shape l.length (l.getD 0 0).toNat (l.getD 1 0).toNat (l.getD 2 0).toNat (l.getD 3 0).toNat with ⟨c, e⟩ | ⟨c1, c2, c3, cv, e⟩ | ⟨c1, c2, c3, c4, cv, cs, e⟩ | ⟨c1, c2, c3, c4, c5, cv, cw, e⟩ | e <;> rw [e] <;> dsimp only <;> omega
theorem hex_back : ∀ r : Nat, r < 32 → hexP [48, 48, hexC (r / 16), hexC (r % 16)] 0 = (r : Int) := by decide +kernel
/-- One rune that was written. -/
theorem quote_step {S rest out : List UInt8} {k r : Nat} (hr : r < 55296 ∨ (57343 < r ∧ r ≤ 1114111)) (hS : S.drop k = quoteR r ++ rest) : textT S k out = textT S (k + (quoteR r).length) (out ++ Lib.encodeRune (r : Int)) := by
  have hget : ∀ i, S[k + i]? = (quoteR r ++ rest)[i]? := fun i => by rw [← hS, List.getElem?_drop]
  have hg0 := hget 0
  rw [Nat.add_zero] at hg0
  unfold quoteR at *
  by_cases hq : r = 34 ∨ r = 92
  · rw [if_pos hq] at *
    have h1 := hget 1
    rcases hq with rfl | rfl
    · rw [textT_open, hg0]
      have he : escP S k = some ([34], k + 2) := by unfold escP; rw [h1]; rfl
      dsimp only [List.cons_append, List.getElem?_cons_zero]
      rw [if_neg (by decide), if_neg (by decide), if_pos rfl, he]
      rfl
    · rw [textT_open, hg0]
      have he : escP S k = some ([92], k + 2) := by unfold escP; rw [h1]; rfl
      dsimp only [List.cons_append, List.getElem?_cons_zero]
      rw [if_neg (by decide), if_neg (by decide), if_pos rfl, he]
      rfl
  · rw [if_neg hq] at *
    by_cases h32 : r < 32
    · rw [if_pos h32] at *
      have hlen : k + 6 ≤ S.length := by
        have := congrArg List.length hS
        simp only [List.length_drop, List.length_append, List.length_cons, List.length_nil] at this
        omega
      have h1 := hget 1
      have hc : codeP S k = (r : Int) := by
        unfold codeP
        rw [if_neg]
        · rw [← List.drop_drop, hS]
          exact hex_back r h32
        · rintro (h | h)
          · omega
          · rw [hS] at h
            exact h rfl
      have he : escP S k = some (Lib.encodeRune (r : Int), k + 6) := by
        unfold escP
        rw [h1]
        show escU S k = _
        unfold escU
        rw [hc, if_neg (by omega), if_neg (by omega)]
      rw [textT_open, hg0]
      dsimp only [List.cons_append, List.getElem?_cons_zero]
      rw [if_neg (by decide), if_neg (by decide), if_pos rfl, he]
      rfl
    · rw [if_neg h32] at *
      obtain ⟨c, l, he, hlo, hhi⟩ := enc_head r hr
      have hc : S[k]? = some c := by rw [hg0, he]; rfl
      have hd := decode_enc r hr rest
      have hne : Lib.encodeRune (r : Int) ++ rest ≠ [] := by rw [he]; simp
      have hlen := (Lib.runeCells_le (r : Int)).1
      rw [Lib.runeCells_length] at hlen
      have hw : runeW (S.drop k) = (Lib.encodeRune (r : Int)).length := by
        rw [hS]
        unfold runeW
        rw [hd, if_neg]
        rintro (h | ⟨h1, h2⟩)
        · exact hne h
        · simp only at h1 h2
          subst h1
          rw [show Lib.encodeRune ((65533 : Nat) : Int) = [239, 191, 189] from by decide] at h2
          simp at h2
      have n34 : c ≠ 34 := fun e => by
        subst e
        rcases Nat.lt_or_ge r 128 with h | h
        · have := (hlo h).1
          exact hq (.inl (by rw [← this]; rfl))
        · have := hhi h
          exact absurd this (by decide)
      have n92 : c ≠ 92 := fun e => by
        subst e
        rcases Nat.lt_or_ge r 128 with h | h
        · have := (hlo h).1
          exact hq (.inr (by rw [← this]; rfl))
        · have := hhi h
          exact absurd this (by decide)
      have n32 : ¬ c.toNat < 32 := fun e => by
        rcases Nat.lt_or_ge r 128 with h | h
        · have := (hlo h).1; omega
        · have := hhi h; omega
      rw [textT_rune hc n34 n32 n92 (by rw [hw]; omega), hw, hS, List.take_left]
/-- The runes of a text, as they stand. -/
def runesD (l : List UInt8) : List UInt8 := Lib.mapD (fun r => r) l
theorem runesD_step (l : List UInt8) (hne : l ≠ []) : runesD l = Lib.encodeRune ((Lib.decodeL l).1 : Int) ++ runesD (l.drop (Lib.decodeL l).2) := by
  unfold runesD
  rw [Lib.mapD_step _ l hne, if_pos (by omega)]
theorem quote_text : ∀ (n : Nat) (s S out : List UInt8) (k : Nat), s.length ≤ n → S.drop k = quoteD s.length s ++ [34] → textT S k out = (some (out ++ runesD s), S.length)
  | n, s, S, out, k, hn, hS => by
    by_cases hne : s = []
    · subst hne
      have h0 : S[k]? = some 34 := by
        have := List.getElem?_drop (xs := S) (i := k) (j := 0)
        rw [hS] at this
        simpa [quoteD] using this.symm
      have hl : k + 1 = S.length := by
        have := congrArg List.length hS
        simp [quoteD] at this
        omega
      rw [textT_open, h0]
      dsimp only
      rw [if_pos rfl, hl]
      simp [runesD, Lib.mapD, Lib.mapGoD]
    · have hl : 0 < s.length := List.length_pos_iff.2 hne
      have hw := Lib.decodeL_width s
      rw [quoteD_step s hne, List.append_assoc] at hS
      rw [quote_step (decL_valid s) hS, runesD_step s hne, ← List.append_assoc]
      cases n with
      | zero => omega
      | succ n =>
        refine quote_text n (s.drop (Lib.decodeL s).2) S _ _ (by rw [List.length_drop]; omega) ?_
        rw [← List.drop_drop, hS, List.drop_left]
theorem quoteR_len (r : Nat) (l : List UInt8) : (quoteR r).length ≤ 6 * (Lib.decodeL l).2 := by
  have hw := Lib.decodeL_width l
  have h4 := (Lib.runeCells_le (r : Int)).2
  rw [Lib.runeCells_length] at h4
  unfold quoteR
  split
  · simp only [List.length_cons]; omega
  · split
    · simp only [List.length_cons, List.length_nil]; omega
    · omega
theorem quoteD_len : ∀ (n : Nat) (s : List UInt8), s.length ≤ n → (quoteD s.length s).length ≤ 6 * s.length
  | n, s, hn => by
    by_cases hne : s = []
    · subst hne; simp [quoteD]
    · have hl : 0 < s.length := List.length_pos_iff.2 hne
      have hw := Lib.decodeL_width s
      have hle := Lib.decodeL_le s hne
      cases n with
      | zero => omega
      | succ n =>
        have ih := quoteD_len n (s.drop (Lib.decodeL s).2) (by rw [List.length_drop]; omega)
        have hq := quoteR_len (Lib.decodeL s).1 s
        rw [quoteD_step s hne, List.length_append]
        rw [List.length_drop] at ih
        rw [List.length_drop]
        omega
/-- A printed text is parsed to its runes. -/
theorem parse_quote (s : List UInt8) (h : (quoteB s).length ≤ 8192) : parseP (quoteB s) = (.text (runesD s), 0, 0) := by
  have hst : startP (quoteB s) = ⟨0, 0, none⟩ := rfl
  have hm : (PS.mk 0 0 none).must (quoteB s) 34 = ⟨1, 0, none⟩ := rfl
  have ht : (PS.mk 0 0 none).textOf (quoteB s) = (some (runesD s), (quoteB s).length) := by
    unfold PS.textOf
    rw [hm]
    show textT (quoteB s) 1 [] = _
    rw [quote_text s.length s (quoteB s) [] 1 (Nat.le_refl _) rfl]
    simp
  have htx : (PS.mk 0 0 none).text (quoteB s) = ⟨(quoteB s).length, 0, none⟩ := by
    unfold PS.text
    rw [hm, if_pos rfl, ht]
    rfl
  have htv : (PS.mk 0 0 none).textV (quoteB s) = runesD s := by
    unfold PS.textV
    rw [hm, if_pos rfl, ht]
    rfl
  have hb : bodyP (quoteB s) = (.text (runesD s), ⟨(quoteB s).length, 0, none⟩) := by
    unfold bodyP
    rw [hst]
    conv => lhs; unfold valP
    have h34 : (quoteB s)[(PS.mk 0 0 none).at_]? = some 34 := rfl
    rw [if_pos rfl, h34]
    dsimp only
    rw [if_neg (by decide), if_neg (by decide), if_pos rfl, htv, htx]
  have hbl : (PS.mk (quoteB s).length 0 none).blanks (quoteB s) = ⟨(quoteB s).length, 0, none⟩ := by
    unfold PS.blanks
    simp [PS.to, runB]
  have he : endP (quoteB s) = ⟨(quoteB s).length, 0, none⟩ := by
    unfold endP
    rw [hb]
    dsimp only
    rw [hbl, if_neg]
    rintro ⟨_, h⟩
    exact absurd h (Nat.lt_irrefl _)
  unfold parseP
  rw [if_neg (by omega), he, hb]
end Go.Proofs.YtkbopeoaoakfnaaDoor
