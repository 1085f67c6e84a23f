/- json in plain Lean: a parser never goes back; what is at fault stays. No conditions. -/
import Derived.Test.YtkbopeoaoakfnaaDoorJP0
namespace Go.Proofs.YtkbopeoaoakfnaaDoor
open Go
theorem PS.fail_at (st : PS) (a e : Int) : (st.fail a e).at_ = st.at_ := by unfold PS.fail; split <;> rfl
theorem PS.fail_depth (st : PS) (a e : Int) : (st.fail a e).depth = st.depth := by unfold PS.fail; split <;> rfl
theorem PS.fail_ne (st : PS) (a e : Int) : (st.fail a e).fault ≠ none := by
  unfold PS.fail
  cases h : st.fault with
  | none => simp
  | some x => simp [h]
theorem PS.fail_none {st : PS} (h : st.fault = none) (a e : Int) : st.fail a e = { st with fault := some (a, e) } := by unfold PS.fail; rw [h]
theorem PS.fail_some {st : PS} (h : st.fault ≠ none) (a e : Int) : st.fail a e = st := by
  unfold PS.fail
  split
  · rename_i h2; exact absurd h2 h
  · rfl
theorem PS.next_le (st : PS) (s : List UInt8) (c : UInt8) : st.at_ ≤ (st.next s c).at_ := by unfold PS.next; split <;> simp
theorem PS.must_le (st : PS) (s : List UInt8) (c : UInt8) : st.at_ ≤ (st.must s c).at_ := by
  unfold PS.must
  split
  · simp
  · rw [PS.fail_at]; exact Nat.le_refl _
theorem PS.must_ok {st : PS} {s : List UInt8} {c : UInt8} (h : (st.must s c).fault = none) : (st.must s c).at_ = st.at_ + 1 ∧ st.fault = none ∧ st.sees s c = true := by
  unfold PS.must at h ⊢
  split
  · rename_i hs
    rw [if_pos hs] at h
    exact ⟨rfl, h, hs⟩
  · rename_i hs
    rw [if_neg hs] at h
    exact absurd h (PS.fail_ne _ _ _)
theorem PS.blanks_le (st : PS) (s : List UInt8) : st.at_ ≤ (st.blanks s).at_ := by unfold PS.blanks PS.to; simp
theorem PS.blanks_fault (st : PS) (s : List UInt8) : (st.blanks s).fault = st.fault := rfl
theorem PS.next_fault (st : PS) (s : List UInt8) (c : UInt8) : (st.next s c).fault = st.fault := by unfold PS.next; split <;> rfl
theorem PS.digits_le (st : PS) (s : List UInt8) : st.at_ ≤ (st.digits s).at_ := by
  unfold PS.digits
  split
  · rw [PS.fail_at]; exact Nat.le_refl _
  · simp [PS.to]
theorem PS.numA_le (st : PS) (s : List UInt8) : st.at_ ≤ (st.numA s).at_ := by
  unfold PS.numA
  split
  · exact Nat.le_trans (PS.next_le _ _ _) (PS.next_le _ _ _)
  · exact Nat.le_trans (PS.next_le _ _ _) (PS.digits_le _ _)
theorem PS.numB_le (st : PS) (s : List UInt8) : st.at_ ≤ (st.numB s).at_ := by
  unfold PS.numB
  split
  · exact Nat.le_trans (PS.next_le _ _ _) (PS.digits_le _ _)
  · exact Nat.le_refl _
theorem PS.numD_le (st : PS) (s : List UInt8) : st.at_ ≤ (st.numD s).at_ := by
  unfold PS.numD
  split
  · exact Nat.le_trans (PS.next_le _ _ _) (PS.digits_le _ _)
  · exact Nat.le_trans (PS.next_le _ _ _) (PS.digits_le _ _)
theorem PS.numC_le (st : PS) (s : List UInt8) : st.at_ ≤ (st.numC s).at_ := by
  unfold PS.numC
  split
  · exact Nat.le_trans (PS.next_le _ _ _) (PS.numD_le _ _)
  · split
    · exact Nat.le_trans (PS.next_le _ _ _) (PS.numD_le _ _)
    · exact Nat.le_refl _
theorem PS.numb_le (st : PS) (s : List UInt8) : st.at_ ≤ (st.numb s).at_ := Nat.le_trans (PS.numA_le _ _) (Nat.le_trans (PS.numB_le _ _) (PS.numC_le _ _))
theorem PS.word_le (s : List UInt8) : ∀ (w : List UInt8) (st : PS), st.at_ ≤ (st.word s w).at_
  | [], st => Nat.le_refl _
  | c :: w, st => by
    unfold PS.word
    split
    · exact Nat.le_trans (PS.must_le _ _ _) (PS.word_le s w _)
    · exact PS.must_le _ _ _
theorem escU_le {s : List UInt8} {k : Nat} {x : List UInt8} {k' : Nat} (h : escU s k = some (x, k')) : k + 6 ≤ k' := by
  unfold escU at h
  split at h
  · split at h
    · cases h; omega
    · cases h
  · split at h
    · cases h
    · cases h; omega
theorem escP_le {s : List UInt8} {k : Nat} {x : List UInt8} {k' : Nat} (h : escP s k = some (x, k')) : k + 2 ≤ k' := by
  unfold escP at h
  split at h
  · cases h; omega
  · have := escU_le h; omega
theorem textP_le (s : List UInt8) : ∀ (n k : Nat) (out : List UInt8), k ≤ (textP s n k out).2
  | 0, k, _ => Nat.le_refl _
  | n + 1, k, out => by
    unfold textP
    split
    · exact Nat.le_refl _
    · split
      · simp
      · split
        · exact Nat.le_refl _
        · split
          · split
            · exact Nat.le_refl _
            · rename_i he
              have := escP_le he
              have h2 := textP_le s n
              exact Nat.le_trans (by omega) (h2 _ _)
          · split
            · exact Nat.le_refl _
            · exact Nat.le_trans (by omega) (textP_le s n _ _)
theorem PS.text_le (st : PS) (s : List UInt8) : st.at_ ≤ (st.text s).at_ := by
  have h1 := PS.must_le st s 34
  have h2 : (st.must s 34).at_ ≤ (st.textOf s).2 := textP_le _ _ _ _
  unfold PS.text
  split
  · split
    · exact Nat.le_trans h1 h2
    · rw [PS.fail_at]; exact Nat.le_trans h1 h2
  · exact h1
theorem PS.openA_at (st : PS) : st.openA.at_ = st.at_ := by unfold PS.openA; split <;> simp [PS.fail_at, PS.deeper]
theorem PS.open_le (st : PS) (s : List UInt8) : st.at_ + 1 ≤ (st.open_ s).at_ := by
  unfold PS.open_
  exact PS.blanks_le (st.openA.to (st.at_ + 1)) s
section
variable {α : Type} {s : List UInt8} {e : UInt8} {one : α → PS → α × PS}
theorem loopP_le (h : ∀ x st, st.at_ ≤ (one x st).2.at_) : ∀ (n : Nat) (x : α) (st : PS), st.at_ ≤ (loopP s e one n x st).2.at_
  | 0, x, st => Nat.le_refl _
  | n + 1, x, st => by
    have h1 := h x st
    have h2 := PS.blanks_le (one x st).2 s
    have h3 := PS.must_le ((one x st).2.blanks s) s 44
    have h4 := PS.blanks_le (((one x st).2.blanks s).must s 44) s
    unfold loopP
    split
    · split
      · exact Nat.le_trans (Nat.le_trans h1 h2) (PS.next_le _ _ _)
      · split
        · have h5 := loopP_le h n (one x st).1 ((((one x st).2.blanks s).must s 44).blanks s)
          omega
        · dsimp only; omega
    · dsimp only; omega
theorem memP_le (h : ∀ x st, st.at_ ≤ (one x st).2.at_) (n : Nat) (x : α) (st : PS) : st.at_ + 1 ≤ (memP s e one n x st).2.at_ := by
  have h1 := PS.open_le st s
  unfold memP
  split
  · exact Nat.le_trans h1 (PS.next_le (st.open_ s) s e)
  · split
    · exact Nat.le_trans h1 (loopP_le h n x (st.open_ s))
    · exact h1
end
theorem PS.key_le (st : PS) (s : List UInt8) (ks : List (List UInt8)) : st.at_ ≤ (st.key s ks).at_ := by
  have := PS.text_le st s
  unfold PS.key
  split
  · rw [PS.fail_at]; exact this
  · exact this
theorem PS.colon_le (st : PS) (s : List UInt8) : st.at_ ≤ (st.colon s).at_ := by
  unfold PS.colon
  exact Nat.le_trans (Nat.le_trans (PS.blanks_le st s) (PS.must_le _ _ _)) (PS.blanks_le _ _)
theorem valP_le (s : List UInt8) : ∀ (n : Nat) (st : PS), st.at_ ≤ (valP s n st).2.at_
  | 0, st => Nat.le_refl _
  | n + 1, st => by
    have hv := valP_le s n
    unfold valP
    split
    · split
      · have := PS.numb_le (st.fail st.at_ 2) s
        rw [PS.fail_at] at this
        exact this
      · split
        · have := memP_le (s := s) (e := 125) (one := objOne s (valP s n)) (fun x st => Nat.le_trans (Nat.le_trans (PS.key_le st s x.1) (PS.colon_le _ _)) (hv _)) n ([], []) st
          dsimp only
          omega
        · split
          · have := memP_le (s := s) (e := 93) (one := listOne (valP s n)) (fun x st => hv _) n [] st
            dsimp only
            omega
          · split
            · exact PS.text_le _ _
            · split
              · exact PS.word_le _ _ _
              · split
                · exact PS.word_le _ _ _
                · split
                  · exact PS.word_le _ _ _
                  · exact PS.numb_le _ _
    · exact Nat.le_refl _
theorem PS.next_depth (st : PS) (s : List UInt8) (c : UInt8) : (st.next s c).depth = st.depth := by unfold PS.next; split <;> rfl
theorem PS.must_depth (st : PS) (s : List UInt8) (c : UInt8) : (st.must s c).depth = st.depth := by
  unfold PS.must
  split
  · rfl
  · exact PS.fail_depth _ _ _
theorem PS.blanks_depth (st : PS) (s : List UInt8) : (st.blanks s).depth = st.depth := rfl
theorem PS.open_depth (st : PS) (s : List UInt8) : (st.open_ s).depth = st.depth + 1 := by
  unfold PS.open_
  show st.openA.depth = _
  unfold PS.openA
  split
  · rw [PS.fail_depth]; rfl
  · rfl
theorem PS.digits_depth (st : PS) (s : List UInt8) : (st.digits s).depth = st.depth := by
  unfold PS.digits
  split
  · exact PS.fail_depth _ _ _
  · rfl
theorem PS.numb_depth (st : PS) (s : List UInt8) : (st.numb s).depth = st.depth := by
  have hA : ∀ a : PS, (a.numA s).depth = a.depth := fun a => by
    unfold PS.numA
    split
    · rw [PS.next_depth, PS.next_depth]
    · rw [PS.digits_depth, PS.next_depth]
  have hB : ∀ a : PS, (a.numB s).depth = a.depth := fun a => by
    unfold PS.numB
    split
    · rw [PS.digits_depth, PS.next_depth]
    · rfl
  have hD : ∀ a : PS, (a.numD s).depth = a.depth := fun a => by
    unfold PS.numD
    split
    · rw [PS.digits_depth, PS.next_depth]
    · rw [PS.digits_depth, PS.next_depth]
  have hC : ∀ a : PS, (a.numC s).depth = a.depth := fun a => by
    unfold PS.numC
    split
    · rw [hD, PS.next_depth]
    · split
      · rw [hD, PS.next_depth]
      · rfl
  unfold PS.numb
  rw [hC, hB, hA]
theorem PS.word_depth (s : List UInt8) : ∀ (w : List UInt8) (st : PS), (st.word s w).depth = st.depth
  | [], _ => rfl
  | c :: w, st => by
    unfold PS.word
    split
    · rw [PS.word_depth s w, PS.must_depth]
    · exact PS.must_depth _ _ _
theorem PS.text_depth (st : PS) (s : List UInt8) : (st.text s).depth = st.depth := by
  unfold PS.text
  split
  · split
    · exact PS.must_depth _ _ _
    · rw [PS.fail_depth]; exact PS.must_depth _ _ _
  · exact PS.must_depth _ _ _
theorem PS.key_depth (st : PS) (s : List UInt8) (ks : List (List UInt8)) : (st.key s ks).depth = st.depth := by
  unfold PS.key
  split
  · rw [PS.fail_depth, PS.text_depth]
  · exact PS.text_depth _ _
theorem PS.colon_depth (st : PS) (s : List UInt8) : (st.colon s).depth = st.depth := by
  unfold PS.colon
  rw [PS.blanks_depth, PS.must_depth, PS.blanks_depth]
section
variable {α : Type} {s : List UInt8} {e : UInt8} {one : α → PS → α × PS}
theorem loopP_depth (h : ∀ x st, (one x st).2.depth = st.depth) : ∀ (n : Nat) (x : α) (st : PS), (loopP s e one n x st).2.depth = st.depth
  | 0, _, _ => rfl
  | n + 1, x, st => by
    unfold loopP
    split
    · split
      · rw [PS.next_depth, PS.blanks_depth, h]
      · split
        · rw [loopP_depth h n, PS.blanks_depth, PS.must_depth, PS.blanks_depth, h]
        · rw [PS.blanks_depth, PS.must_depth, PS.blanks_depth, h]
    · rw [PS.blanks_depth, h]
theorem memP_depth (h : ∀ x st, (one x st).2.depth = st.depth) (n : Nat) (x : α) (st : PS) : (memP s e one n x st).2.depth = st.depth := by
  have ho := PS.open_depth st s
  unfold memP
  split
  · show ((st.open_ s).next s e).depth - 1 = _
    rw [PS.next_depth, ho]
    omega
  · split
    · show (loopP s e one n x (st.open_ s)).2.depth - 1 = _
      rw [loopP_depth h, ho]
      omega
    · show (st.open_ s).depth - 1 = _
      rw [ho]
      omega
end
theorem valP_depth (s : List UInt8) : ∀ (n : Nat) (st : PS), (valP s n st).2.depth = st.depth
  | 0, _ => rfl
  | n + 1, st => by
    have hv := valP_depth s n
    unfold valP
    split
    · split
      · dsimp only; rw [PS.numb_depth, PS.fail_depth]
      · split
        · exact memP_depth (fun x st => by dsimp only [objOne]; rw [hv, PS.colon_depth, PS.key_depth]) n ([], []) st
        · split
          · exact memP_depth (s := s) (e := 93) (one := listOne (valP s n)) (fun x st => hv st) n [] st
          · split
            · exact PS.text_depth _ _
            · split
              · exact PS.word_depth _ _ _
              · split
                · exact PS.word_depth _ _ _
                · split
                  · exact PS.word_depth _ _ _
                  · exact PS.numb_depth _ _
    · rfl
end Go.Proofs.YtkbopeoaoakfnaaDoor
