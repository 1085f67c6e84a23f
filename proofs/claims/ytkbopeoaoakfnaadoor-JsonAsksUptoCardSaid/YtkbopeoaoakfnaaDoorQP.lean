/- The texts JP0 JP1 JT0 JW0 JW4 JK1 of this work, merged by wip/merge.py. No conditions. -/
import Derived.Lib.RuneBytes
import Derived.Lib.MapLaws
namespace Go.Proofs.YtkbopeoaoakfnaaDoor
open Go
/-- A JSON value; nil is what is answered behind a fault. -/
inductive JV where
  | nil
  | null
  | bool (b : Bool)
  | num (s : List UInt8)
  | text (s : List UInt8)
  | list (l : List JV)
  | obj (ks : List (List UInt8)) (vs : List JV)
/-- What a parser of the text s knows: its place, its depth, what it stopped at. -/
structure PS where
  at_ : Nat
  depth : Int
  fault : Option (Int × Int)
deriving DecidableEq
def PS.fail (st : PS) (a e : Int) : PS := match st.fault with | none => { st with fault := some (a, e) } | some _ => st
/-- Is c next? -/
def PS.sees (st : PS) (s : List UInt8) (c : UInt8) : Bool := s[st.at_]? == some c
def PS.next (st : PS) (s : List UInt8) (c : UInt8) : PS := if st.sees s c then { st with at_ := st.at_ + 1 } else st
def PS.must (st : PS) (s : List UInt8) (c : UInt8) : PS := if st.sees s c then { st with at_ := st.at_ + 1 } else st.fail st.at_ 2
def PS.to (st : PS) (k : Nat) : PS := { st with at_ := k }
def blankB (c : UInt8) : Bool := c == 32 || c == 9 || c == 10 || c == 13
def digitB (c : UInt8) : Bool := decide (48 ≤ c.toNat ∧ c.toNat ≤ 57)
def runB (p : UInt8 → Bool) (l : List UInt8) : Nat := (l.takeWhile p).length
def PS.blanks (st : PS) (s : List UInt8) : PS := st.to (st.at_ + runB blankB (s.drop st.at_))
def PS.digits (st : PS) (s : List UInt8) : PS := if runB digitB (s.drop st.at_) = 0 then st.fail st.at_ 2 else st.to (st.at_ + runB digitB (s.drop st.at_))
def PS.numA (st : PS) (s : List UInt8) : PS := if (st.next s 45).sees s 48 then (st.next s 45).next s 48 else (st.next s 45).digits s
def PS.numB (st : PS) (s : List UInt8) : PS := if st.fault = none ∧ st.sees s 46 = true then (st.next s 46).digits s else st
def PS.numD (st : PS) (s : List UInt8) : PS := if st.sees s 43 then (st.next s 43).digits s else (st.next s 45).digits s
def PS.numC (st : PS) (s : List UInt8) : PS :=
  if st.fault = none ∧ st.sees s 101 = true then (st.next s 101).numD s
  else if st.fault = none ∧ st.sees s 69 = true then (st.next s 69).numD s
  else st
def PS.numb (st : PS) (s : List UInt8) : PS := ((st.numA s).numB s).numC s
def PS.numS (st : PS) (s : List UInt8) : List UInt8 := (s.drop st.at_).take ((st.numb s).at_ - st.at_)
def PS.word (st : PS) (s : List UInt8) : List UInt8 → PS
  | [] => st
  | c :: w => if (st.must s c).fault = none then (st.must s c).word s w else st.must s c
/-- A hexadecimal digit's number; below 0: it is none. -/
def hexZ (c : Nat) : Int := if 48 ≤ c ∧ c ≤ 57 then (c : Int) - 48 else if 97 ≤ c ∧ c ≤ 102 then (c : Int) - 87 else if 65 ≤ c ∧ c ≤ 70 then (c : Int) - 55 else -1
def hexP : List UInt8 → Int → Int
  | [], n => n
  | c :: l, n => if hexZ c.toNat < 0 then -1 else hexP l (n * 16 + hexZ c.toNat)
/-- The number of the escape at k; -1: it is none. -/
def codeP (s : List UInt8) (k : Nat) : Int := if s.length < k + 6 ∨ (s.drop k).take 2 ≠ [92, 117] then -1 else hexP ((s.drop (k + 2)).take 4) 0
/-- What the escapes of one letter stand for. -/
def single (c : UInt8) : Option UInt8 :=
  if c = 34 then some 34 else if c = 92 then some 92 else if c = 47 then some 47 else if c = 98 then some 8 else if c = 102 then some 12 else if c = 110 then some 10 else if c = 114 then some 13 else if c = 116 then some 9 else none
def escU (s : List UInt8) (k : Nat) : Option (List UInt8 × Nat) :=
  if 55296 ≤ codeP s k ∧ codeP s k < 56320 then
    (if 56320 ≤ codeP s (k + 6) ∧ codeP s (k + 6) < 57344 then some (Lib.encodeRune (65536 + (codeP s k - 55296) * 1024 + codeP s (k + 6) - 56320), k + 12) else none)
  else if codeP s k < 0 ∨ (56320 ≤ codeP s k ∧ codeP s k < 57344) then none
  else some (Lib.encodeRune (codeP s k), k + 6)
/-- The escape at k: its bytes and the place behind it. -/
def escP (s : List UInt8) (k : Nat) : Option (List UInt8 × Nat) :=
  match (s[k + 1]?).bind single with
  | some b => some ([b], k + 2)
  | none => escU s k
/-- The width of the rune at the head; 0: it is no UTF-8. -/
def runeW (l : List UInt8) : Nat := if l = [] ∨ ((Lib.decodeL l).1 = 65533 ∧ (Lib.decodeL l).2 = 1) then 0 else (Lib.decodeL l).2
/-- A text from k on, behind its quotation mark; none: it is wrong at that place. -/
def textP (s : List UInt8) : Nat → Nat → List UInt8 → Option (List UInt8) × Nat
  | 0, k, _ => (none, k)
  | n + 1, k, out =>
    match s[k]? with
    | none => (none, k)
    | some c =>
      if c = 34 then (some out, k + 1)
      else if c.toNat < 32 then (none, k)
      else if c = 92 then (match escP s k with | none => (none, k) | some (x, k') => textP s n k' (out ++ x))
      else if runeW (s.drop k) = 0 then (none, k)
      else textP s n (k + runeW (s.drop k)) (out ++ (s.drop k).take (runeW (s.drop k)))
def PS.textOf (st : PS) (s : List UInt8) : Option (List UInt8) × Nat := textP s (s.length + 1) (st.must s 34).at_ []
def PS.textV (st : PS) (s : List UInt8) : List UInt8 := if (st.must s 34).fault = none then ((st.textOf s).1).getD [] else []
def PS.text (st : PS) (s : List UInt8) : PS :=
  if (st.must s 34).fault = none then (match (st.textOf s).1 with | some _ => (st.must s 34).to (st.textOf s).2 | none => ((st.must s 34).to (st.textOf s).2).fail (st.textOf s).2 2)
  else st.must s 34
def PS.deeper (st : PS) : PS := { st with depth := st.depth + 1 }
def PS.higher (st : PS) : PS := { st with depth := st.depth - 1 }
def PS.openA (st : PS) : PS := if 16 < st.depth + 1 then st.deeper.fail st.at_ 6 else st.deeper
def PS.open_ (st : PS) (s : List UInt8) : PS := (st.openA.to (st.at_ + 1)).blanks s
/-- What stands between brackets, from the first on. -/
def loopP {α : Type} (s : List UInt8) (e : UInt8) (one : α → PS → α × PS) : Nat → α → PS → α × PS
  | 0, x, st => (x, st)
  | n + 1, x, st =>
    if ((one x st).2.blanks s).fault = none then
      (if ((one x st).2.blanks s).sees s e then ((one x st).1, ((one x st).2.blanks s).next s e)
       else if ((((one x st).2.blanks s).must s 44).blanks s).fault = none then loopP s e one n (one x st).1 ((((one x st).2.blanks s).must s 44).blanks s)
       else ((one x st).1, (((one x st).2.blanks s).must s 44).blanks s))
    else ((one x st).1, (one x st).2.blanks s)
def memP {α : Type} (s : List UInt8) (e : UInt8) (one : α → PS → α × PS) (n : Nat) (x : α) (st : PS) : α × PS :=
  if (st.open_ s).sees s e then (x, ((st.open_ s).next s e).higher)
  else if (st.open_ s).fault = none then ((loopP s e one n x (st.open_ s)).1, (loopP s e one n x (st.open_ s)).2.higher)
  else (x, (st.open_ s).higher)
def listOne (val : PS → JV × PS) (l : List JV) (st : PS) : List JV × PS := (l ++ [(val st).1], (val st).2)
/-- Behind a key: is it there already? Then the colon. -/
def PS.key (st : PS) (s : List UInt8) (ks : List (List UInt8)) : PS := if (st.text s).fault = none ∧ st.textV s ∈ ks then (st.text s).fail st.at_ 2 else st.text s
def PS.colon (st : PS) (s : List UInt8) : PS := ((st.blanks s).must s 58).blanks s
def objOne (s : List UInt8) (val : PS → JV × PS) (x : List (List UInt8) × List JV) (st : PS) : (List (List UInt8) × List JV) × PS :=
  ((x.1 ++ [st.textV s], x.2 ++ [(val ((st.key s x.1).colon s)).1]), (val ((st.key s x.1).colon s)).2)
def valP (s : List UInt8) : Nat → PS → JV × PS
  | 0, st => (.nil, st)
  | n + 1, st =>
    if st.fault = none then
      (match s[st.at_]? with
      | none => (.num ((st.fail st.at_ 2).numS s), (st.fail st.at_ 2).numb s)
      | some c =>
        if c = 123 then (.obj (memP s 125 (objOne s (valP s n)) n ([], []) st).1.1 (memP s 125 (objOne s (valP s n)) n ([], []) st).1.2, (memP s 125 (objOne s (valP s n)) n ([], []) st).2)
        else if c = 91 then (.list (memP s 93 (listOne (valP s n)) n [] st).1, (memP s 93 (listOne (valP s n)) n [] st).2)
        else if c = 34 then (.text (st.textV s), st.text s)
        else if c = 116 then (.bool true, st.word s [116, 114, 117, 101])
        else if c = 102 then (.bool false, st.word s [102, 97, 108, 115, 101])
        else if c = 110 then (.null, st.word s [110, 117, 108, 108])
        else (.num (st.numS s), st.numb s))
    else (.nil, st)
def startP (s : List UInt8) : PS := (PS.mk 0 0 none).blanks s
def bodyP (s : List UInt8) : JV × PS := valP s (s.length + 1) (startP s)
def endP (s : List UInt8) : PS := if ((bodyP s).2.blanks s).fault = none ∧ ((bodyP s).2.blanks s).at_ < s.length then ((bodyP s).2.blanks s).fail ((bodyP s).2.blanks s).at_ 2 else (bodyP s).2.blanks s
/-- What Parse answers. -/
def parseP (s : List UInt8) : JV × Int × Int :=
  if 8192 < s.length then (.nil, 0, 6) else
  match (endP s).fault with
  | some (k, e) => (.nil, k, e)
  | none => ((bodyP s).1, 0, 0)
end Go.Proofs.YtkbopeoaoakfnaaDoor

namespace Go.Proofs.YtkbopeoaoakfnaaDoor
open Go
theorem PS.fail_at (st : PS) (a e : Int) : (st.fail a e).at_ = st.at_ := by unfold PS.fail; split <;> rfl
theorem PS.fail_depth (st : PS) (a e : Int) : (st.fail a e).depth = st.depth := by unfold PS.fail; split <;> rfl
theorem PS.fail_ne (st : PS) (a e : Int) : (st.fail a e).fault ≠ none := by
  unfold PS.fail
  cases h : st.fault with
  | none => simp
  | some x => simp [h]
theorem PS.fail_none {st : PS} (h : st.fault = none) (a e : Int) : st.fail a e = { st with fault := some (a, e) } := by unfold PS.fail; rw [h]
theorem PS.fail_some {st : PS} (h : st.fault ≠ none) (a e : Int) : st.fail a e = st := by
  unfold PS.fail
  split
  · rename_i h2; exact absurd h2 h
  · rfl
theorem PS.next_le (st : PS) (s : List UInt8) (c : UInt8) : st.at_ ≤ (st.next s c).at_ := by unfold PS.next; split <;> simp
theorem PS.must_le (st : PS) (s : List UInt8) (c : UInt8) : st.at_ ≤ (st.must s c).at_ := by
  unfold PS.must
  split
  · simp
  · rw [PS.fail_at]; exact Nat.le_refl _
theorem PS.must_ok {st : PS} {s : List UInt8} {c : UInt8} (h : (st.must s c).fault = none) : (st.must s c).at_ = st.at_ + 1 ∧ st.fault = none ∧ st.sees s c = true := by
  unfold PS.must at h ⊢
  split
  · rename_i hs
    rw [if_pos hs] at h
    exact ⟨rfl, h, hs⟩
  · rename_i hs
    rw [if_neg hs] at h
    exact absurd h (PS.fail_ne _ _ _)
theorem PS.blanks_le (st : PS) (s : List UInt8) : st.at_ ≤ (st.blanks s).at_ := by unfold PS.blanks PS.to; simp
theorem PS.blanks_fault (st : PS) (s : List UInt8) : (st.blanks s).fault = st.fault := rfl
theorem PS.next_fault (st : PS) (s : List UInt8) (c : UInt8) : (st.next s c).fault = st.fault := by unfold PS.next; split <;> rfl
theorem PS.digits_le (st : PS) (s : List UInt8) : st.at_ ≤ (st.digits s).at_ := by
  unfold PS.digits
  split
  · rw [PS.fail_at]; exact Nat.le_refl _
  · simp [PS.to]
theorem PS.numA_le (st : PS) (s : List UInt8) : st.at_ ≤ (st.numA s).at_ := by
  unfold PS.numA
  split
  · exact Nat.le_trans (PS.next_le _ _ _) (PS.next_le _ _ _)
  · exact Nat.le_trans (PS.next_le _ _ _) (PS.digits_le _ _)
theorem PS.numB_le (st : PS) (s : List UInt8) : st.at_ ≤ (st.numB s).at_ := by
  unfold PS.numB
  split
  · exact Nat.le_trans (PS.next_le _ _ _) (PS.digits_le _ _)
  · exact Nat.le_refl _
theorem PS.numD_le (st : PS) (s : List UInt8) : st.at_ ≤ (st.numD s).at_ := by
  unfold PS.numD
  split
  · exact Nat.le_trans (PS.next_le _ _ _) (PS.digits_le _ _)
  · exact Nat.le_trans (PS.next_le _ _ _) (PS.digits_le _ _)
theorem PS.numC_le (st : PS) (s : List UInt8) : st.at_ ≤ (st.numC s).at_ := by
  unfold PS.numC
  split
  · exact Nat.le_trans (PS.next_le _ _ _) (PS.numD_le _ _)
  · split
    · exact Nat.le_trans (PS.next_le _ _ _) (PS.numD_le _ _)
    · exact Nat.le_refl _
theorem PS.numb_le (st : PS) (s : List UInt8) : st.at_ ≤ (st.numb s).at_ := Nat.le_trans (PS.numA_le _ _) (Nat.le_trans (PS.numB_le _ _) (PS.numC_le _ _))
theorem PS.word_le (s : List UInt8) : ∀ (w : List UInt8) (st : PS), st.at_ ≤ (st.word s w).at_
  | [], st => Nat.le_refl _
  | c :: w, st => by
    unfold PS.word
    split
    · exact Nat.le_trans (PS.must_le _ _ _) (PS.word_le s w _)
    · exact PS.must_le _ _ _
theorem escU_le {s : List UInt8} {k : Nat} {x : List UInt8} {k' : Nat} (h : escU s k = some (x, k')) : k + 6 ≤ k' := by
  unfold escU at h
  split at h
  · split at h
    · cases h; omega
    · cases h
  · split at h
    · cases h
    · cases h; omega
theorem escP_le {s : List UInt8} {k : Nat} {x : List UInt8} {k' : Nat} (h : escP s k = some (x, k')) : k + 2 ≤ k' := by
  unfold escP at h
  split at h
  · cases h; omega
  · have := escU_le h; omega
theorem textP_le (s : List UInt8) : ∀ (n k : Nat) (out : List UInt8), k ≤ (textP s n k out).2
  | 0, k, _ => Nat.le_refl _
  | n + 1, k, out => by
    unfold textP
    split
    · exact Nat.le_refl _
    · split
      · simp
      · split
        · exact Nat.le_refl _
        · split
          · split
            · exact Nat.le_refl _
            · rename_i he
              have := escP_le he
              have h2 := textP_le s n
              exact Nat.le_trans (by omega) (h2 _ _)
          · split
            · exact Nat.le_refl _
            · exact Nat.le_trans (by omega) (textP_le s n _ _)
theorem PS.text_le (st : PS) (s : List UInt8) : st.at_ ≤ (st.text s).at_ := by
  have h1 := PS.must_le st s 34
  have h2 : (st.must s 34).at_ ≤ (st.textOf s).2 := textP_le _ _ _ _
  unfold PS.text
  split
  · split
    · exact Nat.le_trans h1 h2
    · rw [PS.fail_at]; exact Nat.le_trans h1 h2
  · exact h1
theorem PS.openA_at (st : PS) : st.openA.at_ = st.at_ := by unfold PS.openA; split <;> simp [PS.fail_at, PS.deeper]
theorem PS.open_le (st : PS) (s : List UInt8) : st.at_ + 1 ≤ (st.open_ s).at_ := by
  unfold PS.open_
  exact PS.blanks_le (st.openA.to (st.at_ + 1)) s
section
variable {α : Type} {s : List UInt8} {e : UInt8} {one : α → PS → α × PS}
theorem loopP_le (h : ∀ x st, st.at_ ≤ (one x st).2.at_) : ∀ (n : Nat) (x : α) (st : PS), st.at_ ≤ (loopP s e one n x st).2.at_
  | 0, x, st => Nat.le_refl _
  | n + 1, x, st => by
    have h1 := h x st
    have h2 := PS.blanks_le (one x st).2 s
    have h3 := PS.must_le ((one x st).2.blanks s) s 44
    have h4 := PS.blanks_le (((one x st).2.blanks s).must s 44) s
    unfold loopP
    split
    · split
      · exact Nat.le_trans (Nat.le_trans h1 h2) (PS.next_le _ _ _)
      · split
        · have h5 := loopP_le h n (one x st).1 ((((one x st).2.blanks s).must s 44).blanks s)
          omega
        · dsimp only; omega
    · dsimp only; omega
theorem memP_le (h : ∀ x st, st.at_ ≤ (one x st).2.at_) (n : Nat) (x : α) (st : PS) : st.at_ + 1 ≤ (memP s e one n x st).2.at_ := by
  have h1 := PS.open_le st s
  unfold memP
  split
  · exact Nat.le_trans h1 (PS.next_le (st.open_ s) s e)
  · split
    · exact Nat.le_trans h1 (loopP_le h n x (st.open_ s))
    · exact h1
end
theorem PS.key_le (st : PS) (s : List UInt8) (ks : List (List UInt8)) : st.at_ ≤ (st.key s ks).at_ := by
  have := PS.text_le st s
  unfold PS.key
  split
  · rw [PS.fail_at]; exact this
  · exact this
theorem PS.colon_le (st : PS) (s : List UInt8) : st.at_ ≤ (st.colon s).at_ := by
  unfold PS.colon
  exact Nat.le_trans (Nat.le_trans (PS.blanks_le st s) (PS.must_le _ _ _)) (PS.blanks_le _ _)
theorem valP_le (s : List UInt8) : ∀ (n : Nat) (st : PS), st.at_ ≤ (valP s n st).2.at_
  | 0, st => Nat.le_refl _
  | n + 1, st => by
    have hv := valP_le s n
    unfold valP
    split
    · split
      · have := PS.numb_le (st.fail st.at_ 2) s
        rw [PS.fail_at] at this
        exact this
      · split
        · have := memP_le (s := s) (e := 125) (one := objOne s (valP s n)) (fun x st => Nat.le_trans (Nat.le_trans (PS.key_le st s x.1) (PS.colon_le _ _)) (hv _)) n ([], []) st
          dsimp only
          omega
        · split
          · have := memP_le (s := s) (e := 93) (one := listOne (valP s n)) (fun x st => hv _) n [] st
            dsimp only
            omega
          · split
            · exact PS.text_le _ _
            · split
              · exact PS.word_le _ _ _
              · split
                · exact PS.word_le _ _ _
                · split
                  · exact PS.word_le _ _ _
                  · exact PS.numb_le _ _
    · exact Nat.le_refl _
theorem PS.next_depth (st : PS) (s : List UInt8) (c : UInt8) : (st.next s c).depth = st.depth := by unfold PS.next; split <;> rfl
theorem PS.must_depth (st : PS) (s : List UInt8) (c : UInt8) : (st.must s c).depth = st.depth := by
  unfold PS.must
  split
  · rfl
  · exact PS.fail_depth _ _ _
theorem PS.blanks_depth (st : PS) (s : List UInt8) : (st.blanks s).depth = st.depth := rfl
theorem PS.open_depth (st : PS) (s : List UInt8) : (st.open_ s).depth = st.depth + 1 := by
  unfold PS.open_
  show st.openA.depth = _
  unfold PS.openA
  split
  · rw [PS.fail_depth]; rfl
  · rfl
theorem PS.digits_depth (st : PS) (s : List UInt8) : (st.digits s).depth = st.depth := by
  unfold PS.digits
  split
  · exact PS.fail_depth _ _ _
  · rfl
theorem PS.numb_depth (st : PS) (s : List UInt8) : (st.numb s).depth = st.depth := by
  have hA : ∀ a : PS, (a.numA s).depth = a.depth := fun a => by
    unfold PS.numA
    split
    · rw [PS.next_depth, PS.next_depth]
    · rw [PS.digits_depth, PS.next_depth]
  have hB : ∀ a : PS, (a.numB s).depth = a.depth := fun a => by
    unfold PS.numB
    split
    · rw [PS.digits_depth, PS.next_depth]
    · rfl
  have hD : ∀ a : PS, (a.numD s).depth = a.depth := fun a => by
    unfold PS.numD
    split
    · rw [PS.digits_depth, PS.next_depth]
    · rw [PS.digits_depth, PS.next_depth]
  have hC : ∀ a : PS, (a.numC s).depth = a.depth := fun a => by
    unfold PS.numC
    split
    · rw [hD, PS.next_depth]
    · split
      · rw [hD, PS.next_depth]
      · rfl
  unfold PS.numb
  rw [hC, hB, hA]
theorem PS.word_depth (s : List UInt8) : ∀ (w : List UInt8) (st : PS), (st.word s w).depth = st.depth
  | [], _ => rfl
  | c :: w, st => by
    unfold PS.word
    split
    · rw [PS.word_depth s w, PS.must_depth]
    · exact PS.must_depth _ _ _
theorem PS.text_depth (st : PS) (s : List UInt8) : (st.text s).depth = st.depth := by
  unfold PS.text
  split
  · split
    · exact PS.must_depth _ _ _
    · rw [PS.fail_depth]; exact PS.must_depth _ _ _
  · exact PS.must_depth _ _ _
theorem PS.key_depth (st : PS) (s : List UInt8) (ks : List (List UInt8)) : (st.key s ks).depth = st.depth := by
  unfold PS.key
  split
  · rw [PS.fail_depth, PS.text_depth]
  · exact PS.text_depth _ _
theorem PS.colon_depth (st : PS) (s : List UInt8) : (st.colon s).depth = st.depth := by
  unfold PS.colon
  rw [PS.blanks_depth, PS.must_depth, PS.blanks_depth]
section
variable {α : Type} {s : List UInt8} {e : UInt8} {one : α → PS → α × PS}
theorem loopP_depth (h : ∀ x st, (one x st).2.depth = st.depth) : ∀ (n : Nat) (x : α) (st : PS), (loopP s e one n x st).2.depth = st.depth
  | 0, _, _ => rfl
  | n + 1, x, st => by
    unfold loopP
    split
    · split
      · rw [PS.next_depth, PS.blanks_depth, h]
      · split
        · rw [loopP_depth h n, PS.blanks_depth, PS.must_depth, PS.blanks_depth, h]
        · rw [PS.blanks_depth, PS.must_depth, PS.blanks_depth, h]
    · rw [PS.blanks_depth, h]
theorem memP_depth (h : ∀ x st, (one x st).2.depth = st.depth) (n : Nat) (x : α) (st : PS) : (memP s e one n x st).2.depth = st.depth := by
  have ho := PS.open_depth st s
  unfold memP
  split
  · show ((st.open_ s).next s e).depth - 1 = _
    rw [PS.next_depth, ho]
    omega
  · split
    · show (loopP s e one n x (st.open_ s)).2.depth - 1 = _
      rw [loopP_depth h, ho]
      omega
    · show (st.open_ s).depth - 1 = _
      rw [ho]
      omega
end
theorem valP_depth (s : List UInt8) : ∀ (n : Nat) (st : PS), (valP s n st).2.depth = st.depth
  | 0, _ => rfl
  | n + 1, st => by
    have hv := valP_depth s n
    unfold valP
    split
    · split
      · dsimp only; rw [PS.numb_depth, PS.fail_depth]
      · split
        · exact memP_depth (fun x st => by dsimp only [objOne]; rw [hv, PS.colon_depth, PS.key_depth]) n ([], []) st
        · split
          · exact memP_depth (s := s) (e := 93) (one := listOne (valP s n)) (fun x st => hv st) n [] st
          · split
            · exact PS.text_depth _ _
            · split
              · exact PS.word_depth _ _ _
              · split
                · exact PS.word_depth _ _ _
                · split
                  · exact PS.word_depth _ _ _
                  · exact PS.numb_depth _ _
    · rfl
end Go.Proofs.YtkbopeoaoakfnaaDoor

namespace Go.Proofs.YtkbopeoaoakfnaaDoor
open Go
theorem dl_ascii (c : UInt8) (l : List UInt8) (h : c.toNat < 128) : Lib.decodeL (c :: l) = (c.toNat, 1) := by
  rw [Lib.decodeL_N]
  simp [Lib.decodeN, h]
theorem runeW_ascii (c : UInt8) (l : List UInt8) (h : c.toNat < 128) : runeW (c :: l) = 1 := by
  unfold runeW
  rw [dl_ascii c l h, if_neg]
  rintro (h1 | ⟨h1, _⟩)
  · cases h1
  · simp only at h1; omega
theorem dl_high (c : UInt8) (l : List UInt8) (h : 128 ≤ c.toNat) : 128 ≤ (Lib.decodeL (c :: l)).1 := by
  rw [Lib.decodeL_N]
  rcases Lib.decodeN_shape (c :: l).length ((c :: l).getD 0 0).toNat ((c :: l).getD 1 0).toNat ((c :: l).getD 2 0).toNat ((c :: l).getD 3 0).toNat with ⟨h1, e⟩ | ⟨c1, c2, c3, cv, e⟩ | ⟨c1, c2, c3, c4, cv, cs, e⟩ | ⟨c1, c2, c3, c4, c5, cv, cw, e⟩ | e
  · simp at h1; omega
  · rw [e]; exact cv
  · rw [e]; dsimp only; omega
  · rw [e]; dsimp only; omega
  · rw [e]; decide
theorem runeW_other {l : List UInt8} (hne : l ≠ []) (h : (Lib.decodeL l).1 ≠ 65533) : runeW l = (Lib.decodeL l).2 := by
  unfold runeW
  rw [if_neg]
  rintro (h1 | ⟨h1, _⟩)
  · exact hne h1
  · exact h h1
theorem dl_err {l : List UInt8} (h : Lib.hasPrefix l [239, 191, 189] = true) : (Lib.decodeL l) = (65533, 3) := by
  match l, h with
  | a :: b :: c :: l, h =>
    simp [Lib.hasPrefix] at h
    obtain ⟨rfl, rfl, rfl⟩ := h
    rw [Lib.decodeL_N]
    simp [Lib.decodeN]
  | [], h => simp [Lib.hasPrefix] at h
  | [_], h => simp [Lib.hasPrefix] at h
  | [_, _], h => simp [Lib.hasPrefix] at h
theorem runeW_err {l : List UInt8} (h : Lib.hasPrefix l [239, 191, 189] = true) : runeW l = 3 := by
  unfold runeW
  rw [dl_err h, if_neg]
  rintro (h1 | ⟨_, h1⟩)
  · subst h1; simp [Lib.hasPrefix] at h
  · simp at h1
theorem runeW_bad {l : List UInt8} (hr : (Lib.decodeL l).1 = 65533) (h : Lib.hasPrefix l [239, 191, 189] = false) : runeW l = 0 := by
  by_cases hne : l = []
  · unfold runeW; rw [if_pos (.inl hne)]
  by_cases h1 : (Lib.decodeL l).2 = 1
  · unfold runeW; rw [if_pos (.inr ⟨hr, h1⟩)]
  · have h2 := Lib.encode_decode l hne (fun h => h1 h.2)
    rw [hr] at h2
    have h3 : Lib.encodeRune ((65533 : Nat) : Int) = [239, 191, 189] := by decide
    rw [h3] at h2
    exfalso
    have h4 : Lib.hasPrefix l [239, 191, 189] = true := by
      generalize (Lib.decodeL l).2 = n at h2
      match l, n, h2 with
      | a :: b :: c :: l, n + 3, h2 =>
        simp at h2
        obtain ⟨rfl, rfl, rfl, _⟩ := h2
        simp [Lib.hasPrefix]
      | [], n, h2 => simp at h2
      | [_], n, h2 => cases n <;> simp at h2
      | [_, _], 0, h2 => simp at h2
      | [_, _], 1, h2 => simp at h2
      | [_, _], n + 2, h2 => simp at h2
      | a :: b :: c :: l, 0, h2 => simp at h2
      | a :: b :: c :: l, 1, h2 => simp at h2
      | a :: b :: c :: l, 2, h2 => simp at h2
    rw [h4] at h
    cases h
theorem runeW_le (l : List UInt8) : runeW l ≤ l.length := by
  unfold runeW
  split
  · omega
  · rename_i h
    exact Lib.decodeL_le l (fun h1 => h (.inl h1))
/-- One step of a text: a rune that stands as it is. -/
theorem textP_fuel (s : List UInt8) : ∀ (N M k : Nat) (out : List UInt8), s.length - k < N → s.length - k < M → textP s N k out = textP s M k out
  | 0, _, _, _, h, _ => by omega
  | _ + 1, 0, _, _, _, h => by omega
  | N + 1, M + 1, k, out, hN, hM => by
    unfold textP
    cases hk : s[k]? with
    | none => rfl
    | some c =>
      have hlt : k < s.length := by
        rcases Nat.lt_or_ge k s.length with h' | h'
        · exact h'
        · rw [List.getElem?_eq_none h'] at hk; cases hk
      dsimp only
      split
      · rfl
      split
      · rfl
      split
      · cases he : escP s k with
        | none => rfl
        | some xk =>
          obtain ⟨x, k'⟩ := xk
          have := escP_le he
          exact textP_fuel s N M k' _ (by omega) (by omega)
      split
      · rfl
      · exact textP_fuel s N M _ _ (by omega) (by omega)
/-- The text from k on. -/
def textT (s : List UInt8) (k : Nat) (out : List UInt8) : Option (List UInt8) × Nat := textP s (s.length + 1) k out
theorem textT_open {s : List UInt8} {k : Nat} {out : List UInt8} : textT s k out = match s[k]? with
    | none => (none, k)
    | some c =>
      if c = 34 then (some out, k + 1)
      else if c.toNat < 32 then (none, k)
      else if c = 92 then (match escP s k with | none => (none, k) | some (x, k') => textT s k' (out ++ x))
      else if runeW (s.drop k) = 0 then (none, k)
      else textT s (k + runeW (s.drop k)) (out ++ (s.drop k).take (runeW (s.drop k))) := by
  conv => lhs; unfold textT textP
  cases hk : s[k]? with
  | none => rfl
  | some c =>
    have hlt : k < s.length := by
      rcases Nat.lt_or_ge k s.length with h' | h'
      · exact h'
      · rw [List.getElem?_eq_none h'] at hk; cases hk
    dsimp only
    split
    · rfl
    split
    · rfl
    split
    · cases he : escP s k with
      | none => rfl
      | some xk =>
        obtain ⟨x, k'⟩ := xk
        have := escP_le he
        exact textP_fuel s _ _ k' _ (by omega) (by omega)
    split
    · rfl
    · exact textP_fuel s _ _ _ _ (by omega) (by omega)
theorem textT_rune {s : List UInt8} {k : Nat} {out : List UInt8} {c : UInt8} (hc : s[k]? = some c) (h1 : c ≠ 34) (h2 : ¬ c.toNat < 32) (h3 : c ≠ 92) (hw : runeW (s.drop k) ≠ 0) :
    textT s k out = textT s (k + runeW (s.drop k)) (out ++ (s.drop k).take (runeW (s.drop k))) := by
  rw [textT_open, hc]
  dsimp only
  rw [if_neg h1, if_neg h2, if_neg h3, if_neg hw]
theorem take_more {s : List UInt8} {k n m : Nat} : (s.drop k).take n ++ (s.drop (k + n)).take m = (s.drop k).take (n + m) := by
  rw [← List.drop_drop, List.take_add]
end Go.Proofs.YtkbopeoaoakfnaaDoor

namespace Go.Proofs.YtkbopeoaoakfnaaDoor
open Go
/-- A hexadecimal digit. -/
def hexC (n : Nat) : UInt8 := [(48 : UInt8), 49, 50, 51, 52, 53, 54, 55, 56, 57, 97, 98, 99, 100, 101, 102].getD n 0
/-- What a rune is written as. -/
def quoteR (r : Nat) : List UInt8 :=
  if r = 34 ∨ r = 92 then 92 :: Lib.encodeRune r
  else if r < 32 then [92, 117, 48, 48, hexC (r / 16), hexC (r % 16)]
  else Lib.encodeRune r
def quoteD : Nat → List UInt8 → List UInt8
  | 0, _ => []
  | n + 1, l => if l = [] then [] else quoteR (Lib.decodeL l).1 ++ quoteD n (l.drop (Lib.decodeL l).2)
/-- A text between quotation marks. -/
def quoteB (s : List UInt8) : List UInt8 := 34 :: (quoteD s.length s ++ [34])
mutual
/-- What a value is printed as. -/
def prt : JV → List UInt8
  | .nil => [110, 117, 108, 108]
  | .null => [110, 117, 108, 108]
  | .bool b => Lib.formatBool b
  | .num s => s
  | .text s => quoteB s
  | .list l => 91 :: (prtL true l ++ [93])
  | .obj ks l => 123 :: (prtO true ks l ++ [125])
def prtL : Bool → List JV → List UInt8
  | _, [] => []
  | f, j :: l => (if f then [] else [44]) ++ (prt j ++ prtL false l)
def prtO : Bool → List (List UInt8) → List JV → List UInt8
  | _, _, [] => []
  | f, ks, j :: l => (if f then [] else [44]) ++ (quoteB (ks.headD []) ++ (58 :: (prt j ++ prtO false ks.tail l)))
end
theorem quoteB_pos (s : List UInt8) : 2 ≤ (quoteB s).length := by unfold quoteB; simp
mutual
theorem prtL_len : ∀ (f : Bool) (l : List JV), l.length ≤ (prtL f l).length + 1
  | _, [] => by simp
  | f, j :: l => by
    have h := prtL_len2 l
    rw [prtL]
    simp only [List.length_append, List.length_cons]
    omega
theorem prtL_len2 : ∀ (l : List JV), l.length ≤ (prtL false l).length
  | [] => by simp
  | j :: l => by
    have h := prtL_len2 l
    rw [prtL]
    simp only [List.length_append, List.length_cons, Bool.false_eq_true, if_false, List.length_nil]
    omega
end
theorem prtO_len : ∀ (f : Bool) (ks : List (List UInt8)) (l : List JV), l.length ≤ (prtO f ks l).length
  | _, _, [] => by simp
  | f, ks, j :: l => by
    have h := prtO_len false ks.tail l
    rw [prtO]
    simp only [List.length_append, List.length_cons]
    omega
theorem quoteD_fuel : ∀ (n m : Nat) (l : List UInt8), l.length ≤ n → l.length ≤ m → quoteD n l = quoteD m l
  | 0, 0, _, _, _ => rfl
  | 0, m + 1, l, h, _ => by
    have : l = [] := List.eq_nil_of_length_eq_zero (by omega)
    subst this
    rfl
  | n + 1, 0, l, _, h => by
    have : l = [] := List.eq_nil_of_length_eq_zero (by omega)
    subst this
    rfl
  | n + 1, m + 1, l, h1, h2 => by
    unfold quoteD
    split
    · rfl
    · rename_i hne
      have hw := Lib.decodeL_width l
      have hl : 0 < l.length := List.length_pos_iff.2 hne
      rw [quoteD_fuel n m (l.drop (Lib.decodeL l).2) (by rw [List.length_drop]; omega) (by rw [List.length_drop]; omega)]
/-- One rune more. -/
theorem quoteD_step (l : List UInt8) (hne : l ≠ []) : quoteD l.length l = quoteR (Lib.decodeL l).1 ++ quoteD (l.drop (Lib.decodeL l).2).length (l.drop (Lib.decodeL l).2) := by
  have hl : 0 < l.length := List.length_pos_iff.2 hne
  obtain ⟨n, hn⟩ : ∃ n, l.length = n + 1 := ⟨l.length - 1, by omega⟩
  rw [hn]
  conv => lhs; unfold quoteD
  rw [if_neg hne]
  have hw := Lib.decodeL_width l
  rw [quoteD_fuel n _ _ (by rw [List.length_drop]; omega) (Nat.le_refl _)]
end Go.Proofs.YtkbopeoaoakfnaaDoor

namespace Go.Proofs.YtkbopeoaoakfnaaDoor
open Go
theorem u8_of (x : Int) (h0 : 0 ≤ x) (h1 : x < 256) : (x.toNat.toUInt8).toNat = x.toNat := by
  rw [Nat.toUInt8_eq, UInt8.toNat_ofNat']
  omega
/-- What a rune's bytes decode to. -/
theorem decode_enc (r : Nat) (hr : r < 55296 ∨ (57343 < r ∧ r ≤ 1114111)) (t : List UInt8) : Lib.decodeL (Lib.encodeRune (r : Int) ++ t) = (r, (Lib.encodeRune (r : Int)).length) := by
  rw [Lib.decodeL_N]
  unfold Lib.encodeRune
  by_cases h1 : r ≤ 127
  · rw [Lib.encodeRuneZ_one (by omega) (by omega)]
    have e0 := u8_of (r : Int) (by omega) (by omega)
    simp only [List.map_cons, List.map_nil, List.cons_append, List.nil_append, List.getD_cons_zero, List.length_cons, List.length_nil]
    rw [e0]
    unfold Lib.decodeN
    rw [if_pos (by omega), Int.toNat_natCast]
  by_cases h2 : r ≤ 2047
  · rw [Lib.encodeRuneZ_two (by omega) (by omega)]
    have e0 : ((192 + (r : Int) / 64 : Int).toNat.toUInt8).toNat = 192 + r / 64 := (u8_of _ (by omega) (by omega)).trans (by omega)
    have e1 : ((128 + (r : Int) % 64 : Int).toNat.toUInt8).toNat = 128 + r % 64 := (u8_of _ (by omega) (by omega)).trans (by omega)
    simp only [List.map_cons, List.map_nil, List.cons_append, List.nil_append, List.getD_cons_zero, List.getD_cons_succ, List.length_cons, List.length_nil]
    rw [e0, e1]
    unfold Lib.decodeN
    rw [if_neg (by omega), if_pos (by omega), if_pos (by omega)]
    simp only [Prod.mk.injEq, and_true]
    omega
  by_cases h3 : r ≤ 65535
  · rw [Lib.encodeRuneZ_three (by omega)]
    have e0 : ((224 + (r : Int) / 4096 : Int).toNat.toUInt8).toNat = 224 + r / 4096 := (u8_of _ (by omega) (by omega)).trans (by omega)
    have e1 : ((128 + (r : Int) / 64 % 64 : Int).toNat.toUInt8).toNat = 128 + r / 64 % 64 := (u8_of _ (by omega) (by omega)).trans (by omega)
    have e2 : ((128 + (r : Int) % 64 : Int).toNat.toUInt8).toNat = 128 + r % 64 := (u8_of _ (by omega) (by omega)).trans (by omega)
    simp only [List.map_cons, List.map_nil, List.cons_append, List.nil_append, List.getD_cons_zero, List.getD_cons_succ, List.length_cons, List.length_nil]
    rw [e0, e1, e2]
    unfold Lib.decodeN
    rw [if_neg (by omega), if_neg (by omega), if_pos (by omega), if_pos (by omega)]
    simp only [Prod.mk.injEq, and_true]
    omega
  · rw [Lib.encodeRuneZ_four (by omega) (by omega)]
    have e0 : ((240 + (r : Int) / 262144 : Int).toNat.toUInt8).toNat = 240 + r / 262144 := (u8_of _ (by omega) (by omega)).trans (by omega)
    have e1 : ((128 + (r : Int) / 4096 % 64 : Int).toNat.toUInt8).toNat = 128 + r / 4096 % 64 := (u8_of _ (by omega) (by omega)).trans (by omega)
    have e2 : ((128 + (r : Int) / 64 % 64 : Int).toNat.toUInt8).toNat = 128 + r / 64 % 64 := (u8_of _ (by omega) (by omega)).trans (by omega)
    have e3 : ((128 + (r : Int) % 64 : Int).toNat.toUInt8).toNat = 128 + r % 64 := (u8_of _ (by omega) (by omega)).trans (by omega)
    simp only [List.map_cons, List.map_nil, List.cons_append, List.nil_append, List.getD_cons_zero, List.getD_cons_succ, List.length_cons, List.length_nil]
    rw [e0, e1, e2, e3]
    unfold Lib.decodeN
    rw [if_neg (by omega), if_neg (by omega), if_neg (by omega), if_pos (by omega), if_pos (by omega)]
    simp only [Prod.mk.injEq, and_true]
    omega
/-- The first byte of a rune's bytes. -/
theorem enc_head (r : Nat) (hr : r < 55296 ∨ (57343 < r ∧ r ≤ 1114111)) : ∃ c l, Lib.encodeRune (r : Int) = c :: l ∧ (r < 128 → c.toNat = r ∧ l = []) ∧ (128 ≤ r → 128 ≤ c.toNat) := by
  unfold Lib.encodeRune
  by_cases h1 : r ≤ 127
  · rw [Lib.encodeRuneZ_one (by omega) (by omega)]
    have e0 := u8_of (r : Int) (by omega) (by omega)
    exact ⟨_, _, rfl, fun _ => ⟨by rw [e0]; omega, rfl⟩, fun h => by omega⟩
  by_cases h2 : r ≤ 2047
  · rw [Lib.encodeRuneZ_two (by omega) (by omega)]
    have e0 := u8_of (192 + (r : Int) / 64) (by omega) (by omega)
    exact ⟨_, _, rfl, fun _ => by omega, fun h => by rw [e0]; omega⟩
  by_cases h3 : r ≤ 65535
  · rw [Lib.encodeRuneZ_three (by omega)]
    have e0 := u8_of (224 + (r : Int) / 4096) (by omega) (by omega)
    exact ⟨_, _, rfl, fun _ => by omega, fun h => by rw [e0]; omega⟩
  · rw [Lib.encodeRuneZ_four (by omega) (by omega)]
    have e0 := u8_of (240 + (r : Int) / 262144) (by omega) (by omega)
    exact ⟨_, _, rfl, fun _ => by omega, fun h => by rw [e0]; omega⟩
theorem decL_valid (l : List UInt8) : (Lib.decodeL l).1 < 55296 ∨ (57343 < (Lib.decodeL l).1 ∧ (Lib.decodeL l).1 ≤ 1114111) := by
  rw [Lib.decodeL_N]
  have k0 := (l.getD 0 0).toNat_lt
  rcases Lib.decodeN_shape l.length (l.getD 0 0).toNat (l.getD 1 0).toNat (l.getD 2 0).toNat (l.getD 3 0).toNat with ⟨c, e⟩ | ⟨c1, c2, c3, cv, e⟩ | ⟨c1, c2, c3, c4, cv, cs, e⟩ | ⟨c1, c2, c3, c4, c5, cv, cw, e⟩ | e <;> rw [e] <;> dsimp only <;> omega
theorem hex_back : ∀ r : Nat, r < 32 → hexP [48, 48, hexC (r / 16), hexC (r % 16)] 0 = (r : Int) := by decide +kernel
/-- One rune that was written. -/
theorem quote_step {S rest out : List UInt8} {k r : Nat} (hr : r < 55296 ∨ (57343 < r ∧ r ≤ 1114111)) (hS : S.drop k = quoteR r ++ rest) : textT S k out = textT S (k + (quoteR r).length) (out ++ Lib.encodeRune (r : Int)) := by
  have hget : ∀ i, S[k + i]? = (quoteR r ++ rest)[i]? := fun i => by rw [← hS, List.getElem?_drop]
  have hg0 := hget 0
  rw [Nat.add_zero] at hg0
  unfold quoteR at *
  by_cases hq : r = 34 ∨ r = 92
  · rw [if_pos hq] at *
    have h1 := hget 1
    rcases hq with rfl | rfl
    · rw [textT_open, hg0]
      have he : escP S k = some ([34], k + 2) := by unfold escP; rw [h1]; rfl
      dsimp only [List.cons_append, List.getElem?_cons_zero]
      rw [if_neg (by decide), if_neg (by decide), if_pos rfl, he]
      rfl
    · rw [textT_open, hg0]
      have he : escP S k = some ([92], k + 2) := by unfold escP; rw [h1]; rfl
      dsimp only [List.cons_append, List.getElem?_cons_zero]
      rw [if_neg (by decide), if_neg (by decide), if_pos rfl, he]
      rfl
  · rw [if_neg hq] at *
    by_cases h32 : r < 32
    · rw [if_pos h32] at *
      have hlen : k + 6 ≤ S.length := by
        have := congrArg List.length hS
        simp only [List.length_drop, List.length_append, List.length_cons, List.length_nil] at this
        omega
      have h1 := hget 1
      have hc : codeP S k = (r : Int) := by
        unfold codeP
        rw [if_neg]
        · rw [← List.drop_drop, hS]
          exact hex_back r h32
        · rintro (h | h)
          · omega
          · rw [hS] at h
            exact h rfl
      have he : escP S k = some (Lib.encodeRune (r : Int), k + 6) := by
        unfold escP
        rw [h1]
        show escU S k = _
        unfold escU
        rw [hc, if_neg (by omega), if_neg (by omega)]
      rw [textT_open, hg0]
      dsimp only [List.cons_append, List.getElem?_cons_zero]
      rw [if_neg (by decide), if_neg (by decide), if_pos rfl, he]
      rfl
    · rw [if_neg h32] at *
      obtain ⟨c, l, he, hlo, hhi⟩ := enc_head r hr
      have hc : S[k]? = some c := by rw [hg0, he]; rfl
      have hd := decode_enc r hr rest
      have hne : Lib.encodeRune (r : Int) ++ rest ≠ [] := by rw [he]; simp
      have hlen := (Lib.runeCells_le (r : Int)).1
      rw [Lib.runeCells_length] at hlen
      have hw : runeW (S.drop k) = (Lib.encodeRune (r : Int)).length := by
        rw [hS]
        unfold runeW
        rw [hd, if_neg]
        rintro (h | ⟨h1, h2⟩)
        · exact hne h
        · simp only at h1 h2
          subst h1
          rw [show Lib.encodeRune ((65533 : Nat) : Int) = [239, 191, 189] from by decide] at h2
          simp at h2
      have n34 : c ≠ 34 := fun e => by
        subst e
        rcases Nat.lt_or_ge r 128 with h | h
        · have := (hlo h).1
          exact hq (.inl (by rw [← this]; rfl))
        · have := hhi h
          exact absurd this (by decide)
      have n92 : c ≠ 92 := fun e => by
        subst e
        rcases Nat.lt_or_ge r 128 with h | h
        · have := (hlo h).1
          exact hq (.inr (by rw [← this]; rfl))
        · have := hhi h
          exact absurd this (by decide)
      have n32 : ¬ c.toNat < 32 := fun e => by
        rcases Nat.lt_or_ge r 128 with h | h
        · have := (hlo h).1; omega
        · have := hhi h; omega
      rw [textT_rune hc n34 n32 n92 (by rw [hw]; omega), hw, hS, List.take_left]
/-- The runes of a text, as they stand. -/
def runesD (l : List UInt8) : List UInt8 := Lib.mapD (fun r => r) l
theorem runesD_step (l : List UInt8) (hne : l ≠ []) : runesD l = Lib.encodeRune ((Lib.decodeL l).1 : Int) ++ runesD (l.drop (Lib.decodeL l).2) := by
  unfold runesD
  rw [Lib.mapD_step _ l hne, if_pos (by omega)]
theorem quote_text : ∀ (n : Nat) (s S out : List UInt8) (k : Nat), s.length ≤ n → S.drop k = quoteD s.length s ++ [34] → textT S k out = (some (out ++ runesD s), S.length)
  | n, s, S, out, k, hn, hS => by
    by_cases hne : s = []
    · subst hne
      have h0 : S[k]? = some 34 := by
        have := List.getElem?_drop (xs := S) (i := k) (j := 0)
        rw [hS] at this
        simpa [quoteD] using this.symm
      have hl : k + 1 = S.length := by
        have := congrArg List.length hS
        simp [quoteD] at this
        omega
      rw [textT_open, h0]
      dsimp only
      rw [if_pos rfl, hl]
      simp [runesD, Lib.mapD, Lib.mapGoD]
    · have hl : 0 < s.length := List.length_pos_iff.2 hne
      have hw := Lib.decodeL_width s
      rw [quoteD_step s hne, List.append_assoc] at hS
      rw [quote_step (decL_valid s) hS, runesD_step s hne, ← List.append_assoc]
      cases n with
      | zero => omega
      | succ n =>
        refine quote_text n (s.drop (Lib.decodeL s).2) S _ _ (by rw [List.length_drop]; omega) ?_
        rw [← List.drop_drop, hS, List.drop_left]
theorem quoteR_len (r : Nat) (l : List UInt8) : (quoteR r).length ≤ 6 * (Lib.decodeL l).2 := by
  have hw := Lib.decodeL_width l
  have h4 := (Lib.runeCells_le (r : Int)).2
  rw [Lib.runeCells_length] at h4
  unfold quoteR
  split
  · simp only [List.length_cons]; omega
  · split
    · simp only [List.length_cons, List.length_nil]; omega
    · omega
theorem quoteD_len : ∀ (n : Nat) (s : List UInt8), s.length ≤ n → (quoteD s.length s).length ≤ 6 * s.length
  | n, s, hn => by
    by_cases hne : s = []
    · subst hne; simp [quoteD]
    · have hl : 0 < s.length := List.length_pos_iff.2 hne
      have hw := Lib.decodeL_width s
      have hle := Lib.decodeL_le s hne
      cases n with
      | zero => omega
      | succ n =>
        have ih := quoteD_len n (s.drop (Lib.decodeL s).2) (by rw [List.length_drop]; omega)
        have hq := quoteR_len (Lib.decodeL s).1 s
        rw [quoteD_step s hne, List.length_append]
        rw [List.length_drop] at ih
        rw [List.length_drop]
        omega
/-- A printed text is parsed to its runes. -/
theorem parse_quote (s : List UInt8) (h : (quoteB s).length ≤ 8192) : parseP (quoteB s) = (.text (runesD s), 0, 0) := by
  have hst : startP (quoteB s) = ⟨0, 0, none⟩ := rfl
  have hm : (PS.mk 0 0 none).must (quoteB s) 34 = ⟨1, 0, none⟩ := rfl
  have ht : (PS.mk 0 0 none).textOf (quoteB s) = (some (runesD s), (quoteB s).length) := by
    unfold PS.textOf
    rw [hm]
    show textT (quoteB s) 1 [] = _
    rw [quote_text s.length s (quoteB s) [] 1 (Nat.le_refl _) rfl]
    simp
  have htx : (PS.mk 0 0 none).text (quoteB s) = ⟨(quoteB s).length, 0, none⟩ := by
    unfold PS.text
    rw [hm, if_pos rfl, ht]
    rfl
  have htv : (PS.mk 0 0 none).textV (quoteB s) = runesD s := by
    unfold PS.textV
    rw [hm, if_pos rfl, ht]
    rfl
  have hb : bodyP (quoteB s) = (.text (runesD s), ⟨(quoteB s).length, 0, none⟩) := by
    unfold bodyP
    rw [hst]
    conv => lhs; unfold valP
    have h34 : (quoteB s)[(PS.mk 0 0 none).at_]? = some 34 := rfl
    rw [if_pos rfl, h34]
    dsimp only
    rw [if_neg (by decide), if_neg (by decide), if_pos rfl, htv, htx]
  have hbl : (PS.mk (quoteB s).length 0 none).blanks (quoteB s) = ⟨(quoteB s).length, 0, none⟩ := by
    unfold PS.blanks
    simp [PS.to, runB]
  have he : endP (quoteB s) = ⟨(quoteB s).length, 0, none⟩ := by
    unfold endP
    rw [hb]
    dsimp only
    rw [hbl, if_neg]
    rintro ⟨_, h⟩
    exact absurd h (Nat.lt_irrefl _)
  unfold parseP
  rw [if_neg (by omega), he, hb]
end Go.Proofs.YtkbopeoaoakfnaaDoor

namespace Go.Proofs.YtkbopeoaoakfnaaDoor
open Go
/-- The number of the first bytes of a rune, k of them behind the first. -/
def cont (l : List UInt8) (v0 : Nat) : Nat → Nat
  | 0 => v0
  | k + 1 => cont l v0 k * 64 + (l.getD (k + 1) 0).toNat % 64
def AllC (l : List UInt8) (k : Nat) : Prop := ∀ j, 1 ≤ j → j < k → (l.getD j 0).toNat / 64 = 2
/-- What the first byte tells: the length, the least number, the number's first bits. -/
def Cls (c n least v0 : Nat) : Prop := (n = 2 ∧ least = 128 ∧ v0 = c % 32 ∧ c / 32 = 6) ∨ (n = 3 ∧ least = 2048 ∧ v0 = c % 16 ∧ c / 16 = 14) ∨ (n = 4 ∧ least = 65536 ∧ v0 = c % 8 ∧ c / 8 = 30)
theorem cont_lt (l : List UInt8) (v0 : Nat) (h : v0 < 32) : ∀ k, cont l v0 k < 32 * 64 ^ k
  | 0 => by simpa [cont] using h
  | k + 1 => by
    have ih := cont_lt l v0 h k
    have := Nat.mod_lt (l.getD (k + 1) 0).toNat (show 64 > 0 by decide)
    rw [cont, Nat.pow_succ]
    omega
theorem Cls.v0 {c n least v0 : Nat} (h : Cls c n least v0) : v0 < 32 ∧ 2 ≤ n ∧ n ≤ 4 ∧ 128 ≤ least ∧ least ≤ 65536 := by
  unfold Cls at h; omega
/-- A rune's width by the reference's reckoning. -/
theorem rune_law {l : List UInt8} {n least v0 : Nat} (hne : l ≠ []) (h : Cls (l.getD 0 0).toNat n least v0) :
    (n ≤ l.length → AllC l n → least ≤ cont l v0 (n - 1) → cont l v0 (n - 1) ≤ 1114111 → ¬ (55296 ≤ cont l v0 (n - 1) ∧ cont l v0 (n - 1) < 57344) → runeW l = n) ∧
    ((l.length < n ∨ (∃ j, 1 ≤ j ∧ j < n ∧ (l.getD j 0).toNat / 64 ≠ 2) ∨ cont l v0 (n - 1) < least ∨ 1114111 < cont l v0 (n - 1) ∨ (55296 ≤ cont l v0 (n - 1) ∧ cont l v0 (n - 1) < 57344)) → runeW l = 0) := by
  unfold runeW
  rw [Lib.decodeL_N]
  unfold Cls at h
  unfold AllC
  generalize hb0 : (l.getD 0 0).toNat = b0 at *
  generalize hb1 : (l.getD 1 0).toNat = b1 at *
  generalize hb2 : (l.getD 2 0).toNat = b2 at *
  generalize hb3 : (l.getD 3 0).toNat = b3 at *
  have fin0 : ∀ D : Nat × Nat, D = (65533, 1) → (if l = [] ∨ (D.1 = 65533 ∧ D.2 = 1) then 0 else D.2) = 0 := fun D h => by rw [h, if_pos (.inr ⟨rfl, rfl⟩)]
  have fin1 : ∀ (D : Nat × Nat) (n : Nat), D.2 = n → 2 ≤ n → (if l = [] ∨ (D.1 = 65533 ∧ D.2 = 1) then 0 else D.2) = n := fun D n h h2 => by
    rw [if_neg, h]
    rintro (h3 | ⟨_, h3⟩)
    · exact hne h3
    · omega
  rcases h with ⟨rfl, rfl, rfl, h0⟩ | ⟨rfl, rfl, rfl, h0⟩ | ⟨rfl, rfl, rfl, h0⟩
  · have hc : cont l (b0 % 32) (2 - 1) = b0 % 32 * 64 + b1 % 64 := by simp only [cont, hb1, Nat.reduceSub]
    rw [hc]
    refine ⟨fun h1 h2 h3 h4 h5 => ?_, fun h1 => ?_⟩
    · have e1 := h2 1 (by omega) (by omega)
      rw [hb1] at e1
      refine fin1 _ _ ?_ (by decide)
      unfold Lib.decodeN
      rw [if_neg (show ¬ b0 < 128 by omega), if_pos (show b0 / 32 = 6 ∧ (1 < l.length ∧ b1 / 64 = 2) by omega), if_pos (show b0 % 32 * 64 + b1 % 64 ≥ 128 by omega)]
    · have e1 : ¬ (1 < l.length ∧ b1 / 64 = 2) ∨ b0 % 32 * 64 + b1 % 64 < 128 := by
        rcases h1 with h | ⟨j, j1, j2, j3⟩ | h | h | h
        · omega
        · obtain rfl : j = 1 := by omega
          rw [hb1] at j3
          omega
        · omega
        · have := Nat.mod_lt b0 (show 32 > 0 by decide); have := Nat.mod_lt b1 (show 64 > 0 by decide); omega
        · have := Nat.mod_lt b0 (show 32 > 0 by decide); have := Nat.mod_lt b1 (show 64 > 0 by decide); omega
      refine fin0 _ ?_
      unfold Lib.decodeN
      rw [if_neg (show ¬ b0 < 128 by omega)]
      by_cases ha : b0 / 32 = 6 ∧ (1 < l.length ∧ b1 / 64 = 2)
      · rw [if_pos ha, if_neg (by omega)]
      · rw [if_neg ha, if_neg (by omega), if_neg (by omega)]
  · have hc : cont l (b0 % 16) (3 - 1) = b0 % 16 * 4096 + b1 % 64 * 64 + b2 % 64 := by simp only [cont, Nat.reduceSub]; rw [show 0 + 1 = 1 from rfl, show 1 + 1 = 2 from rfl, hb1, hb2]; omega
    rw [hc]
    refine ⟨fun h1 h2 h3 h4 h5 => ?_, fun h1 => ?_⟩
    · have e1 := h2 1 (by omega) (by omega)
      have e2 := h2 2 (by omega) (by omega)
      rw [hb1] at e1
      rw [hb2] at e2
      refine fin1 _ _ ?_ (by decide)
      unfold Lib.decodeN
      rw [if_neg (show ¬ b0 < 128 by omega), if_neg (by omega), if_pos (by omega), if_pos (by omega)]
    · have e1 : ¬ ((1 < l.length ∧ b1 / 64 = 2) ∧ (2 < l.length ∧ b2 / 64 = 2)) ∨ b0 % 16 * 4096 + b1 % 64 * 64 + b2 % 64 < 2048 ∨ 1114111 < b0 % 16 * 4096 + b1 % 64 * 64 + b2 % 64 ∨ (55296 ≤ b0 % 16 * 4096 + b1 % 64 * 64 + b2 % 64 ∧ b0 % 16 * 4096 + b1 % 64 * 64 + b2 % 64 < 57344) := by
        rcases h1 with h | ⟨j, j1, j2, j3⟩ | h | h | h
        · omega
        · rcases (show j = 1 ∨ j = 2 by omega) with rfl | rfl
          · rw [hb1] at j3; omega
          · rw [hb2] at j3; omega
        · omega
        · omega
        · omega
      refine fin0 _ ?_
      unfold Lib.decodeN
      rw [if_neg (show ¬ b0 < 128 by omega), if_neg (by omega)]
      by_cases ha : b0 / 16 = 14 ∧ (1 < l.length ∧ b1 / 64 = 2) ∧ (2 < l.length ∧ b2 / 64 = 2)
      · rw [if_pos ha, if_neg (by omega)]
      · rw [if_neg ha, if_neg (by omega)]
  · have hc : cont l (b0 % 8) (4 - 1) = b0 % 8 * 262144 + b1 % 64 * 4096 + b2 % 64 * 64 + b3 % 64 := by simp only [cont, Nat.reduceSub]; rw [show 0 + 1 = 1 from rfl, show 1 + 1 = 2 from rfl, show 2 + 1 = 3 from rfl, hb1, hb2, hb3]; omega
    rw [hc]
    refine ⟨fun h1 h2 h3 h4 h5 => ?_, fun h1 => ?_⟩
    · have e1 := h2 1 (by omega) (by omega)
      have e2 := h2 2 (by omega) (by omega)
      have e3 := h2 3 (by omega) (by omega)
      rw [hb1] at e1
      rw [hb2] at e2
      rw [hb3] at e3
      refine fin1 _ _ ?_ (by decide)
      unfold Lib.decodeN
      rw [if_neg (show ¬ b0 < 128 by omega), if_neg (by omega), if_neg (by omega), if_pos (by omega), if_pos (by omega)]
    · have e1 : ¬ ((1 < l.length ∧ b1 / 64 = 2) ∧ (2 < l.length ∧ b2 / 64 = 2) ∧ (3 < l.length ∧ b3 / 64 = 2)) ∨ b0 % 8 * 262144 + b1 % 64 * 4096 + b2 % 64 * 64 + b3 % 64 < 65536 ∨ 1114111 < b0 % 8 * 262144 + b1 % 64 * 4096 + b2 % 64 * 64 + b3 % 64 ∨ (55296 ≤ b0 % 8 * 262144 + b1 % 64 * 4096 + b2 % 64 * 64 + b3 % 64 ∧ b0 % 8 * 262144 + b1 % 64 * 4096 + b2 % 64 * 64 + b3 % 64 < 57344) := by
        rcases h1 with h | ⟨j, j1, j2, j3⟩ | h | h | h
        · omega
        · rcases (show j = 1 ∨ j = 2 ∨ j = 3 by omega) with rfl | rfl | rfl
          · rw [hb1] at j3; omega
          · rw [hb2] at j3; omega
          · rw [hb3] at j3; omega
        · omega
        · omega
        · omega
      refine fin0 _ ?_
      unfold Lib.decodeN
      rw [if_neg (show ¬ b0 < 128 by omega), if_neg (by omega), if_neg (by omega)]
      by_cases ha : b0 / 8 = 30 ∧ (1 < l.length ∧ b1 / 64 = 2) ∧ (2 < l.length ∧ b2 / 64 = 2) ∧ (3 < l.length ∧ b3 / 64 = 2)
      · rw [if_pos ha, if_neg (by omega)]
      · rw [if_neg ha]
/-- No class: no rune. -/
theorem rune_no {l : List UInt8} (h128 : ¬ (l.getD 0 0).toNat < 128) (h2 : (l.getD 0 0).toNat / 32 ≠ 6) (h3 : (l.getD 0 0).toNat / 16 ≠ 14) (h4 : (l.getD 0 0).toNat / 8 ≠ 30) : runeW l = 0 := by
  have hD : Lib.decodeL l = (65533, 1) := by
    rw [Lib.decodeL_N]
    unfold Lib.decodeN
    rw [if_neg h128, if_neg (fun h => h2 h.1), if_neg (fun h => h3 h.1), if_neg (fun h => h4 h.1)]
  unfold runeW
  rw [hD, if_pos (.inr ⟨rfl, rfl⟩)]
end Go.Proofs.YtkbopeoaoakfnaaDoor
