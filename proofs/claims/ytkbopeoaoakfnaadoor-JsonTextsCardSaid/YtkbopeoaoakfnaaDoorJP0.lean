/- json in plain Lean: what the parser computes, step by step. No conditions. -/
import Derived.Lib.RuneBytes
import Derived.Lib.MapLaws
namespace Go.Proofs.YtkbopeoaoakfnaaDoor
open Go
/-- A JSON value; nil is what is answered behind a fault. -/
inductive JV where
  | nil
  | null
  | bool (b : Bool)
  | num (s : List UInt8)
  | text (s : List UInt8)
  | list (l : List JV)
  | obj (ks : List (List UInt8)) (vs : List JV)
/-- What a parser of the text s knows: its place, its depth, what it stopped at. -/
structure PS where
  at_ : Nat
  depth : Int
  fault : Option (Int × Int)
deriving DecidableEq
def PS.fail (st : PS) (a e : Int) : PS := match st.fault with | none => { st with fault := some (a, e) } | some _ => st
/-- Is c next? -/
def PS.sees (st : PS) (s : List UInt8) (c : UInt8) : Bool := s[st.at_]? == some c
def PS.next (st : PS) (s : List UInt8) (c : UInt8) : PS := if st.sees s c then { st with at_ := st.at_ + 1 } else st
def PS.must (st : PS) (s : List UInt8) (c : UInt8) : PS := if st.sees s c then { st with at_ := st.at_ + 1 } else st.fail st.at_ 2
def PS.to (st : PS) (k : Nat) : PS := { st with at_ := k }
def blankB (c : UInt8) : Bool := c == 32 || c == 9 || c == 10 || c == 13
def digitB (c : UInt8) : Bool := decide (48 ≤ c.toNat ∧ c.toNat ≤ 57)
def runB (p : UInt8 → Bool) (l : List UInt8) : Nat := (l.takeWhile p).length
def PS.blanks (st : PS) (s : List UInt8) : PS := st.to (st.at_ + runB blankB (s.drop st.at_))
def PS.digits (st : PS) (s : List UInt8) : PS := if runB digitB (s.drop st.at_) = 0 then st.fail st.at_ 2 else st.to (st.at_ + runB digitB (s.drop st.at_))
def PS.numA (st : PS) (s : List UInt8) : PS := if (st.next s 45).sees s 48 then (st.next s 45).next s 48 else (st.next s 45).digits s
def PS.numB (st : PS) (s : List UInt8) : PS := if st.fault = none ∧ st.sees s 46 = true then (st.next s 46).digits s else st
def PS.numD (st : PS) (s : List UInt8) : PS := if st.sees s 43 then (st.next s 43).digits s else (st.next s 45).digits s
def PS.numC (st : PS) (s : List UInt8) : PS :=
  if st.fault = none ∧ st.sees s 101 = true then (st.next s 101).numD s
  else if st.fault = none ∧ st.sees s 69 = true then (st.next s 69).numD s
  else st
def PS.numb (st : PS) (s : List UInt8) : PS := ((st.numA s).numB s).numC s
def PS.numS (st : PS) (s : List UInt8) : List UInt8 := (s.drop st.at_).take ((st.numb s).at_ - st.at_)
def PS.word (st : PS) (s : List UInt8) : List UInt8 → PS
  | [] => st
  | c :: w => if (st.must s c).fault = none then (st.must s c).word s w else st.must s c
/-- A hexadecimal digit's number; below 0: it is none. -/
def hexZ (c : Nat) : Int := if 48 ≤ c ∧ c ≤ 57 then (c : Int) - 48 else if 97 ≤ c ∧ c ≤ 102 then (c : Int) - 87 else if 65 ≤ c ∧ c ≤ 70 then (c : Int) - 55 else -1
def hexP : List UInt8 → Int → Int
  | [], n => n
  | c :: l, n => if hexZ c.toNat < 0 then -1 else hexP l (n * 16 + hexZ c.toNat)
/-- The number of the escape at k; -1: it is none. -/
def codeP (s : List UInt8) (k : Nat) : Int := if s.length < k + 6 ∨ (s.drop k).take 2 ≠ [92, 117] then -1 else hexP ((s.drop (k + 2)).take 4) 0
/-- What the escapes of one letter stand for. -/
def single (c : UInt8) : Option UInt8 :=
  if c = 34 then some 34 else if c = 92 then some 92 else if c = 47 then some 47 else if c = 98 then some 8 else if c = 102 then some 12 else if c = 110 then some 10 else if c = 114 then some 13 else if c = 116 then some 9 else none
def escU (s : List UInt8) (k : Nat) : Option (List UInt8 × Nat) :=
  if 55296 ≤ codeP s k ∧ codeP s k < 56320 then
    (if 56320 ≤ codeP s (k + 6) ∧ codeP s (k + 6) < 57344 then some (Lib.encodeRune (65536 + (codeP s k - 55296) * 1024 + codeP s (k + 6) - 56320), k + 12) else none)
  else if codeP s k < 0 ∨ (56320 ≤ codeP s k ∧ codeP s k < 57344) then none
  else some (Lib.encodeRune (codeP s k), k + 6)
/-- The escape at k: its bytes and the place behind it. -/
def escP (s : List UInt8) (k : Nat) : Option (List UInt8 × Nat) :=
  match (s[k + 1]?).bind single with
  | some b => some ([b], k + 2)
  | none => escU s k
/-- The width of the rune at the head; 0: it is no UTF-8. -/
def runeW (l : List UInt8) : Nat := if l = [] ∨ ((Lib.decodeL l).1 = 65533 ∧ (Lib.decodeL l).2 = 1) then 0 else (Lib.decodeL l).2
/-- A text from k on, behind its quotation mark; none: it is wrong at that place. -/
def textP (s : List UInt8) : Nat → Nat → List UInt8 → Option (List UInt8) × Nat
  | 0, k, _ => (none, k)
  | n + 1, k, out =>
    match s[k]? with
    | none => (none, k)
    | some c =>
      if c = 34 then (some out, k + 1)
      else if c.toNat < 32 then (none, k)
      else if c = 92 then (match escP s k with | none => (none, k) | some (x, k') => textP s n k' (out ++ x))
      else if runeW (s.drop k) = 0 then (none, k)
      else textP s n (k + runeW (s.drop k)) (out ++ (s.drop k).take (runeW (s.drop k)))
def PS.textOf (st : PS) (s : List UInt8) : Option (List UInt8) × Nat := textP s (s.length + 1) (st.must s 34).at_ []
def PS.textV (st : PS) (s : List UInt8) : List UInt8 := if (st.must s 34).fault = none then ((st.textOf s).1).getD [] else []
def PS.text (st : PS) (s : List UInt8) : PS :=
  if (st.must s 34).fault = none then (match (st.textOf s).1 with | some _ => (st.must s 34).to (st.textOf s).2 | none => ((st.must s 34).to (st.textOf s).2).fail (st.textOf s).2 2)
  else st.must s 34
def PS.deeper (st : PS) : PS := { st with depth := st.depth + 1 }
def PS.higher (st : PS) : PS := { st with depth := st.depth - 1 }
def PS.openA (st : PS) : PS := if 16 < st.depth + 1 then st.deeper.fail st.at_ 6 else st.deeper
def PS.open_ (st : PS) (s : List UInt8) : PS := (st.openA.to (st.at_ + 1)).blanks s
/-- What stands between brackets, from the first on. -/
def loopP {α : Type} (s : List UInt8) (e : UInt8) (one : α → PS → α × PS) : Nat → α → PS → α × PS
  | 0, x, st => (x, st)
  | n + 1, x, st =>
    if ((one x st).2.blanks s).fault = none then
      (if ((one x st).2.blanks s).sees s e then ((one x st).1, ((one x st).2.blanks s).next s e)
       else if ((((one x st).2.blanks s).must s 44).blanks s).fault = none then loopP s e one n (one x st).1 ((((one x st).2.blanks s).must s 44).blanks s)
       else ((one x st).1, (((one x st).2.blanks s).must s 44).blanks s))
    else ((one x st).1, (one x st).2.blanks s)
def memP {α : Type} (s : List UInt8) (e : UInt8) (one : α → PS → α × PS) (n : Nat) (x : α) (st : PS) : α × PS :=
  if (st.open_ s).sees s e then (x, ((st.open_ s).next s e).higher)
  else if (st.open_ s).fault = none then ((loopP s e one n x (st.open_ s)).1, (loopP s e one n x (st.open_ s)).2.higher)
  else (x, (st.open_ s).higher)
def listOne (val : PS → JV × PS) (l : List JV) (st : PS) : List JV × PS := (l ++ [(val st).1], (val st).2)
/-- Behind a key: is it there already? Then the colon. -/
def PS.key (st : PS) (s : List UInt8) (ks : List (List UInt8)) : PS := if (st.text s).fault = none ∧ st.textV s ∈ ks then (st.text s).fail st.at_ 2 else st.text s
def PS.colon (st : PS) (s : List UInt8) : PS := ((st.blanks s).must s 58).blanks s
def objOne (s : List UInt8) (val : PS → JV × PS) (x : List (List UInt8) × List JV) (st : PS) : (List (List UInt8) × List JV) × PS :=
  ((x.1 ++ [st.textV s], x.2 ++ [(val ((st.key s x.1).colon s)).1]), (val ((st.key s x.1).colon s)).2)
def valP (s : List UInt8) : Nat → PS → JV × PS
  | 0, st => (.nil, st)
  | n + 1, st =>
    if st.fault = none then
      (match s[st.at_]? with
      | none => (.num ((st.fail st.at_ 2).numS s), (st.fail st.at_ 2).numb s)
      | some c =>
        if c = 123 then (.obj (memP s 125 (objOne s (valP s n)) n ([], []) st).1.1 (memP s 125 (objOne s (valP s n)) n ([], []) st).1.2, (memP s 125 (objOne s (valP s n)) n ([], []) st).2)
        else if c = 91 then (.list (memP s 93 (listOne (valP s n)) n [] st).1, (memP s 93 (listOne (valP s n)) n [] st).2)
        else if c = 34 then (.text (st.textV s), st.text s)
        else if c = 116 then (.bool true, st.word s [116, 114, 117, 101])
        else if c = 102 then (.bool false, st.word s [102, 97, 108, 115, 101])
        else if c = 110 then (.null, st.word s [110, 117, 108, 108])
        else (.num (st.numS s), st.numb s))
    else (.nil, st)
def startP (s : List UInt8) : PS := (PS.mk 0 0 none).blanks s
def bodyP (s : List UInt8) : JV × PS := valP s (s.length + 1) (startP s)
def endP (s : List UInt8) : PS := if ((bodyP s).2.blanks s).fault = none ∧ ((bodyP s).2.blanks s).at_ < s.length then ((bodyP s).2.blanks s).fail ((bodyP s).2.blanks s).at_ 2 else (bodyP s).2.blanks s
/-- What Parse answers. -/
def parseP (s : List UInt8) : JV × Int × Int :=
  if 8192 < s.length then (.nil, 0, 6) else
  match (endP s).fault with
  | some (k, e) => (.nil, k, e)
  | none => ((bodyP s).1, 0, 0)
end Go.Proofs.YtkbopeoaoakfnaaDoor
