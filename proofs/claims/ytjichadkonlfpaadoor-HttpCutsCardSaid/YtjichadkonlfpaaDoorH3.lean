/- The head of a request in plain Lean. Printed by wip/genH3.py. No conditions. -/
import Derived.Test.YtjichadkonlfpaaDoorH2
namespace Go.Proofs.YtjichadkonlfpaaDoor
open Go.RowKit
def httpW : List UInt8 := [72, 84, 84, 80, 47, 49, 46]
def setLast (hs : List (List UInt8 × List UInt8)) (v : List UInt8) : List (List UInt8 × List UInt8) := match hs.getLast? with
  | some p => hs.dropLast ++ [(p.1, v)]
  | none => hs
def eqI (c : UInt8) (n : Int) : Bool := ((c.toNat : Int) == n)
def head2 (s : PS) (c : UInt8) : PS × Int :=
  if ((c.toNat : Int) == 32) && decide ((0 : Int) < (s.wd.length : Int)) then ({ s with m := s.wd, wd := [], st := 3 }, 0)
  else takeP s c ((decide ((65 : Int) ≤ (c.toNat : Int)) && decide ((c.toNat : Int) ≤ 90)) && decide ((s.wd.length : Int) < 16))
def head3 (s : PS) (c : UInt8) : PS × Int :=
  if ((c.toNat : Int) == 32) && decide ((0 : Int) < (s.wd.length : Int)) then ({ s with t := s.wd, wd := [], st := 4 }, 0)
  else takeP s c ((decide ((32 : Int) < (c.toNat : Int)) && decide ((c.toNat : Int) < 127)) && (decide ((0 : Int) < (s.wd.length : Int)) || ((c.toNat : Int) == 47)))
def head4 (s : PS) (c : UInt8) : PS × Int :=
  if decide ((s.wd.length : Int) < 7) then takeP s c (eqI c ((httpW.getD s.wd.length 0).toNat : Int))
  else if ((s.wd.length : Int) == 7) then takeP { s with old := ((c.toNat : Int) == 48) } c (((c.toNat : Int) == 48) || ((c.toNat : Int) == 49))
  else if ((c.toNat : Int) != 13) then (s, 400) else (doneP s 5, 0)
def head5 (s : PS) (c : UInt8) : PS × Int := if ((c.toNat : Int) != 10) then (s, 400) else ({ s with st := 6 }, 0)
def head8 (s : PS) (c : UInt8) : PS × Int := if ((c.toNat : Int) != 10) then (s, 400) else ({ s with st := 9 }, 0)
def head6 (s : PS) (c : UInt8) : PS × Int :=
  if ((c.toNat : Int) == 13) && ((s.wd.length : Int) == 0) then ({ s with st := 8 }, 0)
  else if ((c.toNat : Int) == 58) && decide ((0 : Int) < (s.wd.length : Int)) then ({ s with hs := s.hs ++ [(Lib.toLowerA s.wd, [])], wd := [], st := 7 }, 0)
  else takeP s c ((letterB c || digitB c) || ((c.toNat : Int) == 45))
def head7 (s : PS) (c : UInt8) : PS × Int :=
  if ((c.toNat : Int) != 13) then takeP s c ((decide ((32 : Int) ≤ (c.toNat : Int)) && decide ((c.toNat : Int) < 127)) || ((c.toNat : Int) == 9))
  else ({ s with hs := setLast s.hs (Lib.trimS s.wd [32, 9]), wd := [], st := 5 }, 0)
def inHeadP (s : PS) (c : UInt8) : PS × Int :=
  if s.st = 2 then head2 s c else if s.st = 3 then head3 s c else if s.st = 4 then head4 s c else if s.st = 5 then head5 s c
  else if s.st = 6 then head6 s c else if s.st = 7 then head7 s c else if s.st = 8 then head8 s c else (s, 0)
end Go.Proofs.YtjichadkonlfpaaDoor
