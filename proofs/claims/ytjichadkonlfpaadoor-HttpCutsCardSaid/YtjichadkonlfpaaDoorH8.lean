/- The body of a request in plain Lean. Printed by wip/genH8.py. No conditions. -/
import Derived.Test.YtjichadkonlfpaaDoorH2
import Derived.Test.YtjichadkonlfpaaDoorReg9
namespace Go.Proofs.YtjichadkonlfpaaDoor
open Go.RowKit
/-- A hexadecimal digit, its value, a number's. -/
def hexB (c : UInt8) : Bool := digitB c || (letterB c && decide (lowI c ≤ 102))
def hexV (c : UInt8) : Nat := if digitB c then c.toNat - 48 else (lowI c).toNat - 87
def hexN (v : List UInt8) : Nat := v.foldl (fun n c => n * 16 + hexV c) 0
def body0 (s : PS) : PS := { s with st := 1 }
def body9 (s : PS) (c : UInt8) : PS := { s with bd := s.bd ++ [c], lf := s.lf - 1, st := if s.lf - 1 = 0 ∧ s.st = 12 then 13 else s.st }
def body10 (s : PS) (c : UInt8) : PS × Int :=
  if ((c.toNat : Int) == 13) && decide ((0 : Int) < (s.wd.length : Int)) then ({ s with lf := (hexN s.wd : Int), wd := [], st := 11 }, 0)
  else takeP s c (hexB c && decide ((s.wd.length : Int) < 6))
def body11 (s : PS) (c : UInt8) : PS × Int :=
  if ((c.toNat : Int) != 10) then (s, 400) else if decide (4096 < s.lf + (s.bd.length : Int)) then (s, 413)
  else if s.lf == 0 then ({ s with st := 13, lf := -1 }, 0) else ({ s with st := 12 }, 0)
def body14 (s : PS) (c : UInt8) : PS × Int := expectP { s with lf := 0 } c 10 (if s.lf < 0 then 9 else 10)
def inBodyP (s : PS) (c : UInt8) : PS × Int :=
  if s.st = 0 then (body0 s, 0) else if s.st = 1 then expectP s c 10 0 else if s.st = 9 ∨ s.st = 12 then (body9 s c, 0)
  else if s.st = 10 then body10 s c else if s.st = 11 then body11 s c else if s.st = 13 then expectP s c 13 14 else if s.st = 14 then body14 s c else (s, 0)
end Go.Proofs.YtjichadkonlfpaaDoor
