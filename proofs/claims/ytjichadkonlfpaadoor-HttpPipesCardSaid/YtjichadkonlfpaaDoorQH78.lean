/- The texts H7 H8 of this work, merged by wip/merge.py. No conditions. -/
import Derived.Test.YtjichadkonlfpaaDoorQH6x
import Derived.Test.YtjichadkonlfpaaDoorQH6y
import Derived.Test.YtjichadkonlfpaaDoorQH6z
import Derived.Test.YtjichadkonlfpaaDoorQH6u
import Derived.Test.YtjichadkonlfpaaDoorQH6v
import Derived.Test.YtjichadkonlfpaaDoorQH6w
import Derived.Test.YtjichadkonlfpaaDoorQHS
import Derived.Test.YtjichadkonlfpaaDoorQHR
namespace Go.Proofs.YtjichadkonlfpaaDoor
open Go.RowKit
theorem wholeP_no {s : PS} (h : wholeNo s = true) : wholeP s = (s, 400) := by unfold wholeP; rw [if_pos h]
theorem wholeP_go {s : PS} {z q : List (List UInt8)} (h : wholeNo s = false) (hz : valuesP s.hs clW = z) (hq : valuesP s.hs teW = q) : wholeP s = wholeT { s with cl := wholeC s } q z := by
  unfold wholeP; rw [if_neg (by rw [h]; decide), hq, hz]
theorem whole0 (w : World) (g : Nat) (s : PS) (W H B : Value) (P : Par w g s W H B) (hh : s.hs.length ≤ 1000000000) (hv : ∀ p ∈ s.hs, p.2.length ≤ 140737488355328 ∧ ∀ b ∈ p.2, b.toNat < 128) (hold : s.old = false) : Calls Tryd.prog 22 #[.pointer (some ⟨g, 0, none⟩)] w (PPost g W H B w (wholeP s).1 (.int .i64 (wholeP s).2)) := by
  obtain ⟨z, hz⟩ : ∃ z, valuesP s.hs clW = z := ⟨_, rfl⟩
  obtain ⟨q, hq⟩ : ∃ q, valuesP s.hs teW = q := ⟨_, rfl⟩
  obtain ⟨ho, hho⟩ : ∃ ho, valuesP s.hs hostW = ho := ⟨_, rfl⟩
  obtain ⟨cn, hcn⟩ : ∃ cn, valuesP s.hs connW = cn := ⟨_, rfl⟩
  have hC : wholeC s = closeC (keepC false cn) cn := by unfold wholeC; rw [hcn, hold]
  by_cases hne : ho.length = 1
  case neg =>
    rw [wholeP_no (by unfold wholeNo; rw [hold, hho]; simp [hne])]
    exact whA w g s W H B P hh hv z q ho cn hz hq hho hcn hold hne
  by_cases hgt : 1 < z.length + q.length
  case pos =>
    rw [wholeP_no (by unfold wholeNo; rw [hold, hz, hq, hho]; simp [hne, hgt])]
    exact whB0 w g s W H B P hh hv z q ho cn hz hq hho hcn hold hne hgt
  have e := wholeP_go (s := s) (by unfold wholeNo; rw [hold, hz, hq, hho]; simp [hne]; omega) hz hq
  rw [hC] at e
  rw [e]
  rcases q with _ | ⟨v, _ | ⟨v2, q⟩⟩
  · rcases z with _ | ⟨v, _ | ⟨v2, z⟩⟩
    · exact whM0n w g s W H B P hh hv [] [] ho cn hz hq hho hcn hold hne rfl rfl
    · cases hbs : badSize v
      · by_cases hgt4 : 4096 < numD v
        · rw [show wholeT { s with cl := closeC (keepC false cn) cn } [] [v] = ({ s with cl := closeC (keepC false cn) cn, lf := (numD v : Int) }, 413) from by simp [wholeT, hbs, hgt4]]
          exact whM0zd w g s W H B P hh hv [v] [] ho cn hz hq hho hcn hold hne v rfl rfl hbs hgt4
        · rw [show wholeT { s with cl := closeC (keepC false cn) cn } [] [v] = ({ s with cl := closeC (keepC false cn) cn, lf := (numD v : Int) }, 0) from by simp [wholeT, hbs, hgt4]]
          exact whM0ze w g s W H B P hh hv [v] [] ho cn hz hq hho hcn hold hne v rfl rfl hbs hgt4
      · rw [show wholeT { s with cl := closeC (keepC false cn) cn } [] [v] = ({ s with cl := closeC (keepC false cn) cn }, 400) from by simp [wholeT, hbs]]
        by_cases h1 : v.length < 1
        · exact whM0za w g s W H B P hh hv [v] [] ho cn hz hq hho hcn hold hne v rfl rfl h1
        · by_cases h9 : 9 < v.length
          · exact whM0zb w g s W H B P hh hv [v] [] ho cn hz hq hho hcn hold hne v rfl rfl (by omega) h9
          · refine whM0zc w g s W H B P hh hv [v] [] ho cn hz hq hho hcn hold hne v rfl rfl (by omega) (by omega) (fun h => ?_)
            unfold badSize at hbs
            rw [h] at hbs
            simp [h1, h9] at hbs
    · exfalso; simp at hgt
  · rcases z with _ | ⟨v2, z⟩
    · cases hlow : lowIs chunkW v
      · rw [show wholeT { s with cl := closeC (keepC false cn) cn } [v] [] = ({ s with cl := closeC (keepC false cn) cn }, 400) from by simp [wholeT, hlow]]
        exact whM0q0 w g s W H B P hh hv [] [v] ho cn hz hq hho hcn hold hne v rfl rfl hlow
      · rw [show wholeT { s with cl := closeC (keepC false cn) cn } [v] [] = ({ s with cl := closeC (keepC false cn) cn, st := 10 }, 0) from by simp [wholeT, hlow]]
        exact whM0q1 w g s W H B P hh hv [] [v] ho cn hz hq hho hcn hold hne v rfl rfl hlow
    · exfalso; simp at hgt
  · exfalso; simp at hgt; omega
theorem whole1 (w : World) (g : Nat) (s : PS) (W H B : Value) (P : Par w g s W H B) (hh : s.hs.length ≤ 1000000000) (hv : ∀ p ∈ s.hs, p.2.length ≤ 140737488355328 ∧ ∀ b ∈ p.2, b.toNat < 128) (hold : s.old = true) : Calls Tryd.prog 22 #[.pointer (some ⟨g, 0, none⟩)] w (PPost g W H B w (wholeP s).1 (.int .i64 (wholeP s).2)) := by
  obtain ⟨z, hz⟩ : ∃ z, valuesP s.hs clW = z := ⟨_, rfl⟩
  obtain ⟨q, hq⟩ : ∃ q, valuesP s.hs teW = q := ⟨_, rfl⟩
  obtain ⟨ho, hho⟩ : ∃ ho, valuesP s.hs hostW = ho := ⟨_, rfl⟩
  obtain ⟨cn, hcn⟩ : ∃ cn, valuesP s.hs connW = cn := ⟨_, rfl⟩
  have hC : wholeC s = closeC (keepC true cn) cn := by unfold wholeC; rw [hcn, hold]
  by_cases hgt : 1 < z.length + q.length
  case pos =>
    rw [wholeP_no (by unfold wholeNo; rw [hold, hz, hq, hho]; simp [hgt])]
    exact whB1 w g s W H B P hh hv z q ho cn hz hq hho hcn hold hgt
  have e := wholeP_go (s := s) (by unfold wholeNo; rw [hold, hz, hq, hho]; simp; omega) hz hq
  rw [hC] at e
  rw [e]
  rcases q with _ | ⟨v, _ | ⟨v2, q⟩⟩
  · rcases z with _ | ⟨v, _ | ⟨v2, z⟩⟩
    · exact whM1n w g s W H B P hh hv [] [] ho cn hz hq hho hcn hold rfl rfl
    · cases hbs : badSize v
      · by_cases hgt4 : 4096 < numD v
        · rw [show wholeT { s with cl := closeC (keepC true cn) cn } [] [v] = ({ s with cl := closeC (keepC true cn) cn, lf := (numD v : Int) }, 413) from by simp [wholeT, hbs, hgt4]]
          exact whM1zd w g s W H B P hh hv [v] [] ho cn hz hq hho hcn hold v rfl rfl hbs hgt4
        · rw [show wholeT { s with cl := closeC (keepC true cn) cn } [] [v] = ({ s with cl := closeC (keepC true cn) cn, lf := (numD v : Int) }, 0) from by simp [wholeT, hbs, hgt4]]
          exact whM1ze w g s W H B P hh hv [v] [] ho cn hz hq hho hcn hold v rfl rfl hbs hgt4
      · rw [show wholeT { s with cl := closeC (keepC true cn) cn } [] [v] = ({ s with cl := closeC (keepC true cn) cn }, 400) from by simp [wholeT, hbs]]
        by_cases h1 : v.length < 1
        · exact whM1za w g s W H B P hh hv [v] [] ho cn hz hq hho hcn hold v rfl rfl h1
        · by_cases h9 : 9 < v.length
          · exact whM1zb w g s W H B P hh hv [v] [] ho cn hz hq hho hcn hold v rfl rfl (by omega) h9
          · refine whM1zc w g s W H B P hh hv [v] [] ho cn hz hq hho hcn hold v rfl rfl (by omega) (by omega) (fun h => ?_)
            unfold badSize at hbs
            rw [h] at hbs
            simp [h1, h9] at hbs
    · exfalso; simp at hgt
  · rcases z with _ | ⟨v2, z⟩
    · cases hlow : lowIs chunkW v
      · rw [show wholeT { s with cl := closeC (keepC true cn) cn } [v] [] = ({ s with cl := closeC (keepC true cn) cn }, 400) from by simp [wholeT, hlow]]
        exact whM1q0 w g s W H B P hh hv [] [v] ho cn hz hq hho hcn hold v rfl rfl hlow
      · rw [show wholeT { s with cl := closeC (keepC true cn) cn } [v] [] = ({ s with cl := closeC (keepC true cn) cn, st := 10 }, 0) from by simp [wholeT, hlow]]
        exact whM1q1 w g s W H B P hh hv [] [v] ho cn hz hq hho hcn hold v rfl rfl hlow
    · exfalso; simp at hgt
  · exfalso; simp at hgt; omega
theorem whole_any (w : World) (g : Nat) (s : PS) (W H B : Value) (P : Par w g s W H B) (hh : s.hs.length ≤ 1000000000) (hv : ∀ p ∈ s.hs, p.2.length ≤ 140737488355328 ∧ ∀ b ∈ p.2, b.toNat < 128) : Calls Tryd.prog 22 #[.pointer (some ⟨g, 0, none⟩)] w (PPost g W H B w (wholeP s).1 (.int .i64 (wholeP s).2)) := by
  rcases Bool.eq_false_or_eq_true s.old with h | h
  · exact whole1 w g s W H B P hh hv h
  · exact whole0 w g s W H B P hh hv h
end Go.Proofs.YtjichadkonlfpaaDoor

namespace Go.Proofs.YtjichadkonlfpaaDoor
open Go.RowKit
/-- A hexadecimal digit, its value, a number's. -/
def hexB (c : UInt8) : Bool := digitB c || (letterB c && decide (lowI c ≤ 102))
def hexV (c : UInt8) : Nat := if digitB c then c.toNat - 48 else (lowI c).toNat - 87
def hexN (v : List UInt8) : Nat := v.foldl (fun n c => n * 16 + hexV c) 0
def body0 (s : PS) : PS := { s with st := 1 }
def body9 (s : PS) (c : UInt8) : PS := { s with bd := s.bd ++ [c], lf := s.lf - 1, st := if s.lf - 1 = 0 ∧ s.st = 12 then 13 else s.st }
def body10 (s : PS) (c : UInt8) : PS × Int :=
  if ((c.toNat : Int) == 13) && decide ((0 : Int) < (s.wd.length : Int)) then ({ s with lf := (hexN s.wd : Int), wd := [], st := 11 }, 0)
  else takeP s c (hexB c && decide ((s.wd.length : Int) < 6))
def body11 (s : PS) (c : UInt8) : PS × Int :=
  if ((c.toNat : Int) != 10) then (s, 400) else if decide (4096 < s.lf + (s.bd.length : Int)) then (s, 413)
  else if s.lf == 0 then ({ s with st := 13, lf := -1 }, 0) else ({ s with st := 12 }, 0)
def body14 (s : PS) (c : UInt8) : PS × Int := expectP { s with lf := 0 } c 10 (if s.lf < 0 then 9 else 10)
def inBodyP (s : PS) (c : UInt8) : PS × Int :=
  if s.st = 0 then (body0 s, 0) else if s.st = 1 then expectP s c 10 0 else if s.st = 9 ∨ s.st = 12 then (body9 s c, 0)
  else if s.st = 10 then body10 s c else if s.st = 11 then body11 s c else if s.st = 13 then expectP s c 13 14 else if s.st = 14 then body14 s c else (s, 0)
end Go.Proofs.YtjichadkonlfpaaDoor
