/- whole: every head. Printed by wip/genH7.py. No conditions. -/
import Derived.Test.YtjichadkonlfpaaDoorH6a
import Derived.Test.YtjichadkonlfpaaDoorH6b
import Derived.Test.YtjichadkonlfpaaDoorH6c
import Derived.Test.YtjichadkonlfpaaDoorH6d
import Derived.Test.YtjichadkonlfpaaDoorH6e
import Derived.Test.YtjichadkonlfpaaDoorH6f
namespace Go.Proofs.YtjichadkonlfpaaDoor
open Go.RowKit
theorem wholeP_no {s : PS} (h : wholeNo s = true) : wholeP s = (s, 400) := by unfold wholeP; rw [if_pos h]
theorem wholeP_go {s : PS} {z q : List (List UInt8)} (h : wholeNo s = false) (hz : valuesP s.hs clW = z) (hq : valuesP s.hs teW = q) : wholeP s = wholeT { s with cl := wholeC s } q z := by
  unfold wholeP; rw [if_neg (by rw [h]; decide), hq, hz]
theorem whole0 (w : World) (g : Nat) (s : PS) (W H B : Value) (P : Par w g s W H B) (hh : s.hs.length ≤ 1000000000) (hv : ∀ p ∈ s.hs, p.2.length ≤ 140737488355328 ∧ ∀ b ∈ p.2, b.toNat < 128) (hold : s.old = false) : Calls Tryd.prog 22 #[.pointer (some ⟨g, 0, none⟩)] w (PPost g W H B w (wholeP s).1 (.int .i64 (wholeP s).2)) := by
  obtain ⟨z, hz⟩ : ∃ z, valuesP s.hs clW = z := ⟨_, rfl⟩
  obtain ⟨q, hq⟩ : ∃ q, valuesP s.hs teW = q := ⟨_, rfl⟩
  obtain ⟨ho, hho⟩ : ∃ ho, valuesP s.hs hostW = ho := ⟨_, rfl⟩
  obtain ⟨cn, hcn⟩ : ∃ cn, valuesP s.hs connW = cn := ⟨_, rfl⟩
  have hC : wholeC s = closeC (keepC false cn) cn := by unfold wholeC; rw [hcn, hold]
  by_cases hne : ho.length = 1
  case neg =>
    rw [wholeP_no (by unfold wholeNo; rw [hold, hho]; simp [hne])]
    exact whA w g s W H B P hh hv z q ho cn hz hq hho hcn hold hne
  by_cases hgt : 1 < z.length + q.length
  case pos =>
    rw [wholeP_no (by unfold wholeNo; rw [hold, hz, hq, hho]; simp [hne, hgt])]
    exact whB0 w g s W H B P hh hv z q ho cn hz hq hho hcn hold hne hgt
  have e := wholeP_go (s := s) (by unfold wholeNo; rw [hold, hz, hq, hho]; simp [hne]; omega) hz hq
  rw [hC] at e
  rw [e]
  rcases q with _ | ⟨v, _ | ⟨v2, q⟩⟩
  · rcases z with _ | ⟨v, _ | ⟨v2, z⟩⟩
    · exact whM0n w g s W H B P hh hv [] [] ho cn hz hq hho hcn hold hne rfl rfl
    · cases hbs : badSize v
      · by_cases hgt4 : 4096 < numD v
        · rw [show wholeT { s with cl := closeC (keepC false cn) cn } [] [v] = ({ s with cl := closeC (keepC false cn) cn, lf := (numD v : Int) }, 413) from by simp [wholeT, hbs, hgt4]]
          exact whM0zd w g s W H B P hh hv [v] [] ho cn hz hq hho hcn hold hne v rfl rfl hbs hgt4
        · rw [show wholeT { s with cl := closeC (keepC false cn) cn } [] [v] = ({ s with cl := closeC (keepC false cn) cn, lf := (numD v : Int) }, 0) from by simp [wholeT, hbs, hgt4]]
          exact whM0ze w g s W H B P hh hv [v] [] ho cn hz hq hho hcn hold hne v rfl rfl hbs hgt4
      · rw [show wholeT { s with cl := closeC (keepC false cn) cn } [] [v] = ({ s with cl := closeC (keepC false cn) cn }, 400) from by simp [wholeT, hbs]]
        by_cases h1 : v.length < 1
        · exact whM0za w g s W H B P hh hv [v] [] ho cn hz hq hho hcn hold hne v rfl rfl h1
        · by_cases h9 : 9 < v.length
          · exact whM0zb w g s W H B P hh hv [v] [] ho cn hz hq hho hcn hold hne v rfl rfl (by omega) h9
          · refine whM0zc w g s W H B P hh hv [v] [] ho cn hz hq hho hcn hold hne v rfl rfl (by omega) (by omega) (fun h => ?_)
            unfold badSize at hbs
            rw [h] at hbs
            simp [h1, h9] at hbs
    · exfalso; simp at hgt
  · rcases z with _ | ⟨v2, z⟩
    · cases hlow : lowIs chunkW v
      · rw [show wholeT { s with cl := closeC (keepC false cn) cn } [v] [] = ({ s with cl := closeC (keepC false cn) cn }, 400) from by simp [wholeT, hlow]]
        exact whM0q0 w g s W H B P hh hv [] [v] ho cn hz hq hho hcn hold hne v rfl rfl hlow
      · rw [show wholeT { s with cl := closeC (keepC false cn) cn } [v] [] = ({ s with cl := closeC (keepC false cn) cn, st := 10 }, 0) from by simp [wholeT, hlow]]
        exact whM0q1 w g s W H B P hh hv [] [v] ho cn hz hq hho hcn hold hne v rfl rfl hlow
    · exfalso; simp at hgt
  · exfalso; simp at hgt; omega
theorem whole1 (w : World) (g : Nat) (s : PS) (W H B : Value) (P : Par w g s W H B) (hh : s.hs.length ≤ 1000000000) (hv : ∀ p ∈ s.hs, p.2.length ≤ 140737488355328 ∧ ∀ b ∈ p.2, b.toNat < 128) (hold : s.old = true) : Calls Tryd.prog 22 #[.pointer (some ⟨g, 0, none⟩)] w (PPost g W H B w (wholeP s).1 (.int .i64 (wholeP s).2)) := by
  obtain ⟨z, hz⟩ : ∃ z, valuesP s.hs clW = z := ⟨_, rfl⟩
  obtain ⟨q, hq⟩ : ∃ q, valuesP s.hs teW = q := ⟨_, rfl⟩
  obtain ⟨ho, hho⟩ : ∃ ho, valuesP s.hs hostW = ho := ⟨_, rfl⟩
  obtain ⟨cn, hcn⟩ : ∃ cn, valuesP s.hs connW = cn := ⟨_, rfl⟩
  have hC : wholeC s = closeC (keepC true cn) cn := by unfold wholeC; rw [hcn, hold]
  by_cases hgt : 1 < z.length + q.length
  case pos =>
    rw [wholeP_no (by unfold wholeNo; rw [hold, hz, hq, hho]; simp [hgt])]
    exact whB1 w g s W H B P hh hv z q ho cn hz hq hho hcn hold hgt
  have e := wholeP_go (s := s) (by unfold wholeNo; rw [hold, hz, hq, hho]; simp; omega) hz hq
  rw [hC] at e
  rw [e]
  rcases q with _ | ⟨v, _ | ⟨v2, q⟩⟩
  · rcases z with _ | ⟨v, _ | ⟨v2, z⟩⟩
    · exact whM1n w g s W H B P hh hv [] [] ho cn hz hq hho hcn hold rfl rfl
    · cases hbs : badSize v
      · by_cases hgt4 : 4096 < numD v
        · rw [show wholeT { s with cl := closeC (keepC true cn) cn } [] [v] = ({ s with cl := closeC (keepC true cn) cn, lf := (numD v : Int) }, 413) from by simp [wholeT, hbs, hgt4]]
          exact whM1zd w g s W H B P hh hv [v] [] ho cn hz hq hho hcn hold v rfl rfl hbs hgt4
        · rw [show wholeT { s with cl := closeC (keepC true cn) cn } [] [v] = ({ s with cl := closeC (keepC true cn) cn, lf := (numD v : Int) }, 0) from by simp [wholeT, hbs, hgt4]]
          exact whM1ze w g s W H B P hh hv [v] [] ho cn hz hq hho hcn hold v rfl rfl hbs hgt4
      · rw [show wholeT { s with cl := closeC (keepC true cn) cn } [] [v] = ({ s with cl := closeC (keepC true cn) cn }, 400) from by simp [wholeT, hbs]]
        by_cases h1 : v.length < 1
        · exact whM1za w g s W H B P hh hv [v] [] ho cn hz hq hho hcn hold v rfl rfl h1
        · by_cases h9 : 9 < v.length
          · exact whM1zb w g s W H B P hh hv [v] [] ho cn hz hq hho hcn hold v rfl rfl (by omega) h9
          · refine whM1zc w g s W H B P hh hv [v] [] ho cn hz hq hho hcn hold v rfl rfl (by omega) (by omega) (fun h => ?_)
            unfold badSize at hbs
            rw [h] at hbs
            simp [h1, h9] at hbs
    · exfalso; simp at hgt
  · rcases z with _ | ⟨v2, z⟩
    · cases hlow : lowIs chunkW v
      · rw [show wholeT { s with cl := closeC (keepC true cn) cn } [v] [] = ({ s with cl := closeC (keepC true cn) cn }, 400) from by simp [wholeT, hlow]]
        exact whM1q0 w g s W H B P hh hv [] [v] ho cn hz hq hho hcn hold v rfl rfl hlow
      · rw [show wholeT { s with cl := closeC (keepC true cn) cn } [v] [] = ({ s with cl := closeC (keepC true cn) cn, st := 10 }, 0) from by simp [wholeT, hlow]]
        exact whM1q1 w g s W H B P hh hv [] [v] ho cn hz hq hho hcn hold v rfl rfl hlow
    · exfalso; simp at hgt
  · exfalso; simp at hgt; omega
theorem whole_any (w : World) (g : Nat) (s : PS) (W H B : Value) (P : Par w g s W H B) (hh : s.hs.length ≤ 1000000000) (hv : ∀ p ∈ s.hs, p.2.length ≤ 140737488355328 ∧ ∀ b ∈ p.2, b.toNat < 128) : Calls Tryd.prog 22 #[.pointer (some ⟨g, 0, none⟩)] w (PPost g W H B w (wholeP s).1 (.int .i64 (wholeP s).2)) := by
  rcases Bool.eq_false_or_eq_true s.old with h | h
  · exact whole1 w g s W H B P hh hv h
  · exact whole0 w g s W H B P hh hv h
end Go.Proofs.YtjichadkonlfpaaDoor
