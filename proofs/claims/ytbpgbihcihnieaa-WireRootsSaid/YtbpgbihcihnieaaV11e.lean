/- wire: DecodeRoot. No conditions. -/
import Derived.Test.YtbpgbihcihnieaaV11b
import Derived.Test.YtbpgbihcihnieaaV11c
import Derived.Test.YtbpgbihcihnieaaV11d
namespace Go.Proofs.Ytbpgbihcihnieaa
open Go.RowKit
theorem fields_two (l word : List UInt8) : ∃ x y, (openV l word 2).getD (noFields 2) = [x, y] ∧ (∀ ls, openV l word 2 = some ls → ls = [x, y]) ∧ x.length ≤ 140737488355328 := by
  cases h : openV l word 2 with
  | none => exact ⟨[], [], rfl, by simp, by simp⟩
  | some ls =>
    obtain ⟨x, y, rfl⟩ := two_of (openV_length h)
    exact ⟨x, y, rfl, fun ms hm => (Option.some.inj hm).symm, openV_le h x (by simp)⟩
theorem fields_six (l word : List UInt8) : ∃ a b c d e f, (openV l word 6).getD (noFields 6) = [a, b, c, d, e, f] ∧ (∀ ls, openV l word 6 = some ls → ls = [a, b, c, d, e, f]) ∧ (a.length ≤ 140737488355328 ∧ b.length ≤ 140737488355328 ∧ c.length ≤ 140737488355328) := by
  cases h : openV l word 6 with
  | none => exact ⟨[], [], [], [], [], [], rfl, by simp, by simp⟩
  | some ls =>
    obtain ⟨a, b, c, d, e, f, rfl⟩ := six_of (openV_length h)
    exact ⟨a, b, c, d, e, f, rfl, fun ms hm => (Option.some.inj hm).symm, openV_le h a (by simp), openV_le h b (by simp), openV_le h c (by simp)⟩
theorem six_bad : ∀ a b c d e f : Bool, (a && b && c && d && e && f) = false → ((((((false || !a) || !b) || !c) || !d) || !e) || !f) = true := by decide
theorem DecodeRoot_any (A : Option Addr) (c : Nat) (b : List UInt8) (w : World) (hr : Reads w w.heap.size 1 A b.length (bvs b)) (hc : b.length ≤ c) (hm : b.length ≤ 140737488355328) : Calls Try.prog 27 #[.slice A b.length c] w (RootPost b w) := by
  obtain ⟨x, y, e1, s1, xl⟩ := fields_two b signedW
  obtain ⟨f1, f2, f3, f4, f5, f6, e2, s2, fl⟩ := fields_six x rootW
  by_cases hF : ((!(openV b signedW 2).isSome) || !decide (y.length = 64)) = true
  · refine wDR_f A c b w hr hc hm x y f1 f2 f3 f4 f5 f6 _ _ _ _ _ _ _ _ ⟨e1, rfl⟩ ⟨e2, rfl⟩ xl fl rfl rfl rfl rfl rfl rfl ?_ hF
    cases h : openV b signedW 2 with
    | none => exact rootD_a h
    | some ls =>
      obtain rfl := s1 ls h
      rw [h] at hF
      exact rootD_b h (by simpa using hF)
  · have hF' : ((!(openV b signedW 2).isSome) || !decide (y.length = 64)) = false := by
      cases hq : ((!(openV b signedW 2).isSome) || !decide (y.length = 64)) with
      | true => exact absurd hq hF
      | false => rfl
    have hO : openV b signedW 2 = some [x, y] ∧ y.length = 64 := by
      cases h : openV b signedW 2 with
      | none => rw [h] at hF'; simp at hF'
      | some ls =>
        obtain rfl := s1 ls h
        rw [h] at hF'
        exact ⟨rfl, by simpa using hF'⟩
    obtain ⟨hO1, hy⟩ := hO
    cases h2 : openV x rootW 6 with
    | none =>
      exact wDR_g A c b w hr hc hm x y f1 f2 f3 f4 f5 f6 _ _ _ _ _ _ _ ⟨e1, rfl⟩ ⟨e2, rfl⟩ xl fl rfl rfl rfl rfl rfl (by rw [h2]; simp) (rootD_c hO1 h2) hF'
    | some ms =>
      obtain rfl := s2 ms h2
      cases hi : innerOK f1 f2 f3 f4 f5 f6 with
      | true =>
        have hI := hi
        simp only [innerOK, Bool.and_eq_true, decide_eq_true_eq] at hI
        obtain ⟨⟨⟨⟨⟨l1, l2⟩, l3⟩, l4⟩, l5⟩, l6⟩ := hI
        exact wDR_ok A c b w hr hc hm x y f1 f2 f3 f4 f5 f6 _ _ _ _ _ _ _ ⟨e1, rfl⟩ ⟨e2, rfl⟩ xl fl rfl rfl rfl rfl rfl (by rw [h2]; simp [l1, l2, l3, l4, l5, l6]) (rootD_d hO1 hy h2 hi) hF' hy l4 l5 l6
      | false =>
        refine wDR_g A c b w hr hc hm x y f1 f2 f3 f4 f5 f6 _ _ _ _ _ _ _ ⟨e1, rfl⟩ ⟨e2, rfl⟩ xl fl rfl rfl rfl rfl rfl ?_ (rootD_e hO1 h2 hi) hF'
        rw [h2]
        exact six_bad _ _ _ _ _ _ hi
end Go.Proofs.Ytbpgbihcihnieaa
