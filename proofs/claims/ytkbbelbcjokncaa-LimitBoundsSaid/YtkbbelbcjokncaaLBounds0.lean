/- One bucket's tokens over time, in plain words. No conditions. -/
import Derived.Test.YtkbbelbcjokncaaT5
namespace Go.Proofs.Ytkbbelbcjokncaa
open Go.RowKit
def strK : ByteArray := ⟨#[107]⟩
/-- Behind k asks of one key, S seconds behind the beginning; T tokens have been taken. -/
structure Bnd (m r b0 : Int) (k : Nat) (t : LT) (T S : Int) : Prop where
  ok : t.ok
  most : t.most = m
  each : t.each = r
  S0 : 0 ≤ S
  S2 : S ≤ 2 * k
  T0 : 0 ≤ T
  Tk : T ≤ k
  bk : (t.bk strK.data.toList = none ∧ t.n = 0 ∧ T = 0) ∨ ∃ tok, t.bk strK.data.toList = some (tok, b0 + S) ∧ t.n = 1 ∧ T + tok ≤ m + r * S
theorem Bnd.start {m r b0 : Int} (h1 : 1 ≤ m) (h2 : m ≤ 2147483648) (h3 : 0 ≤ r) (h4 : r ≤ 2147483648) : Bnd m r b0 0 (LT.fresh m r) 0 0 :=
  ⟨fresh_ok h1 h2 h3 h4, rfl, rfl, Int.le_refl _, by simp, Int.le_refl _, by simp, .inl ⟨rfl, rfl, rfl⟩⟩
theorem Bnd.room {m r b0 T S : Int} {k : Nat} {t : LT} (h : Bnd m r b0 k t T S) (hn : t.bk strK.data.toList = none) : t.n < 64 := by
  rcases h.bk with h | ⟨tok, h, _⟩
  · omega
  · rw [h] at hn; cases hn
/-- One ask more. -/
theorem Bnd.step {m r b0 T S : Int} {k : Nat} {t : LT} (h : Bnd m r b0 k t T S) {d : Int} (hd : 0 ≤ d ∧ d ≤ 2) (hb : -1099511627776 ≤ b0 ∧ b0 ≤ 1099511627776) (hk : (k : Int) ≤ 140737488355328) :
    ∃ b t' tok, t.take strK.data.toList (b0 + (S + d)) = (b, t') ∧ Bnd m r b0 (k + 1) t' (if b = true then T + 1 else T) (S + d) ∧ t'.tokens strK.data.toList = tok ∧ 0 ≤ tok ∧ tok ≤ m ∧ t'.n = 1 ∧ (if b = true then T + 1 else T) ≤ m + r * (S + d) := by
  have hnow : -9223372036854775808 ≤ b0 + (S + d) ∧ b0 + (S + d) ≤ 9223372036854775807 := by have := h.S0; have := h.S2; omega
  have hok := LT.take_ok h.ok strK.data.toList hnow
  have hask := LT.asked_ok h.ok strK.data.toList hnow
  -- the tokens and the moment behind the refill
  have key : (t.asked strK.data.toList (b0 + (S + d))).2 = b0 + (S + d) ∧ T + (t.asked strK.data.toList (b0 + (S + d))).1 ≤ m + r * (S + d) := by
    have hr0 : 0 ≤ r := h.each ▸ h.ok.each.1
    have hmul : r * (S + d) = r * S + r * d := Int.mul_add _ _ _
    have hrd : 0 ≤ r * d := Int.mul_nonneg hr0 hd.1
    have hrs : 0 ≤ r * S := Int.mul_nonneg hr0 h.S0
    rcases h.bk with ⟨hn, _, hT⟩ | ⟨tok, hn, _, hT⟩
    · unfold LT.asked refilled
      rw [hn]
      simp only [Option.getD_none, Int.le_refl, if_true]
      refine ⟨trivial, ?_⟩
      rw [h.most]
      omega
    · unfold LT.asked refilled
      rw [hn]
      simp only [Option.getD_some]
      by_cases hle : b0 + (S + d) ≤ b0 + S
      · rw [if_pos hle]
        have : d = 0 := by omega
        subst this
        refine ⟨by show b0 + S = _; omega, ?_⟩
        show T + tok ≤ _
        omega
      · rw [if_neg hle]
        refine ⟨rfl, ?_⟩
        show T + min t.most (tok + t.each * (b0 + (S + d) - (b0 + S))) ≤ _
        rw [show b0 + (S + d) - (b0 + S) = d from by omega, h.each]
        omega
  obtain ⟨r0, hr0⟩ : ∃ r0, t.asked strK.data.toList (b0 + (S + d)) = r0 := ⟨_, rfl⟩
  rw [hr0] at key hask
  have htk : t.take strK.data.toList (b0 + (S + d)) = (decide (r0.1 ≠ 0), t.set strK.data.toList (took r0)) := by unfold LT.take; rw [hr0]
  have hn1 : (t.set strK.data.toList (took r0)).n = 1 := by
    unfold LT.set
    rcases h.bk with ⟨hn, h0, _⟩ | ⟨tok, hn, h1, _⟩
    · rw [if_pos hn]; show t.n + 1 = 1; omega
    · rw [if_neg (by rw [hn]; simp)]; exact h1
  have htok : (t.set strK.data.toList (took r0)).tokens strK.data.toList = (took r0).1 := by unfold LT.tokens; rw [set_bk]
  rw [htk] at hok
  have hk2 : (took r0).2 = r0.2 := by unfold took; split <;> rfl
  have hcast : ((k + 1 : Nat) : Int) = (k : Int) + 1 := by omega
  refine ⟨_, _, _, htk, ⟨hok, h.most, h.each, by have := h.S0; omega, by have := h.S2; rw [hcast]; omega, by have := h.T0; split <;> omega, by have := h.Tk; rw [hcast]; split <;> omega, .inr ⟨(took r0).1, ?_, hn1, ?_⟩⟩, htok, ?_, ?_, hn1, ?_⟩
  · rw [set_bk, ← key.1, ← hk2]
  · by_cases h0 : r0.1 = 0
    · rw [if_neg (by simp [h0])]; unfold took; rw [if_pos h0]; omega
    · rw [if_pos (by simp [h0])]; unfold took; rw [if_neg h0]; show T + 1 + (r0.1 - 1) ≤ _; omega
  · unfold took
    split
    · exact hask.1.1
    · show 0 ≤ r0.1 - 1; have := hask.1.1; omega
  · rw [← h.most]
    unfold took
    split
    · exact hask.1.2
    · show r0.1 - 1 ≤ _; have := hask.1.2; omega
  · by_cases h0 : r0.1 = 0
    · rw [if_neg (by simp [h0])]; have := hask.1.1; omega
    · rw [if_pos (by simp [h0])]; have := hask.1.1; omega
end Go.Proofs.Ytkbbelbcjokncaa
