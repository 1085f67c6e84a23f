/- Feeds one behind the other, in plain Lean and in memory. No conditions. -/
import Derived.Test.YtjichadkonlfpaaDoorLHEnds
namespace Go.Proofs.YtjichadkonlfpaaDoor
open Go.RowKit
theorem takeP_en (s : PS) (c : UInt8) (f : Bool) : (takeP s c f).1.en = s.en := by cases f <;> rfl
theorem expectP_en (s : PS) (c d : UInt8) (n : Int) : (expectP s c d n).1.en = s.en := by unfold expectP; split <;> rfl
theorem inHeadP_en (s : PS) (c : UInt8) : (inHeadP s c).1.en = s.en := by
  unfold inHeadP
  split
  · unfold head2; split; rfl; exact takeP_en _ _ _
  split
  · unfold head3; split; rfl; exact takeP_en _ _ _
  split
  · unfold head4
    split
    · exact takeP_en _ _ _
    split
    · exact takeP_en _ _ _
    split
    · rfl
    · rfl
  split
  · unfold head5; split <;> rfl
  split
  · unfold head6
    split
    · rfl
    split
    · rfl
    · exact takeP_en _ _ _
  split
  · unfold head7; split; exact takeP_en _ _ _; rfl
  split
  · unfold head8; split <;> rfl
  rfl
theorem wholeP_en (s : PS) : (wholeP s).1.en = s.en := by
  unfold wholeP
  split
  · rfl
  unfold wholeT
  split
  · split <;> rfl
  · split
    · rfl
    split <;> rfl
  · rfl
theorem inBodyP_en (s : PS) (c : UInt8) : (inBodyP s c).1.en = s.en := by
  unfold inBodyP
  split
  · rfl
  split
  · exact expectP_en _ _ _ _
  split
  · rfl
  split
  · unfold body10; split; rfl; exact takeP_en _ _ _
  split
  · unfold body11
    split
    · rfl
    split
    · rfl
    split <;> rfl
  split
  · exact expectP_en _ _ _ _
  split
  · exact expectP_en _ _ _ _
  rfl
theorem start1_en (s : PS) (c : UInt8) : (start1 s c).en = s.en := by unfold start1; split <;> rfl
theorem take1P_en (s : PS) (c : UInt8) : (take1P s c).1.en = s.en := by
  unfold take1P
  split
  · unfold head1
    split
    · rw [inHeadP_en, start1_en]
    split
    · show (inHeadP _ _).1.en = _; rw [inHeadP_en, start1_en]
    split
    · rw [wholeP_en]; show (inHeadP _ _).1.en = _; rw [inHeadP_en, start1_en]
    · show (inHeadP _ _).1.en = _; rw [inHeadP_en, start1_en]
  · rw [inBodyP_en, start1_en]
/-- A feed, on a parser that may have ended. -/
def F (s : PS) (l : List UInt8) : PS × List Req × Int := if s.en then (s, [], 0) else feedP s l
/-- What holds of a parser between two feeds. -/
def OkF (s : PS) : Prop := s.en = true ∨ (s.en = false ∧ Ok s ∧ ¬ (s.st = 9 ∧ s.lf = 0))
theorem feedP_okF (l : List UInt8) : ∀ s, s.en = false → Ok s → ¬ (s.st = 9 ∧ s.lf = 0) → OkF (feedP s l).1 := by
  induction l with
  | nil => intro s h1 h2 h3; exact .inr ⟨h1, h2, h3⟩
  | cons c l ih =>
    intro s h1 h2 h3
    unfold feedP
    split
    · exact .inl rfl
    rename_i h0
    have h0' : (take1P s c).2 = 0 := Classical.not_not.1 h0
    split
    · split
      · exact .inl rfl
      · exact ih _ rfl (ok_zero false) (by simp [zeroP])
    · rename_i h9
      exact ih _ (by rw [take1P_en]; exact h1) (take1_ok h2 h3 h0') h9
theorem F_okF {s : PS} (l : List UInt8) (h : OkF s) : OkF (F s l).1 := by
  unfold F
  rcases h with h | ⟨h1, h2, h3⟩
  · rw [h]; exact .inl h
  · rw [h1]; exact feedP_okF l s h1 h2 h3
theorem okF_zero : OkF (zeroP false) := .inr ⟨rfl, ok_zero false, by simp [zeroP]⟩
theorem F_status (s : PS) (l : List UInt8) : 0 ≤ (F s l).2.2 := by
  unfold F
  split
  · exact Int.le_refl _
  · rcases feedP_end l s with h | ⟨h, _⟩ <;> omega
theorem F_le (s : PS) (l : List UInt8) : (F s l).2.2 ≤ 431 := by
  unfold F
  split
  · show (0 : Int) ≤ 431; omega
  · rcases feedP_end l s with h | ⟨h, _⟩ <;> omega
theorem F_nil (s : PS) : F s [] = (s, [], 0) := by unfold F; split <;> rfl
theorem feedP_app (a : List UInt8) : ∀ s b, s.en = false → feedP s (a ++ b) = ((F (feedP s a).1 b).1, (feedP s a).2.1 ++ (F (feedP s a).1 b).2.1, max (feedP s a).2.2 (F (feedP s a).1 b).2.2) := by
  induction a with
  | nil =>
    intro s b h
    show feedP s b = _
    have h1 : (feedP s []).1 = s := rfl
    have h2 : F s b = feedP s b := by unfold F; rw [h]; rfl
    have h3 := F_status s b
    rw [h1, h2] at *
    show feedP s b = ((feedP s b).1, [] ++ (feedP s b).2.1, max 0 (feedP s b).2.2)
    rw [show max 0 (feedP s b).2.2 = (feedP s b).2.2 from by omega]
    rfl
  | cons c a ih =>
    intro s b h
    rw [List.cons_append, feedP, feedP]
    by_cases h0 : (take1P s c).2 ≠ 0
    · rw [if_pos h0, if_pos h0]
      have h1 : ∀ t : PS, t.en = true → F t b = (t, [], 0) := fun t ht => by unfold F; rw [ht]; rfl
      rw [h1 _ rfl]
      have h2 := take1P_st s c
      simp only [List.append_nil]
      rw [show max (take1P s c).2 0 = (take1P s c).2 from by rcases h2 with h2 | h2 | h2 | h2 <;> omega]
    · rw [if_neg h0, if_neg h0]
      by_cases h9 : (take1P s c).1.st = 9 ∧ (take1P s c).1.lf = 0
      · rw [if_pos h9, if_pos h9]
        by_cases hc : (take1P s c).1.cl = true
        · rw [if_pos hc, if_pos hc]
          have h1 : ∀ t : PS, t.en = true → F t b = (t, [], 0) := fun t ht => by unfold F; rw [ht]; rfl
          rw [h1 _ rfl]
          simp
        · rw [if_neg hc, if_neg hc, ih (zeroP false) b rfl]
          simp
      · rw [if_neg h9, if_neg h9, ih _ b (by rw [take1P_en]; exact h)]
/-- A feed of two pieces is two feeds. -/
theorem F_app (s : PS) (a b : List UInt8) : F s (a ++ b) = ((F (F s a).1 b).1, (F s a).2.1 ++ (F (F s a).1 b).2.1, max (F s a).2.2 (F (F s a).1 b).2.2) := by
  cases h : s.en
  · have h1 : ∀ l, F s l = feedP s l := fun l => by unfold F; rw [h]; rfl
    rw [h1, h1]
    exact feedP_app a s b h
  · have h1 : ∀ l, F s l = (s, [], 0) := fun l => by unfold F; rw [h]; rfl
    rw [h1, h1, h1]
    rfl
theorem F_count (s : PS) (l : List UInt8) : (F s l).2.1.length ≤ l.length := by
  unfold F
  split
  · exact Nat.zero_le _
  · exact feedP_count l s
def FPost (g : Nat) (W H B : Value) (w : World) (r : PS × List Req × Int) (e : Ending) (w' : World) : Prop :=
  ∃ v L W' H' B', e = .returned (.tuple #[v, .int .i64 r.2.2]) ∧ L.map (·.1) = r.2.1 ∧ FS g W H B w r.1 v L W' H' B' w'
theorem feedF_any (w : World) (g : Nat) (s : PS) (W H B : Value) (l : List UInt8) (A : Option Addr) (n c : Nat) (P : Par w g s W H B) (hk : OkF s) (hr : Reads w w.heap.size 1 A n (bvs l)) (ha : 0 < n → ∀ b off, A = some ⟨b, off, none⟩ → b ∉ PL g W H B) (hl : l.length ≤ 1000000) :
    Calls Tryd.prog 10 #[.pointer (some ⟨g, 0, none⟩), .slice A n c] w (FPost g W H B w (F s l)) := by
  unfold F
  have hn : l.length = n := by have := hr.1; rw [bvs_length] at this; omega
  rcases hk with h | ⟨h1, h2, h3⟩
  · rw [if_pos h]
    refine (feed_ended w g s W H B _ P h).mono ?_
    rintro e w' ⟨rfl, rfl⟩
    exact ⟨_, [], W, H, B, rfl, rfl, FS.start P⟩
  · rw [if_neg (by rw [h1]; decide)]
    have hc := feedP_count l s
    exact feed_any w g s W H B l A n c P h2 h3 h1 hr ha (by omega) (by omega)
end Go.Proofs.YtjichadkonlfpaaDoor
