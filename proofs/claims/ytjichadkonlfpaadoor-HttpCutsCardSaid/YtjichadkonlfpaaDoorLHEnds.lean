/- HttpEnds: the walk and the plain law. No conditions. -/
import Derived.Test.YtjichadkonlfpaaDoorH14
import Derived.Test.YtjichadkonlfpaaDoorArgBytes
namespace Go.Proofs.YtjichadkonlfpaaDoor
open Go.RowKit
/-- What a step can answer. -/
def St (v : Int) : Prop := v = 0 ∨ v = 400 ∨ v = 413 ∨ v = 431
theorem st0 : St 0 := .inl rfl
theorem st400 : St 400 := .inr (.inl rfl)
theorem st413 : St 413 := .inr (.inr (.inl rfl))
theorem st431 : St 431 := .inr (.inr (.inr rfl))
theorem takeP_st (s : PS) (c : UInt8) (f : Bool) : St (takeP s c f).2 := by cases f; exact st400; exact st0
theorem expectP_st (s : PS) (c d : UInt8) (n : Int) : St (expectP s c d n).2 := by unfold expectP; split; exact st0; exact st400
theorem inHeadP_st (s : PS) (c : UInt8) : St (inHeadP s c).2 := by
  unfold inHeadP
  split
  · unfold head2; split; exact st0; exact takeP_st _ _ _
  split
  · unfold head3; split; exact st0; exact takeP_st _ _ _
  split
  · unfold head4
    split
    · exact takeP_st _ _ _
    split
    · exact takeP_st _ _ _
    split
    · exact st400
    · exact st0
  split
  · unfold head5; split; exact st400; exact st0
  split
  · unfold head6
    split
    · exact st0
    split
    · exact st0
    · exact takeP_st _ _ _
  split
  · unfold head7; split; exact takeP_st _ _ _; exact st0
  split
  · unfold head8; split; exact st400; exact st0
  exact st0
theorem wholeP_st (s : PS) : St (wholeP s).2 := by
  unfold wholeP
  split
  · exact st400
  unfold wholeT
  split
  · split; exact st0; exact st400
  · split
    · exact st400
    split
    · exact st413
    · exact st0
  · exact st0
theorem inBodyP_st (s : PS) (c : UInt8) : St (inBodyP s c).2 := by
  unfold inBodyP
  split
  · exact st0
  split
  · exact expectP_st _ _ _ _
  split
  · exact st0
  split
  · unfold body10; split; exact st0; exact takeP_st _ _ _
  split
  · unfold body11
    split
    · exact st400
    split
    · exact st413
    split
    · exact st0
    · exact st0
  split
  · exact expectP_st _ _ _ _
  split
  · exact expectP_st _ _ _ _
  exact st0
theorem take1P_st (s : PS) (c : UInt8) : St (take1P s c).2 := by
  unfold take1P
  split
  · unfold head1
    split
    · exact inHeadP_st _ _
    split
    · exact st431
    split
    · exact wholeP_st _
    · exact st0
  · exact inBodyP_st _ _
theorem feedP_end (l : List UInt8) : ∀ s, (feedP s l).2.2 = 0 ∨ (((feedP s l).2.2 = 400 ∨ (feedP s l).2.2 = 413 ∨ (feedP s l).2.2 = 431) ∧ (feedP s l).1.en = true) := by
  induction l with
  | nil => intro s; exact .inl rfl
  | cons c l ih =>
    intro s
    unfold feedP
    split
    · rename_i h
      rcases take1P_st s c with h1 | h1
      · exact absurd h1 h
      · exact .inr ⟨h1, rfl⟩
    split
    · split
      · exact .inl rfl
      · exact ih _
    · exact ih _
theorem feedP_count (l : List UInt8) : ∀ s, (feedP s l).2.1.length ≤ l.length := by
  induction l with
  | nil => intro s; exact Nat.le_refl _
  | cons c l ih =>
    intro s
    unfold feedP
    split
    · exact Nat.zero_le _
    split
    · split
      · simp
      · have := ih (zeroP false); simp only [List.length_cons]; omega
    · have := ih (take1P s c).1; simp only [List.length_cons]; omega
theorem reads_block_lt {w : World} {B sz n : Nat} {A : Option Addr} {xs : List Value} (h : Reads w B sz A n xs) (h0 : 0 < n) {b off : Nat} (hA : A = some ⟨b, off, none⟩) : b < B := by
  obtain ⟨ad, hA2, hlt, _⟩ := h.2 h0
  rw [hA] at hA2
  cases hA2
  exact hlt
set_option maxRecDepth 100000 in
set_option maxHeartbeats 1000000 in
theorem ends_walk (v0 v1 : Value) (l0 l1 : List UInt8) (w : World) (a0 : ArgB w v0 l0) (a1 : ArgB w v1 l1) (hN : (feedP (zeroP false) l0).2.1.length * 88 ≤ 140737488355328) :
    Calls Tryd.prog 5 #[v0, v1] w fun e w' => e = .returned (.bool true) ∧ Below w.heap.size w w' := by
  obtain ⟨A, c, rfl, _, hr, hl⟩ := a0
  obtain ⟨A1, c1, rfl, _, _, _⟩ := a1
  have HR := Lib.hid hr
  have HN := Lib.hid hN
  have HL : Hid (l0.length ≤ 140737488355328) := Nat.le_trans hl (by unfold reachBytes; decide)
  have HE := Lib.hid (feedP_end l0 (zeroP false))
  obtain ⟨n0, hn0⟩ : ∃ n, n = l0.length := ⟨_, rfl⟩
  obtain ⟨n1, hn1⟩ : ∃ n, n = l1.length := ⟨_, rfl⟩
  rw [← hn0] at HR HL ⊢
  rw [← hn1]
  obtain ⟨r, hrr⟩ : ∃ r, r = feedP (zeroP false) l0 := ⟨_, rfl⟩
  rw [← hrr] at HE HN
  have HRR := Lib.hid hrr
  obtain ⟨v, hv⟩ : ∃ v, v = r.2.2 := ⟨_, rfl⟩
  rw [← hv] at HE
  have HV := Lib.hid hv
  clear hr hN hl hn0 hn1 hrr hv
  have HFEED : Hid (∀ (w2 : World) (g : Nat), Par w2 g (zeroP false) (.slice none 0 0) (.slice none 0 0) (.slice none 0 0) → w.heap.size ≤ g → Below w.heap.size w w2 → Calls Tryd.prog 10 #[.pointer (some ⟨g, 0, none⟩), .slice A n0 c] w2 fun e w' => ∃ x, e = .returned (.tuple #[x, .int .i64 v]) ∧ Below w.heap.size w2 w' ∧ ∃ W H B, Par w' g r.1 W H B) := by
    intro w2 g P hg hb
    refine (feed_any w2 g (zeroP false) _ _ _ l0 A n0 c P (ok_zero false) (by simp [zeroP]) rfl (HR.out.bel hb hb.size) (fun h0 b off hA hm => ?_) (by rw [← HRR.out]; exact HN.out) HL.out).mono ?_
    · have h1 : b = g := by simpa [PL, Value.ownBlock] using hm
      have := reads_block_lt HR.out h0 hA
      omega
    · rintro e w' ⟨x, L, W, H, B, rfl, _, F⟩
      refine ⟨x, by rw [HV.out, HRR.out], F.below hg hb.size, W, H, B, by rw [HRR.out]; exact F.par⟩
  by_cases hz : v = 0
  · subst hz
    go_enter Tryd.func5, Tryd.ntmps5
    go_wp2_with (first
      | (go_at_call 7; go_must (refine (awake_any w).mono ?_; rintro e w1 ⟨rfl, hb⟩; have HB1 := Lib.hid hb; clear hb))
      | (go_at_call 9; go_must (refine (new_any w1).mono ?_; rintro e w2 ⟨g, rfl, P2, hb, hg⟩; have HP2 := Lib.hid P2; have HB2 := Lib.hid (HB1.out.trans (hb.mono HB1.out.size)); have HG := Lib.hid (Nat.le_trans HB1.out.size hg); clear P2 hb hg))
      | (go_at_call 10; go_must (refine (HFEED.out w2 g HP2.out HG.out HB2.out).mono ?_; rintro e w3 ⟨x, rfl, hb, _⟩; have HB3 := Lib.hid (HB2.out.trans hb); clear hb)))
    go_ret
    exact ⟨rfl, HB3.out⟩
  · have hz0 : (v == 0) = false := by simpa using hz
    have hor : v = 400 ∨ v = 413 ∨ v = 431 := by
      rcases HE.out with h | h
      · exact absurd h hz
      · exact h.1
    have HEN : Hid (r.1.en = true) := by
      rcases HE.out with h | h
      · exact absurd h hz
      · exact h.2
    clear hz
    rcases hor with rfl | rfl | rfl
    all_goals
      clear hz0
      go_enter Tryd.func5, Tryd.ntmps5
      have T0 : Hid True := trivial
      go_wp2_with (first
        | (go_at_call 7; go_must (refine (awake_any w).mono ?_; rintro e w1 ⟨rfl, hb⟩; have HB1 := Lib.hid hb; clear hb))
        | (go_at_call 9; go_must (refine (new_any w1).mono ?_; rintro e w2 ⟨g, rfl, P2, hb, hg⟩; have HP2 := Lib.hid P2; have HB2 := Lib.hid (HB1.out.trans (hb.mono HB1.out.size)); have HG := Lib.hid (Nat.le_trans HB1.out.size hg); clear P2 hb hg))
        | (go_at_call 10; have hx_ := T0; go_must (refine (HFEED.out w2 g HP2.out HG.out HB2.out).mono ?_; rintro e w3 ⟨x, rfl, hb, W3, H3, B3, P3⟩; have HP3 := Lib.hid P3; have HB3 := Lib.hid (HB2.out.trans hb); clear hb P3 T0 hx_))
        | (go_at_call 10; go_must (refine (feed_ended w3 g r.1 W3 H3 B3 _ HP3.out HEN.out).mono ?_; rintro e w4 ⟨rfl, rfl⟩))
        | (go_at_call 14; go_must (refine (ended_any _ g r.1 W3 H3 B3 HP3.out).mono ?_; rintro e w5 ⟨rfl, rfl⟩; rw [HEN.out])))
      go_ret
      exact ⟨rfl, HB3.out⟩
end Go.Proofs.YtjichadkonlfpaaDoor
