/- wire: sized, num, fixed. No conditions. -/
import Derived.Test.YtbpgbihcihnieaaV7
namespace Go.Proofs.Ytbpgbihcihnieaa
open Go.RowKit
theorem Fld.setBad {w : World} {p lo : Nat} {ls : List (List UInt8)} {bad : Bool} (bad' : Bool) (h : Fld w p lo ls bad) :
    Fld (w.setCell ⟨p, 1, none⟩ (.bool bad')) p lo ls bad' ∧ Frm [p] w (w.setCell ⟨p, 1, none⟩ (.bool bad')) := by
  obtain ⟨A, c, hp, hc, hi⟩ := h.cells
  have hf := Frm.setCell w p 1 (.bool bad')
  exact ⟨⟨⟨A, c, heap_setCell_same w p 1 _ _ _ hp, hc, hi.keep hf (Nat.le_of_lt (lt_of_heap hp)) (by simp)⟩, h.lo⟩, hf⟩
theorem Fld.bad_at {w : World} {p lo : Nat} {ls : List (List UInt8)} {bad : Bool} (h : Fld w p lo ls bad) : w.cell? ⟨p, 1, none⟩ = some (.bool bad) ∧ w.frozen? ⟨p, 1, none⟩ = false := by
  obtain ⟨A, c, hp, hc, hi⟩ := h.cells
  exact ⟨by rw [cell_of_row w p 1 _ _ _ hp]; rfl, frozen_row hp 1⟩
def SizedPost (x : List UInt8) (ls : List (List UInt8)) (bad : Bool) (n p lo : Nat) (w : World) (e : Ending) (w' : World) : Prop := ∃ A c, e = .returned (.slice A x.length c) ∧ x.length ≤ c ∧ RdI lo p w' A (bvs x) ∧ Fld w' p lo ls (bad || !decide (x.length = n)) ∧ Frm [p] w w'
set_option maxRecDepth 100000 in
set_option maxHeartbeats 1000000 in
theorem sized_any (x : List UInt8) (ls : List (List UInt8)) (bad : Bool) (n p lo : Nat) (X : Int) (hX : X = (n : Int)) (w : World) (h : Fld w p lo (x :: ls) bad) : Calls Try.prog 79 #[.pointer (some ⟨p, 0, none⟩), .int .i64 X] w (SizedPost x ls bad n p lo w) := by
  subst hX
  have H := Lib.hid h
  clear h
  obtain ⟨r, hr⟩ : ∃ r : Bool, r = (bad || !decide (x.length = n)) := ⟨_, rfl⟩
  have HR := Lib.hid hr
  cases bad with
  | true =>
    rw [Bool.true_or] at hr
    subst hr
    go_enter Try.func79, Try.ntmps79
    go_wp2_with (go_at_call 51; go_must (refine (next_any x ls true p lo w H.out).mono ?_; rintro e w1 ⟨A, c, rfl, hc, hx, hf, hfr⟩; have G := Lib.hid (And.intro hc (And.intro hx (And.intro hf hfr))); obtain ⟨e1, hfz⟩ := hf.bad_at; clear hc hx hf hfr))
    go_ret
    have h2 := Fld.setBad true G.out.2.2.1
    exact ⟨_, _, rfl, G.out.1, G.out.2.1.keep h2.2 (Nat.le_of_lt G.out.2.2.1.lt) (by simp), by rw [← HR.out]; exact h2.1, G.out.2.2.2.trans h2.2⟩
  | false =>
    by_cases he : x.length = n
    · rw [decide_eq_true he] at hr
      have hr' : r = false := hr
      subst hr'
      have hI : ((x.length : Int) != (n : Int)) = false := by simp; omega
      clear hr he
      go_enter Try.func79, Try.ntmps79
      go_wp2_with (go_at_call 51; go_must (refine (next_any x ls false p lo w H.out).mono ?_; rintro e w1 ⟨A, c, rfl, hc, hx, hf, hfr⟩; have G := Lib.hid (And.intro hc (And.intro hx (And.intro hf hfr))); obtain ⟨e1, hfz⟩ := hf.bad_at; clear hc hx hf hfr))
      go_ret
      have h2 := Fld.setBad false G.out.2.2.1
      exact ⟨_, _, rfl, G.out.1, G.out.2.1.keep h2.2 (Nat.le_of_lt G.out.2.2.1.lt) (by simp), by rw [← HR.out]; exact h2.1, G.out.2.2.2.trans h2.2⟩
    · rw [decide_eq_false he] at hr
      have hr' : r = true := hr
      subst hr'
      have hI : ((x.length : Int) != (n : Int)) = true := by simp; omega
      clear hr he
      go_enter Try.func79, Try.ntmps79
      go_wp2_with (go_at_call 51; go_must (refine (next_any x ls false p lo w H.out).mono ?_; rintro e w1 ⟨A, c, rfl, hc, hx, hf, hfr⟩; have G := Lib.hid (And.intro hc (And.intro hx (And.intro hf hfr))); obtain ⟨e1, hfz⟩ := hf.bad_at; clear hc hx hf hfr))
      go_ret
      have h2 := Fld.setBad true G.out.2.2.1
      exact ⟨_, _, rfl, G.out.1, G.out.2.1.keep h2.2 (Nat.le_of_lt G.out.2.2.1.lt) (by simp), by rw [← HR.out]; exact h2.1, G.out.2.2.2.trans h2.2⟩
def NumFPost (x : List UInt8) (ls : List (List UInt8)) (bad : Bool) (p lo : Nat) (w : World) (e : Ending) (w' : World) : Prop := e = .returned (.int .u64 (numV x)) ∧ Fld w' p lo ls (bad || !decide (x.length = 8)) ∧ Frm [p] w w'
theorem Frm.drewN (ps : List Nat) (w : World) (q : Nat) : Frm ps w (w.drewN q) := ⟨rfl, rfl, rfl, Nat.le_refl _, fun _ _ _ => rfl⟩
set_option maxRecDepth 100000 in
set_option maxHeartbeats 1000000 in
theorem num_any (x : List UInt8) (ls : List (List UInt8)) (bad : Bool) (p lo : Nat) (w : World) (h : Fld w p lo (x :: ls) bad) (hm : x.length ≤ 140737488355328) : Calls Try.prog 53 #[.pointer (some ⟨p, 0, none⟩)] w (NumFPost x ls bad p lo w) := by
  have H := Lib.hid h
  have Hm := Lib.hid hm
  clear h hm
  obtain ⟨r, hr⟩ : ∃ r : Bool, r = (bad || !decide (x.length = 8)) := ⟨_, rfl⟩
  have HR := Lib.hid hr
  obtain ⟨z, hz, hzb⟩ : ∃ z : Int, numE x = z ∧ (z != 0) = !decide (x.length = 8) := ⟨_, rfl, by
    unfold numE
    by_cases h8 : x.length = 8
    · rw [if_pos h8, decide_eq_true h8]; rfl
    · rw [if_neg h8, decide_eq_false h8]; rfl⟩
  have Hz := Lib.hid hz
  clear hz
  cases bad with
  | true =>
    rw [Bool.true_or] at hr
    subst hr
    go_enter Try.func53, Try.ntmps53
    go_wp2_with (first
      | (go_at_call 51; go_must (refine (next_any x ls true p lo w H.out).mono ?_; rintro e w1 ⟨A, c, rfl, hc, hx, hf, hfr⟩; have G := Lib.hid (And.intro hc (And.intro hx (And.intro hf hfr))); obtain ⟨e1, hfz⟩ := hf.bad_at; clear hc hx hf hfr))
      | (go_at_call 20; go_must (refine (ReadNum_any A c _ x w1 (G.out.2.1.reads (Nat.le_of_lt G.out.2.2.1.lt)) G.out.1 Hm.out).mono ?_; rintro e w2 ⟨rfl, q, rfl⟩; rw [Hz.out]; have G2 := Lib.hid (And.intro (G.out.2.2.1.keep (Frm.drewN [] w1 q) (by simp)) (G.out.2.2.2.trans (Frm.drewN [p] w1 q))); obtain ⟨e2, hfz2⟩ := G2.out.1.bad_at)))
    go_ret
    have h2 := Fld.setBad true G2.out.1
    exact ⟨rfl, by rw [← HR.out]; exact h2.1, G2.out.2.trans h2.2⟩
  | false =>
    by_cases he : x.length = 8
    · rw [decide_eq_true he] at hr hzb
      rw [Bool.not_true] at hzb
      have hr' : r = false := hr
      subst hr'
      clear hr he
      go_enter Try.func53, Try.ntmps53
      go_wp2_with (first
        | (go_at_call 51; go_must (refine (next_any x ls false p lo w H.out).mono ?_; rintro e w1 ⟨A, c, rfl, hc, hx, hf, hfr⟩; have G := Lib.hid (And.intro hc (And.intro hx (And.intro hf hfr))); obtain ⟨e1, hfz⟩ := hf.bad_at; clear hc hx hf hfr))
        | (go_at_call 20; go_must (refine (ReadNum_any A c _ x w1 (G.out.2.1.reads (Nat.le_of_lt G.out.2.2.1.lt)) G.out.1 Hm.out).mono ?_; rintro e w2 ⟨rfl, q, rfl⟩; rw [Hz.out]; have G2 := Lib.hid (And.intro (G.out.2.2.1.keep (Frm.drewN [] w1 q) (by simp)) (G.out.2.2.2.trans (Frm.drewN [p] w1 q))); obtain ⟨e2, hfz2⟩ := G2.out.1.bad_at)))
      go_ret
      have h2 := Fld.setBad false G2.out.1
      exact ⟨rfl, by rw [← HR.out]; exact h2.1, G2.out.2.trans h2.2⟩
    · rw [decide_eq_false he] at hr hzb
      rw [Bool.not_false] at hzb
      have hr' : r = true := hr
      subst hr'
      clear hr he
      go_enter Try.func53, Try.ntmps53
      go_wp2_with (first
        | (go_at_call 51; go_must (refine (next_any x ls false p lo w H.out).mono ?_; rintro e w1 ⟨A, c, rfl, hc, hx, hf, hfr⟩; have G := Lib.hid (And.intro hc (And.intro hx (And.intro hf hfr))); obtain ⟨e1, hfz⟩ := hf.bad_at; clear hc hx hf hfr))
        | (go_at_call 20; go_must (refine (ReadNum_any A c _ x w1 (G.out.2.1.reads (Nat.le_of_lt G.out.2.2.1.lt)) G.out.1 Hm.out).mono ?_; rintro e w2 ⟨rfl, q, rfl⟩; rw [Hz.out]; have G2 := Lib.hid (And.intro (G.out.2.2.1.keep (Frm.drewN [] w1 q) (by simp)) (G.out.2.2.2.trans (Frm.drewN [p] w1 q))); obtain ⟨e2, hfz2⟩ := G2.out.1.bad_at)))
      go_ret
      have h2 := Fld.setBad true G2.out.1
      exact ⟨rfl, by rw [← HR.out]; exact h2.1, G2.out.2.trans h2.2⟩
end Go.Proofs.Ytbpgbihcihnieaa
