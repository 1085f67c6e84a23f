/- wire: fixed. No conditions. -/
import Derived.Test.YtbpgbihcihnieaaV8
namespace Go.Proofs.Ytbpgbihcihnieaa
open Go.RowKit
def FixedPost (x : List UInt8) (ls : List (List UInt8)) (bad : Bool) (n p lo s off : Nat) (C : Array Value) (t : TypeId) (w : World) (e : Ending) (w' : World) : Prop :=
  e = .returned (.tuple #[]) ∧ Fld w' p lo ls (bad || !decide (x.length = n)) ∧ Frm [p, s] w w' ∧ w'.heap[s]? = some (.cells (C.toList.take off ++ bvs (x.take n) ++ C.toList.drop (off + Nat.min x.length n)).toArray t (0, 0))
set_option maxRecDepth 100000 in
set_option maxHeartbeats 1000000 in
theorem fixed_any (x : List UInt8) (ls : List (List UInt8)) (bad : Bool) (n cap p lo s off : Nat) (C : Array Value) (t : TypeId) (w : World) (h : Fld w p lo (x :: ls) bad) (hs : w.heap[s]? = some (.cells C t (0, 0))) (hfit : off + n ≤ C.size) (hsp : s < lo ∨ p < s) :
    Calls Try.prog 52 #[.pointer (some ⟨p, 0, none⟩), .slice (some ⟨s, off, none⟩) n cap] w (FixedPost x ls bad n p lo s off C t w) := by
  have hlo := h.lo
  have hne : s ≠ p := by omega
  have H := Lib.hid (And.intro h (And.intro hs (And.intro hfit (And.intro hsp hne))))
  clear h hs hfit hsp hlo hne
  obtain ⟨r, hr⟩ : ∃ r : Bool, r = (bad || !decide (x.length = n)) := ⟨_, rfl⟩
  have HR := Lib.hid hr
  by_cases hmin : Nat.min x.length n = n
  · have hI : (((Nat.min x.length n : Nat) : Int) != (n : Int)) = false := by rw [hmin]; simp
    clear hr hmin
    go_enter Try.func52, Try.ntmps52
    go_wp2_with (go_at_call 79; go_must (refine (sized_any x ls bad n p lo _ rfl w H.out.1).mono ?_; rintro e w1 ⟨A, c, rfl, hc, hx, hf, hfr⟩; rw [← HR.out] at hf; have hs1 := hfr.heap H.out.2.1 (by simp; exact H.out.2.2.2.2); obtain ⟨w2, hcp, hw2, hfr2, hsz2⟩ := copy_row (off := off) (n := n) (c := cap) (c2 := c) hs1 (hx.reads (Nat.le_of_lt hf.lt)) rfl H.out.2.2.1; have hf2 := hf.keep hfr2 (by simp; exact H.out.2.2.2.1); obtain ⟨e2, hfz2⟩ := hf2.bad_at; have G := Lib.hid (And.intro hf2 (And.intro hw2 ((hfr.more (qs := [p, s]) (by simp)).trans (hfr2.more (by simp))))); clear hc hx hf hfr hs1 hw2 hfr2 hsz2 hf2))
    first
      | go_end0
      | (refine bodyPost_ret (results_none rfl _ _ _) rfl ?_)
    have h2 := Fld.setBad r G.out.1
    exact ⟨rfl, by rw [← HR.out]; exact h2.1, G.out.2.2.trans (h2.2.more (by simp)), h2.2.heap G.out.2.1 (by simp; exact H.out.2.2.2.2)⟩
  · have hI : (((Nat.min x.length n : Nat) : Int) != (n : Int)) = true := by simp only [bne_iff_ne, ne_eq, Int.ofNat_inj]; exact hmin
    have hrt : r = true := by
      rw [hr]
      have hx : ¬ x.length = n := fun e => hmin (by rw [e]; exact Nat.min_self n)
      simp [hx]
    subst hrt
    clear hr hmin
    go_enter Try.func52, Try.ntmps52
    go_wp2_with (go_at_call 79; go_must (refine (sized_any x ls bad n p lo _ rfl w H.out.1).mono ?_; rintro e w1 ⟨A, c, rfl, hc, hx, hf, hfr⟩; rw [← HR.out] at hf; have hs1 := hfr.heap H.out.2.1 (by simp; exact H.out.2.2.2.2); obtain ⟨w2, hcp, hw2, hfr2, hsz2⟩ := copy_row (off := off) (n := n) (c := cap) (c2 := c) hs1 (hx.reads (Nat.le_of_lt hf.lt)) rfl H.out.2.2.1; have hf2 := hf.keep hfr2 (by simp; exact H.out.2.2.2.1); obtain ⟨e2, hfz2⟩ := hf2.bad_at; have G := Lib.hid (And.intro hf2 (And.intro hw2 ((hfr.more (qs := [p, s]) (by simp)).trans (hfr2.more (by simp))))); clear hc hx hf hfr hs1 hw2 hfr2 hsz2 hf2))
    first
      | go_end0
      | (refine bodyPost_ret (results_none rfl _ _ _) rfl ?_)
    have h2 := Fld.setBad true G.out.1
    exact ⟨rfl, by rw [← HR.out]; exact h2.1, G.out.2.2.trans (h2.2.more (by simp)), h2.2.heap G.out.2.1 (by simp; exact H.out.2.2.2.2)⟩
end Go.Proofs.Ytbpgbihcihnieaa
