/- The texts ArgHead ArgBytes LHEnds H15 H16 of this work, merged by wip/merge.py. No conditions. -/
import Derived.Test.YtjichadkonlfpaaDoorQHB
import Derived.OpenShut
import Derived.ProofKit
import Derived.SizedLaws
import Derived.Deep.Slices
import Derived.Test.YtjichadkonlfpaaDoorQH12
namespace Go.Proofs.YtjichadkonlfpaaDoor
open Go.RowKit Go.ChangeShapes Go.WideShapes Go.Deep
section
variable {H : Type}
theorem weights_head {t : TypeId} {ts : List TypeId} {d : DataW H} {r : List (DataW H)} {p : Nat → Bool} (h : (DataW.weightsEach Tryd.prog (t :: ts) (d :: r)).all p = true) : (d.weights Tryd.prog t).all p = true ∧ (DataW.weightsEach Tryd.prog ts r).all p = true := by
  simp only [DataW.weightsEach, List.all_append, Bool.and_eq_true] at h
  exact h
end
end Go.Proofs.YtjichadkonlfpaaDoor

namespace Go.Proofs.YtjichadkonlfpaaDoor
open Go.RowKit Go.ChangeShapes Go.WideShapes Go.Deep
section
variable {H : Type} {enc : TypeId × Value → H} {w : World} {base : Nat} {held : Bool}
theorem cells8 : Tryd.prog.cellsOf 5 = 1 := by kernel_rfl
theorem bytes8 : Tryd.prog.bytesOf 5 = 1 := by kernel_rfl

theorem bvs_of_ints (zs : List Int) (h : ∀ n ∈ zs, (Lit.int .u8 n).wf = true) : bvs (zs.map fun n => UInt8.ofNat n.toNat) = zs.map (Value.int .u8) := by
  simp only [bvs, List.map_map]
  apply List.map_congr_left
  intro n hn
  have := bounds_u8 (h n hn)
  simp only [Function.comp, bv]
  congr 1
  rw [UInt8.toNat_ofNat']
  omega

theorem reach_eq : reachBytes = 140737488351232 := rfl
/-- What a walk is told of an argument: a []byte; a [][]byte; a string; a uint64. -/
def ArgB (w : World) (v : Value) (l : List UInt8) : Prop := ∃ A c, v = .slice A l.length c ∧ l.length ≤ c ∧ Reads w w.heap.size 1 A l.length (bvs l) ∧ l.length ≤ reachBytes

theorem open_bytes {fuel : Nat} {cs : List Value} {x : DataW H × List MemPlace} (h : DataW.trod enc Tryd.prog w base (fun _ => true) held fuel 24 cs = some x) :
    ∃ A c l, cs = [.slice A l.length c] ∧ l.length ≤ c ∧ Reads w w.heap.size 1 A l.length (bvs l) ∧ ∀ R, (x.1.weights Tryd.prog 24).all (· ≤ R) = true → l.length ≤ R := by
  rcases open_ints Tryd.underlying24 Tryd.underlying5 cells8 h with ⟨hcs, hx⟩ | ⟨a, len, cap, zs, hcs, _, hl, hm, hz, hx, hcell, hwz⟩
  · exact ⟨none, 0, [], hcs, Nat.le_refl _, Reads.none_, fun R _ => Nat.zero_le _⟩
  · simp only [if_true] at hz
    have hlen : ((zs.take len).map fun n => UInt8.ofNat n.toNat).length = len := by simp; omega
    refine ⟨some a, cap, (zs.take len).map fun n => UInt8.ofNat n.toNat, by rw [hlen]; exact hcs, by rw [hlen]; exact hl, ?_, ?_⟩
    · rw [bvs_of_ints _ (fun n hn => hwz n (List.mem_of_mem_take hn)), hlen]
      refine ⟨by simp; omega, fun h0 => ⟨a, rfl, ?_, fun j u hu => ?_⟩⟩
      · have h1 := World.block_lt_of_cell? w _ (hcell 0 (by omega))
        rwa [block_of_add] at h1
      · have hj : j < len := by
          have := (List.getElem?_eq_some_iff.1 hu).1
          simp at this; omega
        rw [hcell j (by omega)]
        simp [hj, List.getElem?_eq_getElem (show j < zs.length by omega)] at hu
        simp [List.getElem?_eq_getElem (show j < zs.length by omega), hu]
    · intro R hR
      rw [hlen]
      rw [hx] at hR
      have := List.all_eq_true.1 hR (zs.length * 1) (by simp [DataW.weights, Tryd.underlying24, bytes8, lits]; omega)
      simp at this; omega

variable {r : Reach} {b0 : Nat} {v : Value} {d : DataW H} {p : List MemPlace}
set_option maxRecDepth 100000 in
theorem arg_bytes (hv : Value.okWide Tryd.prog w r b0 24 v) (h : DataW.Trod enc Tryd.prog w base (fun _ => true) held 24 v d p) (hs : (d.weights Tryd.prog 24).all (· ≤ reachBytes) = true) : ∃ l, ArgB w v l := by
  obtain ⟨fuel, hf⟩ := h
  obtain ⟨A, c, l, hcs, hle, hr, hR⟩ := open_bytes hf
  obtain ⟨A', n', c', rfl⟩ := okWide_slice Tryd.underlying24 hv
  have hcs' : [Value.slice A' n' c'] = [Value.slice A l.length c] := hcs
  simp only [List.cons.injEq, Value.slice.injEq, and_true] at hcs'
  obtain ⟨rfl, rfl, rfl⟩ := hcs'
  exact ⟨l, _, _, rfl, hle, hr, hR _ hs⟩
end
end Go.Proofs.YtjichadkonlfpaaDoor

namespace Go.Proofs.YtjichadkonlfpaaDoor
open Go.RowKit
/-- What a step can answer. -/
def St (v : Int) : Prop := v = 0 ∨ v = 400 ∨ v = 413 ∨ v = 431
theorem st0 : St 0 := .inl rfl
theorem st400 : St 400 := .inr (.inl rfl)
theorem st413 : St 413 := .inr (.inr (.inl rfl))
theorem st431 : St 431 := .inr (.inr (.inr rfl))
theorem takeP_st (s : PS) (c : UInt8) (f : Bool) : St (takeP s c f).2 := by cases f; exact st400; exact st0
theorem expectP_st (s : PS) (c d : UInt8) (n : Int) : St (expectP s c d n).2 := by unfold expectP; split; exact st0; exact st400
theorem inHeadP_st (s : PS) (c : UInt8) : St (inHeadP s c).2 := by
  unfold inHeadP
  split
  · unfold head2; split; exact st0; exact takeP_st _ _ _
  split
  · unfold head3; split; exact st0; exact takeP_st _ _ _
  split
  · unfold head4
    split
    · exact takeP_st _ _ _
    split
    · exact takeP_st _ _ _
    split
    · exact st400
    · exact st0
  split
  · unfold head5; split; exact st400; exact st0
  split
  · unfold head6
    split
    · exact st0
    split
    · exact st0
    · exact takeP_st _ _ _
  split
  · unfold head7; split; exact takeP_st _ _ _; exact st0
  split
  · unfold head8; split; exact st400; exact st0
  exact st0
theorem wholeP_st (s : PS) : St (wholeP s).2 := by
  unfold wholeP
  split
  · exact st400
  unfold wholeT
  split
  · split; exact st0; exact st400
  · split
    · exact st400
    split
    · exact st413
    · exact st0
  · exact st0
theorem inBodyP_st (s : PS) (c : UInt8) : St (inBodyP s c).2 := by
  unfold inBodyP
  split
  · exact st0
  split
  · exact expectP_st _ _ _ _
  split
  · exact st0
  split
  · unfold body10; split; exact st0; exact takeP_st _ _ _
  split
  · unfold body11
    split
    · exact st400
    split
    · exact st413
    split
    · exact st0
    · exact st0
  split
  · exact expectP_st _ _ _ _
  split
  · exact expectP_st _ _ _ _
  exact st0
theorem take1P_st (s : PS) (c : UInt8) : St (take1P s c).2 := by
  unfold take1P
  split
  · unfold head1
    split
    · exact inHeadP_st _ _
    split
    · exact st431
    split
    · exact wholeP_st _
    · exact st0
  · exact inBodyP_st _ _
theorem feedP_end (l : List UInt8) : ∀ s, (feedP s l).2.2 = 0 ∨ (((feedP s l).2.2 = 400 ∨ (feedP s l).2.2 = 413 ∨ (feedP s l).2.2 = 431) ∧ (feedP s l).1.en = true) := by
  induction l with
  | nil => intro s; exact .inl rfl
  | cons c l ih =>
    intro s
    unfold feedP
    split
    · rename_i h
      rcases take1P_st s c with h1 | h1
      · exact absurd h1 h
      · exact .inr ⟨h1, rfl⟩
    split
    · split
      · exact .inl rfl
      · exact ih _
    · exact ih _
theorem feedP_count (l : List UInt8) : ∀ s, (feedP s l).2.1.length ≤ l.length := by
  induction l with
  | nil => intro s; exact Nat.le_refl _
  | cons c l ih =>
    intro s
    unfold feedP
    split
    · exact Nat.zero_le _
    split
    · split
      · simp
      · have := ih (zeroP false); simp only [List.length_cons]; omega
    · have := ih (take1P s c).1; simp only [List.length_cons]; omega
theorem reads_block_lt {w : World} {B sz n : Nat} {A : Option Addr} {xs : List Value} (h : Reads w B sz A n xs) (h0 : 0 < n) {b off : Nat} (hA : A = some ⟨b, off, none⟩) : b < B := by
  obtain ⟨ad, hA2, hlt, _⟩ := h.2 h0
  rw [hA] at hA2
  cases hA2
  exact hlt
set_option maxRecDepth 100000 in
set_option maxHeartbeats 1000000 in
theorem ends_walk (v0 v1 : Value) (l0 l1 : List UInt8) (w : World) (a0 : ArgB w v0 l0) (a1 : ArgB w v1 l1) (hN : (feedP (zeroP false) l0).2.1.length * 88 ≤ 140737488355328) :
    Calls Tryd.prog 5 #[v0, v1] w fun e w' => e = .returned (.bool true) ∧ Below w.heap.size w w' := by
  obtain ⟨A, c, rfl, _, hr, hl⟩ := a0
  obtain ⟨A1, c1, rfl, _, _, _⟩ := a1
  have HR := Lib.hid hr
  have HN := Lib.hid hN
  have HL : Hid (l0.length ≤ 140737488355328) := Nat.le_trans hl (by unfold reachBytes; decide)
  have HE := Lib.hid (feedP_end l0 (zeroP false))
  obtain ⟨n0, hn0⟩ : ∃ n, n = l0.length := ⟨_, rfl⟩
  obtain ⟨n1, hn1⟩ : ∃ n, n = l1.length := ⟨_, rfl⟩
  rw [← hn0] at HR HL ⊢
  rw [← hn1]
  obtain ⟨r, hrr⟩ : ∃ r, r = feedP (zeroP false) l0 := ⟨_, rfl⟩
  rw [← hrr] at HE HN
  have HRR := Lib.hid hrr
  obtain ⟨v, hv⟩ : ∃ v, v = r.2.2 := ⟨_, rfl⟩
  rw [← hv] at HE
  have HV := Lib.hid hv
  clear hr hN hl hn0 hn1 hrr hv
  have HFEED : Hid (∀ (w2 : World) (g : Nat), Par w2 g (zeroP false) (.slice none 0 0) (.slice none 0 0) (.slice none 0 0) → w.heap.size ≤ g → Below w.heap.size w w2 → Calls Tryd.prog 10 #[.pointer (some ⟨g, 0, none⟩), .slice A n0 c] w2 fun e w' => ∃ x, e = .returned (.tuple #[x, .int .i64 v]) ∧ Below w.heap.size w2 w' ∧ ∃ W H B, Par w' g r.1 W H B) := by
    intro w2 g P hg hb
    refine (feed_any w2 g (zeroP false) _ _ _ l0 A n0 c P (ok_zero false) (by simp [zeroP]) rfl (HR.out.bel hb hb.size) (fun h0 b off hA hm => ?_) (by rw [← HRR.out]; exact HN.out) HL.out).mono ?_
    · have h1 : b = g := by simpa [PL, Value.ownBlock] using hm
      have := reads_block_lt HR.out h0 hA
      omega
    · rintro e w' ⟨x, L, W, H, B, rfl, _, F⟩
      refine ⟨x, by rw [HV.out, HRR.out], F.below hg hb.size, W, H, B, by rw [HRR.out]; exact F.par⟩
  by_cases hz : v = 0
  · subst hz
    go_enter Tryd.func5, Tryd.ntmps5
    go_wp2_with (first
      | (go_at_call 7; go_must (refine (awake_any w).mono ?_; rintro e w1 ⟨rfl, hb⟩; have HB1 := Lib.hid hb; clear hb))
      | (go_at_call 9; go_must (refine (new_any w1).mono ?_; rintro e w2 ⟨g, rfl, P2, hb, hg⟩; have HP2 := Lib.hid P2; have HB2 := Lib.hid (HB1.out.trans (hb.mono HB1.out.size)); have HG := Lib.hid (Nat.le_trans HB1.out.size hg); clear P2 hb hg))
      | (go_at_call 10; go_must (refine (HFEED.out w2 g HP2.out HG.out HB2.out).mono ?_; rintro e w3 ⟨x, rfl, hb, _⟩; have HB3 := Lib.hid (HB2.out.trans hb); clear hb)))
    go_ret
    exact ⟨rfl, HB3.out⟩
  · have hz0 : (v == 0) = false := by simpa using hz
    have hor : v = 400 ∨ v = 413 ∨ v = 431 := by
      rcases HE.out with h | h
      · exact absurd h hz
      · exact h.1
    have HEN : Hid (r.1.en = true) := by
      rcases HE.out with h | h
      · exact absurd h hz
      · exact h.2
    clear hz
    rcases hor with rfl | rfl | rfl
    all_goals
      clear hz0
      go_enter Tryd.func5, Tryd.ntmps5
      have T0 : Hid True := trivial
      go_wp2_with (first
        | (go_at_call 7; go_must (refine (awake_any w).mono ?_; rintro e w1 ⟨rfl, hb⟩; have HB1 := Lib.hid hb; clear hb))
        | (go_at_call 9; go_must (refine (new_any w1).mono ?_; rintro e w2 ⟨g, rfl, P2, hb, hg⟩; have HP2 := Lib.hid P2; have HB2 := Lib.hid (HB1.out.trans (hb.mono HB1.out.size)); have HG := Lib.hid (Nat.le_trans HB1.out.size hg); clear P2 hb hg))
        | (go_at_call 10; have hx_ := T0; go_must (refine (HFEED.out w2 g HP2.out HG.out HB2.out).mono ?_; rintro e w3 ⟨x, rfl, hb, W3, H3, B3, P3⟩; have HP3 := Lib.hid P3; have HB3 := Lib.hid (HB2.out.trans hb); clear hb P3 T0 hx_))
        | (go_at_call 10; go_must (refine (feed_ended w3 g r.1 W3 H3 B3 _ HP3.out HEN.out).mono ?_; rintro e w4 ⟨rfl, rfl⟩))
        | (go_at_call 14; go_must (refine (ended_any _ g r.1 W3 H3 B3 HP3.out).mono ?_; rintro e w5 ⟨rfl, rfl⟩; rw [HEN.out])))
      go_ret
      exact ⟨rfl, HB3.out⟩
end Go.Proofs.YtjichadkonlfpaaDoor

namespace Go.Proofs.YtjichadkonlfpaaDoor
open Go.RowKit
theorem takeP_en (s : PS) (c : UInt8) (f : Bool) : (takeP s c f).1.en = s.en := by cases f <;> rfl
theorem expectP_en (s : PS) (c d : UInt8) (n : Int) : (expectP s c d n).1.en = s.en := by unfold expectP; split <;> rfl
theorem inHeadP_en (s : PS) (c : UInt8) : (inHeadP s c).1.en = s.en := by
  unfold inHeadP
  split
  · unfold head2; split; rfl; exact takeP_en _ _ _
  split
  · unfold head3; split; rfl; exact takeP_en _ _ _
  split
  · unfold head4
    split
    · exact takeP_en _ _ _
    split
    · exact takeP_en _ _ _
    split
    · rfl
    · rfl
  split
  · unfold head5; split <;> rfl
  split
  · unfold head6
    split
    · rfl
    split
    · rfl
    · exact takeP_en _ _ _
  split
  · unfold head7; split; exact takeP_en _ _ _; rfl
  split
  · unfold head8; split <;> rfl
  rfl
theorem wholeP_en (s : PS) : (wholeP s).1.en = s.en := by
  unfold wholeP
  split
  · rfl
  unfold wholeT
  split
  · split <;> rfl
  · split
    · rfl
    split <;> rfl
  · rfl
theorem inBodyP_en (s : PS) (c : UInt8) : (inBodyP s c).1.en = s.en := by
  unfold inBodyP
  split
  · rfl
  split
  · exact expectP_en _ _ _ _
  split
  · rfl
  split
  · unfold body10; split; rfl; exact takeP_en _ _ _
  split
  · unfold body11
    split
    · rfl
    split
    · rfl
    split <;> rfl
  split
  · exact expectP_en _ _ _ _
  split
  · exact expectP_en _ _ _ _
  rfl
theorem start1_en (s : PS) (c : UInt8) : (start1 s c).en = s.en := by unfold start1; split <;> rfl
theorem take1P_en (s : PS) (c : UInt8) : (take1P s c).1.en = s.en := by
  unfold take1P
  split
  · unfold head1
    split
    · rw [inHeadP_en, start1_en]
    split
    · show (inHeadP _ _).1.en = _; rw [inHeadP_en, start1_en]
    split
    · rw [wholeP_en]; show (inHeadP _ _).1.en = _; rw [inHeadP_en, start1_en]
    · show (inHeadP _ _).1.en = _; rw [inHeadP_en, start1_en]
  · rw [inBodyP_en, start1_en]
/-- A feed, on a parser that may have ended. -/
def F (s : PS) (l : List UInt8) : PS × List Req × Int := if s.en then (s, [], 0) else feedP s l
/-- What holds of a parser between two feeds. -/
def OkF (s : PS) : Prop := s.en = true ∨ (s.en = false ∧ Ok s ∧ ¬ (s.st = 9 ∧ s.lf = 0))
theorem feedP_okF (l : List UInt8) : ∀ s, s.en = false → Ok s → ¬ (s.st = 9 ∧ s.lf = 0) → OkF (feedP s l).1 := by
  induction l with
  | nil => intro s h1 h2 h3; exact .inr ⟨h1, h2, h3⟩
  | cons c l ih =>
    intro s h1 h2 h3
    unfold feedP
    split
    · exact .inl rfl
    rename_i h0
    have h0' : (take1P s c).2 = 0 := Classical.not_not.1 h0
    split
    · split
      · exact .inl rfl
      · exact ih _ rfl (ok_zero false) (by simp [zeroP])
    · rename_i h9
      exact ih _ (by rw [take1P_en]; exact h1) (take1_ok h2 h3 h0') h9
theorem F_okF {s : PS} (l : List UInt8) (h : OkF s) : OkF (F s l).1 := by
  unfold F
  rcases h with h | ⟨h1, h2, h3⟩
  · rw [h]; exact .inl h
  · rw [h1]; exact feedP_okF l s h1 h2 h3
theorem okF_zero : OkF (zeroP false) := .inr ⟨rfl, ok_zero false, by simp [zeroP]⟩
theorem F_status (s : PS) (l : List UInt8) : 0 ≤ (F s l).2.2 := by
  unfold F
  split
  · exact Int.le_refl _
  · rcases feedP_end l s with h | ⟨h, _⟩ <;> omega
theorem F_le (s : PS) (l : List UInt8) : (F s l).2.2 ≤ 431 := by
  unfold F
  split
  · show (0 : Int) ≤ 431; omega
  · rcases feedP_end l s with h | ⟨h, _⟩ <;> omega
theorem F_nil (s : PS) : F s [] = (s, [], 0) := by unfold F; split <;> rfl
theorem feedP_app (a : List UInt8) : ∀ s b, s.en = false → feedP s (a ++ b) = ((F (feedP s a).1 b).1, (feedP s a).2.1 ++ (F (feedP s a).1 b).2.1, max (feedP s a).2.2 (F (feedP s a).1 b).2.2) := by
  induction a with
  | nil =>
    intro s b h
    show feedP s b = _
    have h1 : (feedP s []).1 = s := rfl
    have h2 : F s b = feedP s b := by unfold F; rw [h]; rfl
    have h3 := F_status s b
    rw [h1, h2] at *
    show feedP s b = ((feedP s b).1, [] ++ (feedP s b).2.1, max 0 (feedP s b).2.2)
    rw [show max 0 (feedP s b).2.2 = (feedP s b).2.2 from by omega]
    rfl
  | cons c a ih =>
    intro s b h
    rw [List.cons_append, feedP, feedP]
    by_cases h0 : (take1P s c).2 ≠ 0
    · rw [if_pos h0, if_pos h0]
      have h1 : ∀ t : PS, t.en = true → F t b = (t, [], 0) := fun t ht => by unfold F; rw [ht]; rfl
      rw [h1 _ rfl]
      have h2 := take1P_st s c
      simp only [List.append_nil]
      rw [show max (take1P s c).2 0 = (take1P s c).2 from by rcases h2 with h2 | h2 | h2 | h2 <;> omega]
    · rw [if_neg h0, if_neg h0]
      by_cases h9 : (take1P s c).1.st = 9 ∧ (take1P s c).1.lf = 0
      · rw [if_pos h9, if_pos h9]
        by_cases hc : (take1P s c).1.cl = true
        · rw [if_pos hc, if_pos hc]
          have h1 : ∀ t : PS, t.en = true → F t b = (t, [], 0) := fun t ht => by unfold F; rw [ht]; rfl
          rw [h1 _ rfl]
          simp
        · rw [if_neg hc, if_neg hc, ih (zeroP false) b rfl]
          simp
      · rw [if_neg h9, if_neg h9, ih _ b (by rw [take1P_en]; exact h)]
/-- A feed of two pieces is two feeds. -/
theorem F_app (s : PS) (a b : List UInt8) : F s (a ++ b) = ((F (F s a).1 b).1, (F s a).2.1 ++ (F (F s a).1 b).2.1, max (F s a).2.2 (F (F s a).1 b).2.2) := by
  cases h : s.en
  · have h1 : ∀ l, F s l = feedP s l := fun l => by unfold F; rw [h]; rfl
    rw [h1, h1]
    exact feedP_app a s b h
  · have h1 : ∀ l, F s l = (s, [], 0) := fun l => by unfold F; rw [h]; rfl
    rw [h1, h1, h1]
    rfl
theorem F_count (s : PS) (l : List UInt8) : (F s l).2.1.length ≤ l.length := by
  unfold F
  split
  · exact Nat.zero_le _
  · exact feedP_count l s
def FPost (g : Nat) (W H B : Value) (w : World) (r : PS × List Req × Int) (e : Ending) (w' : World) : Prop :=
  ∃ v L W' H' B', e = .returned (.tuple #[v, .int .i64 r.2.2]) ∧ L.map (·.1) = r.2.1 ∧ FS g W H B w r.1 v L W' H' B' w'
theorem feedF_any (w : World) (g : Nat) (s : PS) (W H B : Value) (l : List UInt8) (A : Option Addr) (n c : Nat) (P : Par w g s W H B) (hk : OkF s) (hr : Reads w w.heap.size 1 A n (bvs l)) (ha : 0 < n → ∀ b off, A = some ⟨b, off, none⟩ → b ∉ PL g W H B) (hl : l.length ≤ 1000000) :
    Calls Tryd.prog 10 #[.pointer (some ⟨g, 0, none⟩), .slice A n c] w (FPost g W H B w (F s l)) := by
  unfold F
  have hn : l.length = n := by have := hr.1; rw [bvs_length] at this; omega
  rcases hk with h | ⟨h1, h2, h3⟩
  · rw [if_pos h]
    refine (feed_ended w g s W H B _ P h).mono ?_
    rintro e w' ⟨rfl, rfl⟩
    exact ⟨_, [], W, H, B, rfl, rfl, FS.start P⟩
  · rw [if_neg (by rw [h1]; decide)]
    have hc := feedP_count l s
    exact feed_any w g s W H B l A n c P h2 h3 h1 hr ha (by omega) (by omega)
end Go.Proofs.YtjichadkonlfpaaDoor

namespace Go.Proofs.YtjichadkonlfpaaDoor
open Go.RowKit
theorem reqsV_app (L M : List Held1) : reqsV (L ++ M) = reqsV L ++ reqsV M := by simp [reqsV]
theorem inner_app (L M : List Held1) (k : Nat) : k ∈ inner (L ++ M) ↔ k ∈ inner L ∨ k ∈ inner M := by simp [inner]
theorem owns_ne {w : World} {e : TypeId} {sz n : Nat} {v : Value} {xs : List Value} {base : Nat} (h : w.ownsRow base e sz v n xs) : ∃ A c, v = .slice A n c := by
  obtain ⟨A, c, hv, _⟩ := ownR_form h
  exact ⟨A, c, hv⟩
theorem reqC_one {w : World} {x : Held1} (h : w.ownsRow 0 55 2 x.2.1 x.1.hs.length (hsV x.1.hs) ∧ Own8 w 0 x.2.2 x.1.bd) : ∀ u ∈ reqC x, u.oneCell' = true := by
  obtain ⟨A, c, h1⟩ := owns_ne h.1
  obtain ⟨A2, c2, h2⟩ := owns_ne h.2
  intro u hu
  simp only [reqC, List.mem_cons, List.not_mem_nil, or_false] at hu
  rcases hu with rfl | rfl | rfl | rfl | rfl
  · rfl
  · rfl
  · rw [h1]; rfl
  · rw [h2]; rfl
  · rfl
theorem Held.one {w : World} {v : Value} {L : List Held1} (h : Held w v L) : ∀ u ∈ reqsV L, u.oneCell' = true := by
  intro u hu
  obtain ⟨x, hx, hu⟩ := List.mem_flatMap.1 hu
  exact reqC_one (h.mem x hx) u hu
/-- One list appended to another. -/
theorem app_held {ops : Array Oper} {rest : List Oper} {o : Oper} {a : Act} {w : World} {Q : Exit → Act → World → Prop} {s x : Operand} {v : Value} {L M : List Held1} {A : Option Addr} {m c : Nat}
    (hgd : o.guard = none) (ho : o.op = .call { callee := .builtin .append, args := #[s, x], argTypes := #[29, 29] })
    (hs : a.eval s = v) (hx : a.eval x = .slice A m c) (hv : Held w v L) (hm : Held w (.slice A m c) M) (hmM : M.length = m) (hsep : ∀ k, v.ownBlock = some k → k ∉ HL (.slice A m c) M) (hbytes : (L.length + m) * 88 ≤ 140737488355328)
    (h : ∀ v' w', Held w' v' (L ++ M) → w.grownBy w' v.ownBlock → (v'.ownBlock = v.ownBlock ∨ v'.ownBlock = some w.heap.size) → wpList Tryd.prog ops Q rest (a.put o.dst v') w') : wpList Tryd.prog ops Q (o :: rest) a w := by
  obtain ⟨i0, hi0, hz0, hz1, hz2⟩ := info_parts reqinfo
  subst hmM
  refine wpList_append_any w hgd s x 29 ho 0 36 i0 _ 5 88 Tryd.underlying29 hi0 hz0 hz1 hz2 rfl (by decide) v L.length (reqsV L) hs hv.row w.heap.size A M.length c (reqsV M) hx (Reads.of_own hm.row) hm.one (by simp only [maxLen]; omega) hbytes (Nat.zero_le _) ?_
  intro v' w' h1 h2 h3
  have nv : ∀ k, v'.ownBlock = some k → v.ownBlock = some k ∨ w.heap.size ≤ k := fun k hk => by
    rcases h3 with h3 | h3
    · exact .inl (by rw [← h3]; exact hk)
    · rw [h3] at hk; have := Option.some.inj hk; exact .inr (by omega)
  refine h v' w' ⟨by rw [reqsV_app, List.length_append]; exact h1, fun y hy => ?_, fun k hk hk2 => ?_⟩ h2 h3
  · rcases List.mem_append.1 hy with hy | hy
    · have hm1 := hv.mem y hy
      refine ⟨ownR_other hm1.1 h2 (fun k hk e => hv.apart k hk (mem_inner.2 ⟨y, hy, .inl e⟩)), ownR_other hm1.2 h2 (fun k hk e => hv.apart k hk (mem_inner.2 ⟨y, hy, .inr e⟩))⟩
    · have hm1 := hm.mem y hy
      refine ⟨ownR_other hm1.1 h2 (fun k hk e => hsep k hk (mem_HL.2 (.inr (mem_inner.2 ⟨y, hy, .inl e⟩)))), ownR_other hm1.2 h2 (fun k hk e => hsep k hk (mem_HL.2 (.inr (mem_inner.2 ⟨y, hy, .inr e⟩))))⟩
  · have hlt : k < w.heap.size := by
      rcases (inner_app _ _ _).1 hk2 with h4 | h4
      · exact hv.lt k (mem_HL.2 (.inr h4))
      · exact hm.lt k (mem_HL.2 (.inr h4))
    rcases nv k hk with h5 | h5
    · rcases (inner_app _ _ _).1 hk2 with h4 | h4
      · exact hv.apart k h5 h4
      · exact hsep k h5 (mem_HL.2 (.inr h4))
    · omega
/-- A list of requests that is only read. -/
def RR1 (w : World) (x : Held1) : Prop := (∃ A c, x.2.1 = .slice A x.1.hs.length c ∧ Reads w w.heap.size 2 A x.1.hs.length (hsV x.1.hs)) ∧ (∃ A c, x.2.2 = .slice A x.1.bd.length c ∧ Reads w w.heap.size 1 A x.1.bd.length (bvs x.1.bd))
def RR (w : World) (v : Value) (rs : List Req) : Prop := ∃ L : List Held1, L.map (·.1) = rs ∧ (∃ A c, v = .slice A rs.length c ∧ Reads w w.heap.size 5 A rs.length (reqsV L)) ∧ ∀ x ∈ L, RR1 w x
theorem RR1.below {w w' : World} {x : Held1} (h : RR1 w x) (hb : Below w.heap.size w w') : RR1 w' x := by
  obtain ⟨⟨A, c, h1, h2⟩, ⟨A2, c2, h3, h4⟩⟩ := h
  exact ⟨⟨A, c, h1, h2.bel hb hb.size⟩, ⟨A2, c2, h3, h4.bel hb hb.size⟩⟩
theorem RR.below {w w' : World} {v : Value} {rs : List Req} (h : RR w v rs) (hb : Below w.heap.size w w') : RR w' v rs := by
  obtain ⟨L, h1, ⟨A, c, h2, h3⟩, h4⟩ := h
  exact ⟨L, h1, ⟨A, c, h2, h3.bel hb hb.size⟩, fun x hx => (h4 x hx).below hb⟩
theorem Held.rr {w : World} {v : Value} {L : List Held1} (h : Held w v L) : RR w v (L.map (·.1)) := by
  refine ⟨L, rfl, ?_, fun x hx => ⟨?_, ?_⟩⟩
  · obtain ⟨A, c, hv, _, hr⟩ := ownR_form h.row
    exact ⟨A, c, by rw [hv, List.length_map], by rw [List.length_map]; exact hr⟩
  · obtain ⟨A, c, hv, _, hr⟩ := ownR_form (h.mem x hx).1
    exact ⟨A, c, hv, hr⟩
  · obtain ⟨A, c, hv, _, hr⟩ := ownR_form (h.mem x hx).2
    exact ⟨A, c, hv, hr⟩
/-- Where the k-th request lies. -/
theorem rr_at {w : World} {n : Nat} {A : Option Addr} {L : List Held1} (h : Reads w w.heap.size 5 A n (reqsV L)) (hn : L.length = n) (h0 : 0 < n) :
    ∃ b off, A = some ⟨b, off, none⟩ ∧ b < w.heap.size ∧ ∀ w', Below w.heap.size w w' → ∀ (k : Nat) (hk : k < L.length), w'.rangeAt b (off + k * 5) (reqC L[k]) := by
  obtain ⟨ad, rfl, hb, hc⟩ := h.2 h0
  obtain ⟨b, off, sp⟩ := ad
  have hsp : sp = none := by
    have h1 := hc 0 _ (show (reqsV L)[0]? = some _ from by rw [show 0 = 0 * 5 + 0 from rfl, reqsV, flat_at reqC 5 (fun _ => rfl) L 0 (by omega) 0 (by omega)]; rfl)
    simpa [Addr.add] using World.cell?_spot h1
  subst hsp
  refine ⟨b, off, rfl, hb, fun w' hw' k hk j u hu => ?_⟩
  have hj : j < 5 := by
    have := (List.getElem?_eq_some_iff.1 hu).1
    simpa [reqC] using this
  have h1 := hc (k * 5 + j) u (by rw [reqsV, flat_at reqC 5 (fun _ => rfl) L k hk j hj]; exact hu)
  rw [add_none, ← Nat.add_assoc] at h1
  exact (hw'.cell (p := ⟨b, off + k * 5 + j, none⟩) hb).trans h1
end Go.Proofs.YtjichadkonlfpaaDoor
