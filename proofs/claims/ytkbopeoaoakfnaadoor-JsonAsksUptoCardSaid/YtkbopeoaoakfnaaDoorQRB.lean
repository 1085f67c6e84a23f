/- The texts RR4 RR5 of this work, merged by wip/merge.py. No conditions. -/
import Derived.Test.YtkbopeoaoakfnaaDoorQRA
import Derived.Deep.CutRange
import Derived.Test.YtkbopeoaoakfnaaDoorQJD
namespace Go.Proofs.YtkbopeoaoakfnaaDoor
open Go.RowKit
theorem sees_getD {st : PS} {s : List UInt8} {c : UInt8} (hc : c ≠ 0) : st.sees s c = decide (s.getD st.at_ 0 = c) := by
  unfold PS.sees
  rw [Bool.eq_iff_iff, beq_iff_eq, decide_eq_true_eq]
  constructor
  · intro hh; simp [List.getD, hh]
  · intro hh
    have hk : st.at_ < s.length := getD_lt (by rw [hh]; exact hc)
    rw [List.getElem?_eq_getElem hk]
    simp [List.getD, List.getElem?_eq_getElem hk] at hh
    rw [hh]
theorem numBC_fault {st : PS} {s : List UInt8} (h : st.fault ≠ none) : (st.numB s).numC s = st := by
  have e1 : st.numB s = st := by unfold PS.numB; rw [if_neg (fun h2 => h h2.1)]
  rw [e1]
  unfold PS.numC
  rw [if_neg (fun h2 => h h2.1), if_neg (fun h2 => h h2.1)]
theorem numC_fault {st : PS} {s : List UInt8} (h : st.fault ≠ none) : st.numC s = st := by
  unfold PS.numC
  rw [if_neg (fun h2 => h h2.1), if_neg (fun h2 => h h2.1)]
theorem digits_no {st : PS} {s : List UInt8} (h : runB digitB (s.drop st.at_) = 0) : st.digits s = st.fail st.at_ 2 := by unfold PS.digits; rw [if_pos h]
theorem digits_yes {st : PS} {s : List UInt8} (h : runB digitB (s.drop st.at_) ≠ 0) : st.digits s = st.to (st.at_ + runB digitB (s.drop st.at_)) := by unfold PS.digits; rw [if_neg h]
/-- What number, text and escape leave. -/
def StrPost (w0 : World) (g : Nat) (sb : ByteArray) (st' : PS) (S : List UInt8) (e : Ending) (w' : World) : Prop := ∃ (ok : Bool) (x : ByteArray), e = .returned (.tuple #[.string x, .bool ok]) ∧ RPost w0 g sb st' ok w' ∧ (ok = true → x = ⟨S.toArray⟩)
section
variable {w0 w w' : World} {g : Nat} {sb : ByteArray} {k : Nat} {d : Int} {lg : Bool} {s : List UInt8} {st : PS}
theorem StrPost.no {st' : PS} {S : List UInt8} {x : ByteArray} {k : Nat} {d' : Int} (hf : st'.fault = some ((k : Int), 2)) (h : RA w0 g sb w' k d' false) : StrPost w0 g sb st' S (.returned (.tuple #[.string x, .bool false])) w' := ⟨false, x, rfl, RPost.no hf h, fun h => by cases h⟩
theorem StrPost.yes {st' : PS} {S : List UInt8} {x : ByteArray} (hf : st'.fault = none) (h : RA w0 g sb w' st'.at_ st'.depth false) (hx : x = ⟨S.toArray⟩) : StrPost w0 g sb st' S (.returned (.tuple #[.string x, .bool true])) w' := ⟨true, x, rfl, RPost.yes hf h, fun _ => hx⟩
theorem dig_fact (n : Nat) : decide (n ≠ 0) = !decide (n = 0) := by by_cases h : n = 0 <;> simp [h]
set_option maxRecDepth 100000 in
set_option maxHeartbeats 1000000 in
theorem rnumber_at (h : RA w0 g sb w st.at_ st.depth false) (hf : st.fault = none) (hs : sb = ⟨s.toArray⟩) : Calls Tryd.prog 68 #[.pointer (some ⟨g, 0, none⟩)] w fun e w' => StrPost w0 g sb (st.numb s) (st.numS s) e w' := by
  have HS := Lib.hid hs
  have HSZ : Hid (sb.size = s.length) := by show _ = _; rw [hs]; simp [ByteArray.size]
  have HF := Lib.hid hf
  have HRA := Lib.hid h
  obtain ⟨c0, c1, c2, c3, fz⟩ := h.cells
  obtain ⟨b0, hb0⟩ : ∃ b : UInt8, b = s.getD st.at_ 0 := ⟨_, rfl⟩
  have HB0 := Lib.hid hb0.symm
  have hse0 := sees_getD (st := st) (s := s) (c := 45) (by decide)
  rw [← hb0] at hse0
  clear hs hf hb0
  go_enter Tryd.func68, Tryd.ntmps68
  go_upto_if 11 with (go_at_call 63; go_must (refine (here_lit b0 (by rfl) HB0.out (by assumption) HS.out).mono ?_; rintro e w1 ⟨rfl, h1⟩; obtain ⟨c0, c1, c2, c3, fz⟩ := h1.cells))
  go_cut [] from 11 (fun w' => RA w0 g sb w' (st.next s 45).at_ st.depth false)
  case first =>
    by_cases hq : b0 = 45
    · have q : ((b0.toNat : Int) == 45) = true := by rw [hq]; rfl
      have hsee : st.sees s 45 = true := by rw [hse0, hq]; rfl
      have HLT : Hid (st.at_ < sb.size) := by show _ < _; rw [HSZ.out]; exact getD_lt (by rw [HB0.out, hq]; decide)
      obtain ⟨k0, k1, k2⟩ := h1.kI
      rw [q]
      go_wp2
      go_meet
      case rel => rw [PS.next_yes hsee]; exact RA.next (by assumption) HLT.out
    · have q : ((b0.toNat : Int) == 45) = false := by
        have : b0.toNat ≠ 45 := fun e => hq (UInt8.toNat_inj.1 (by simpa using e))
        simp; omega
      have hsee : st.sees s 45 = false := by rw [hse0]; simp [hq]
      rw [q]
      go_wp2
      go_meet
      case rel => rw [PS.next_no hsee]; assumption
  case rest =>
  obtain ⟨A0, hA0⟩ : ∃ A0, A0 = st.next s 45 := ⟨_, rfl⟩
  have a1 : A0.fault = none := by rw [hA0, PS.next_fault]; exact HF.out
  have a2 : A0.depth = st.depth := by rw [hA0, PS.next_depth]
  have a3 : st.at_ ≤ A0.at_ := by rw [hA0]; exact PS.next_le st s 45
  rw [← hA0] at hcut
  have hnA : st.numA s = if A0.sees s 48 then A0.next s 48 else A0.digits s := by unfold PS.numA; rw [hA0]
  have HnA := Lib.hid hnA
  have HA := Lib.hid (And.intro a1 (And.intro a2 a3))
  clear h h1 c0 c1 c2 c3 fz hse0 hA0 a1 a2 a3 hnA HB0
  obtain ⟨c0, c1, c2, c3, fz⟩ := hcut.cells
  obtain ⟨b1, hb1⟩ : ∃ b : UInt8, b = s.getD A0.at_ 0 := ⟨_, rfl⟩
  have HB1 := Lib.hid hb1.symm
  have hse := sees_getD (st := A0) (s := s) (c := 48) (by decide)
  rw [← hb1] at hse
  clear hb1
  go_upto_if 21 with (go_at_call 63; go_must (refine (here_lit b1 (by rfl) HB1.out (by assumption) HS.out).mono ?_; rintro e w1 ⟨rfl, h1⟩; obtain ⟨c0, c1, c2, c3, fz⟩ := h1.cells))
  go_cut [] from 21 (fun w' => Hid ((st.numA s).fault = none ∧ A0.at_ ≤ (st.numA s).at_) ∧ RA w0 g sb w' (st.numA s).at_ st.depth false)
  case first =>
    obtain ⟨k0, k1, k2⟩ := h1.kI
    by_cases hq : b1 = 48
    · have q : ((b1.toNat : Int) == 48) = true := by rw [hq]; rfl
      have hsee : A0.sees s 48 = true := by rw [hse, hq]; rfl
      have HLT : Hid (A0.at_ < sb.size) := by show _ < _; rw [HSZ.out]; exact getD_lt (by rw [HB1.out, hq]; decide)
      have HE : Hid (st.numA s = A0.to (A0.at_ + 1)) := by show _ = _; rw [HnA.out, hsee, if_pos rfl, PS.next_yes hsee]
      rw [q]
      go_wp2
      go_meet
      case rel => rw [HE.out]; exact ⟨⟨HA.out.1, Nat.le_succ _⟩, RA.next (by assumption) HLT.out⟩
    · have q : ((b1.toNat : Int) == 48) = false := by
        have : b1.toNat ≠ 48 := fun e => hq (UInt8.toNat_inj.1 (by simpa using e))
        simp; omega
      have hsee : A0.sees s 48 = false := by rw [hse]; simp [hq]
      have hE : st.numA s = A0.digits s := by rw [HnA.out, hsee]; rfl
      rw [q]
      by_cases hr : runB digitB (s.drop A0.at_) = 0
      · have HRUN : Hid (decide (runB digitB (s.drop A0.at_) ≠ 0) = false) := by show _ = _; simp [hr]
        rw [digits_no hr] at hE
        have HE := Lib.hid hE
        have HR := Lib.hid hr
        clear hE hr
        go_wp2_with (go_at_call 90; go_must (refine (rdigits_at (by assumption) HS.out).mono ?_; rintro e w1 ⟨rfl, h1⟩; rw [HRUN.out]; obtain ⟨c0, c1, c2, c3, fz⟩ := h1.cells))
        go_ret2
        refine StrPost.no (k := A0.at_) (d' := st.depth) ?_ (by rw [HR.out, Nat.add_zero] at h1; assumption)
        show (((st.numA s).numB s).numC s).fault = _
        rw [HE.out, numBC_fault (PS.fail_ne _ _ _), PS.fail_none HA.out.1]
      · have HRUN : Hid (decide (runB digitB (s.drop A0.at_) ≠ 0) = true) := by show _ = _; simp [hr]
        rw [digits_yes hr] at hE
        have HE := Lib.hid hE
        clear hE hr
        go_wp2_with (go_at_call 90; go_must (refine (rdigits_at (by assumption) HS.out).mono ?_; rintro e w1 ⟨rfl, h1⟩; rw [HRUN.out]; obtain ⟨c0, c1, c2, c3, fz⟩ := h1.cells))
        go_meet
        case rel => rw [HE.out]; exact ⟨⟨HA.out.1, Nat.le_add_right _ _⟩, by assumption⟩
  case rest =>
  obtain ⟨hcA, hcut⟩ := hcut
  obtain ⟨A, hAe⟩ : ∃ A, A = st.numA s := ⟨_, rfl⟩
  rw [← hAe] at hcA hcut
  have hnB : A.numB s = if A.fault = none ∧ A.sees s 46 = true then (A.next s 46).digits s else A := rfl
  have HnB := Lib.hid hnB
  have HAE := Lib.hid hAe
  have HcA : Hid (A.fault = none ∧ st.at_ ≤ A.at_) := ⟨hcA.out.1, Nat.le_trans HA.out.2.2 hcA.out.2⟩
  clear h1 c0 c1 c2 c3 fz hse HB1 hnB hAe hcA HnA HA
  obtain ⟨c0, c1, c2, c3, fz⟩ := hcut.cells
  obtain ⟨b2, hb2⟩ : ∃ b : UInt8, b = s.getD A.at_ 0 := ⟨_, rfl⟩
  have HB2 := Lib.hid hb2.symm
  have hse := sees_getD (st := A) (s := s) (c := 46) (by decide)
  rw [← hb2] at hse
  clear hb2
  go_upto_if 34 with (go_at_call 63; go_must (refine (here_lit b2 (by rfl) HB2.out (by assumption) HS.out).mono ?_; rintro e w1 ⟨rfl, h1⟩; obtain ⟨c0, c1, c2, c3, fz⟩ := h1.cells))
  go_cut [] from 34 (fun w' => Hid ((A.numB s).fault = none ∧ A.at_ ≤ (A.numB s).at_) ∧ RA w0 g sb w' (A.numB s).at_ st.depth false)
  case first =>
    obtain ⟨k0, k1, k2⟩ := h1.kI
    by_cases hq : b2 = 46
    · have q : ((b2.toNat : Int) == 46) = true := by rw [hq]; rfl
      have hsee : A.sees s 46 = true := by rw [hse, hq]; rfl
      have HLT : Hid (A.at_ < sb.size) := by show _ < _; rw [HSZ.out]; exact getD_lt (by rw [HB2.out, hq]; decide)
      have hE : A.numB s = (A.to (A.at_ + 1)).digits s := by rw [HnB.out, if_pos ⟨HcA.out.1, hsee⟩, PS.next_yes hsee]
      have HNX : Hid (∀ wx, RA w0 g sb wx A.at_ st.depth false → RA w0 g sb (wx.setCell ⟨g, 1, none⟩ (.int .i64 ((A.at_ : Int) + 1))) (A.to (A.at_ + 1)).at_ st.depth false) := fun wx hx => hx.next HLT.out
      rw [q]
      clear hq
      by_cases hr : runB digitB (s.drop (A.to (A.at_ + 1)).at_) = 0
      · have HRUN : Hid (decide (runB digitB (s.drop (A.to (A.at_ + 1)).at_) ≠ 0) = false) := by show _ = _; simp [hr]
        rw [digits_no hr] at hE
        have HE := Lib.hid hE
        have HR := Lib.hid hr
        clear hE hr
        go_wp2_with (go_at_call 90; go_must (refine (rdigits_at (HNX.out _ (by assumption)) HS.out).mono ?_; rintro e w2 ⟨rfl, h2⟩; rw [HRUN.out]))
        go_ret2
        rw [HR.out, Nat.add_zero] at h2
        refine StrPost.no (k := (A.to (A.at_ + 1)).at_) (d' := st.depth) ?_ h2
        show (((st.numA s).numB s).numC s).fault = _
        rw [← HAE.out, HE.out, numC_fault (PS.fail_ne _ _ _), PS.fail_none (show (A.to (A.at_ + 1)).fault = none from HcA.out.1)]
      · have HRUN : Hid (decide (runB digitB (s.drop (A.to (A.at_ + 1)).at_) ≠ 0) = true) := by show _ = _; simp [hr]
        rw [digits_yes hr] at hE
        have HE := Lib.hid hE
        clear hE hr
        go_wp2_with (go_at_call 90; go_must (refine (rdigits_at (HNX.out _ (by assumption)) HS.out).mono ?_; rintro e w2 ⟨rfl, h2⟩; rw [HRUN.out]))
        go_meet
        case rel => rw [HE.out]; exact ⟨⟨HcA.out.1, Nat.le_trans (Nat.le_succ _) (Nat.le_add_right _ _)⟩, h2⟩
    · have q : ((b2.toNat : Int) == 46) = false := by
        have : b2.toNat ≠ 46 := fun e => hq (UInt8.toNat_inj.1 (by simpa using e))
        simp; omega
      have hsee : A.sees s 46 = false := by rw [hse]; simp [hq]
      have HE : Hid (A.numB s = A) := by show _ = _; rw [HnB.out, if_neg]; rintro ⟨_, h_⟩; rw [hsee] at h_; cases h_
      rw [q]
      go_wp2
      go_meet
      case rel => rw [HE.out]; exact ⟨⟨HcA.out.1, Nat.le_refl _⟩, by assumption⟩
  case rest =>
  obtain ⟨hcB, hcut⟩ := hcut
  obtain ⟨B, hBe⟩ : ∃ B, B = A.numB s := ⟨_, rfl⟩
  rw [← hBe] at hcB hcut
  have HNUM : Hid (st.numb s = B.numC s) := by show _ = _; rw [hBe, HAE.out]; rfl
  have HcB : Hid (B.fault = none ∧ st.at_ ≤ B.at_) := ⟨hcB.out.1, Nat.le_trans HcA.out.2 hcB.out.2⟩
  clear h1 c0 c1 c2 c3 fz hse HB2 hBe hcB HnB HAE HcA
  obtain ⟨c0, c1, c2, c3, fz⟩ := hcut.cells
  obtain ⟨b3, hb3⟩ : ∃ b : UInt8, b = s.getD B.at_ 0 := ⟨_, rfl⟩
  have HB3 := Lib.hid hb3.symm
  have hse1 := sees_getD (st := B) (s := s) (c := 101) (by decide)
  have hse2 := sees_getD (st := B) (s := s) (c := 69) (by decide)
  rw [← hb3] at hse1 hse2
  have HSE := Lib.hid (And.intro hse1 hse2)
  clear hb3 hse1 hse2
  go_upto_region 12 with (fail)
  go_cut [52] from 45 (fun v w' => v = .bool (decide (b3 = 101 ∨ b3 = 69)) ∧ RA w0 g sb w' B.at_ st.depth false)
  case first =>
    by_cases hq : b3 = 101
    · have q : ((b3.toNat : Int) == 101) = true := by rw [hq]; rfl
      have hd : decide (b3 = 101 ∨ b3 = 69) = true := by simp [hq]
      have HD := Lib.hid hd
      clear hq hd
      go_wp2_with (go_at_call 63; go_must (refine (here_lit b3 (by rfl) HB3.out (by assumption) HS.out).mono ?_; rintro e w1 ⟨rfl, h1⟩; obtain ⟨c0, c1, c2, c3, fz⟩ := h1.cells))
      go_meet
      case rel => exact ⟨by rw [HD.out], by assumption⟩
    · have q : ((b3.toNat : Int) == 101) = false := by
        have : b3.toNat ≠ 101 := fun e => hq (UInt8.toNat_inj.1 (by simpa using e))
        simp; omega
      by_cases hq2 : b3 = 69
      · have q2 : ((b3.toNat : Int) == 69) = true := by rw [hq2]; rfl
        have hd : decide (b3 = 101 ∨ b3 = 69) = true := by simp [hq2]
        have HD := Lib.hid hd
        clear hq hq2 hd
        go_wp2_with (go_at_call 63; go_must (refine (here_lit b3 (by rfl) HB3.out (by assumption) HS.out).mono ?_; rintro e w1 ⟨rfl, h1⟩; obtain ⟨c0, c1, c2, c3, fz⟩ := h1.cells))
        go_meet
        case rel => exact ⟨by rw [HD.out], by assumption⟩
      · have q2 : ((b3.toNat : Int) == 69) = false := by
          have : b3.toNat ≠ 69 := fun e => hq2 (UInt8.toNat_inj.1 (by simpa using e))
          simp; omega
        have hd : decide (b3 = 101 ∨ b3 = 69) = false := by simp [hq, hq2]
        have HD := Lib.hid hd
        clear hq hq2 hd
        go_wp2_with (go_at_call 63; go_must (refine (here_lit b3 (by rfl) HB3.out (by assumption) HS.out).mono ?_; rintro e w1 ⟨rfl, h1⟩; obtain ⟨c0, c1, c2, c3, fz⟩ := h1.cells))
        go_meet
        case rel => exact ⟨by rw [HD.out], by assumption⟩
  case rest =>
  obtain ⟨rfl, hcut⟩ := hcut
  clear c0 c1 c2 c3 fz
  obtain ⟨c0, c1, c2, c3, fz⟩ := hcut.cells
  go_upto_if 52 with (fail)
  go_cut [] from 52 (fun w' => Hid ((B.numC s).fault = none ∧ B.at_ ≤ (B.numC s).at_) ∧ RA w0 g sb w' (B.numC s).at_ st.depth false)
  case first =>
    obtain ⟨k0, k1, k2⟩ := hcut.kI
    by_cases hE : b3 = 101 ∨ b3 = 69
    · have hd : decide (b3 = 101 ∨ b3 = 69) = true := by simpa using hE
      have HLT : Hid (B.at_ < sb.size) := by show _ < _; rw [HSZ.out]; exact getD_lt (by rw [HB3.out]; rcases hE with h_ | h_ <;> (rw [h_]; decide))
      obtain ⟨D, hDe⟩ : ∃ D, D = B.to (B.at_ + 1) := ⟨_, rfl⟩
      have hnC : B.numC s = D.numD s := by
        unfold PS.numC
        rcases hE with h_ | h_
        · have hs1 : B.sees s 101 = true := by rw [HSE.out.1, h_]; rfl
          rw [if_pos ⟨HcB.out.1, hs1⟩, PS.next_yes hs1, hDe]
        · have hs1 : B.sees s 101 = false := by rw [HSE.out.1, h_]; rfl
          have hs2 : B.sees s 69 = true := by rw [HSE.out.2, h_]; rfl
          rw [if_neg (by rintro ⟨_, x⟩; rw [hs1] at x; cases x), if_pos ⟨HcB.out.1, hs2⟩, PS.next_yes hs2, hDe]
      have HNX : Hid (RA w0 g sb (wc.setCell ⟨g, 1, none⟩ (.int .i64 ((B.at_ : Int) + 1))) D.at_ st.depth false) := by rw [hDe]; exact hcut.next HLT.out
      have HnC := Lib.hid hnC
      have HDF : Hid (D.fault = none ∧ B.at_ + 1 = D.at_) := by rw [hDe]; exact ⟨HcB.out.1, rfl⟩
      obtain ⟨b4, hb4⟩ : ∃ b : UInt8, b = s.getD D.at_ 0 := ⟨_, rfl⟩
      have HB4 := Lib.hid hb4.symm
      have hse1 := sees_getD (st := D) (s := s) (c := 43) (by decide)
      have hse2 := sees_getD (st := D) (s := s) (c := 45) (by decide)
      rw [← hb4] at hse1 hse2
      have HSD := Lib.hid (And.intro hse1 hse2)
      rw [hd]
      clear hd hE hDe hnC hb4 hse1 hse2
      go_upto_region 14 with (fail)
      have hNX := HNX.out
      clear c0 c1 c2 c3 fz
      obtain ⟨c0, c1, c2, c3, fz⟩ := hNX.cells
      go_cut [67] from 60 (fun v w' => v = .bool (decide (b4 = 43 ∨ b4 = 45)) ∧ RA w0 g sb w' D.at_ st.depth false)
      case first =>
        by_cases hq : b4 = 43
        · have q : ((b4.toNat : Int) == 43) = true := by rw [hq]; rfl
          have hd : decide (b4 = 43 ∨ b4 = 45) = true := by simp [hq]
          have HD := Lib.hid hd
          clear hq hd
          go_wp2_with (go_at_call 63; go_must (refine (here_lit b4 (by rfl) HB4.out (by assumption) HS.out).mono ?_; rintro e w1 ⟨rfl, h1⟩; obtain ⟨c0, c1, c2, c3, fz⟩ := h1.cells))
          go_meet
          case rel => exact ⟨by rw [HD.out], by assumption⟩
        · have q : ((b4.toNat : Int) == 43) = false := by
            have : b4.toNat ≠ 43 := fun e => hq (UInt8.toNat_inj.1 (by simpa using e))
            simp; omega
          by_cases hq2 : b4 = 45
          · have q2 : ((b4.toNat : Int) == 45) = true := by rw [hq2]; rfl
            have hd : decide (b4 = 43 ∨ b4 = 45) = true := by simp [hq2]
            have HD := Lib.hid hd
            clear hq hq2 hd
            go_wp2_with (go_at_call 63; go_must (refine (here_lit b4 (by rfl) HB4.out (by assumption) HS.out).mono ?_; rintro e w1 ⟨rfl, h1⟩; obtain ⟨c0, c1, c2, c3, fz⟩ := h1.cells))
            go_meet
            case rel => exact ⟨by rw [HD.out], by assumption⟩
          · have q2 : ((b4.toNat : Int) == 45) = false := by
              have : b4.toNat ≠ 45 := fun e => hq2 (UInt8.toNat_inj.1 (by simpa using e))
              simp; omega
            have hd : decide (b4 = 43 ∨ b4 = 45) = false := by simp [hq, hq2]
            have HD := Lib.hid hd
            clear hq hq2 hd
            go_wp2_with (go_at_call 63; go_must (refine (here_lit b4 (by rfl) HB4.out (by assumption) HS.out).mono ?_; rintro e w1 ⟨rfl, h1⟩; obtain ⟨c0, c1, c2, c3, fz⟩ := h1.cells))
            go_meet
            case rel => exact ⟨by rw [HD.out], by assumption⟩
      case rest =>
      obtain ⟨rfl, hcut2⟩ := hcut
      clear c0 c1 c2 c3 fz
      obtain ⟨c0, c1, c2, c3, fz⟩ := hcut2.cells
      obtain ⟨D1, hD1⟩ : ∃ D1, D1 = if b4 = 43 ∨ b4 = 45 then D.to (D.at_ + 1) else D := ⟨_, rfl⟩
      have hnD : D.numD s = D1.digits s := by
        unfold PS.numD
        by_cases hq : b4 = 43
        · have hs1 : D.sees s 43 = true := by rw [HSD.out.1, hq]; rfl
          rw [hs1, if_pos rfl, PS.next_yes hs1, hD1, if_pos (.inl hq)]
        · have hs1 : D.sees s 43 = false := by rw [HSD.out.1]; simp [hq]
          rw [hs1]
          by_cases hq2 : b4 = 45
          · have hs2 : D.sees s 45 = true := by rw [HSD.out.2, hq2]; rfl
            rw [if_neg (by decide), PS.next_yes hs2, hD1, if_pos (.inr hq2)]
          · have hs2 : D.sees s 45 = false := by rw [HSD.out.2]; simp [hq2]
            rw [if_neg (by decide), PS.next_no hs2, hD1, if_neg (by rintro (x | x); exact hq x; exact hq2 x)]
      have HnD := Lib.hid hnD
      have HD1 : Hid (D1.fault = none ∧ D.at_ ≤ D1.at_) := by
        rw [hD1]; split
        · exact ⟨HDF.out.1, Nat.le_succ _⟩
        · exact ⟨HDF.out.1, Nat.le_refl _⟩
      clear hnD
      go_upto_if 67 with (fail)
      go_cut [] from 67 (fun w' => RA w0 g sb w' D1.at_ st.depth false)
      case first =>
        obtain ⟨m0, m1, m2⟩ := hcut2.kI
        by_cases hE2 : b4 = 43 ∨ b4 = 45
        · have hd : decide (b4 = 43 ∨ b4 = 45) = true := by simpa using hE2
          have HLT2 : Hid (D.at_ < sb.size) := by show _ < _; rw [HSZ.out]; exact getD_lt (by rw [HB4.out]; rcases hE2 with h_ | h_ <;> (rw [h_]; decide))
          rw [if_pos hE2] at hD1
          have HDD := Lib.hid hD1
          rw [hd]
          clear hd hE2 hD1
          go_wp2
          go_meet
          case rel => rw [HDD.out]; exact hcut2.next HLT2.out
        · have hd : decide (b4 = 43 ∨ b4 = 45) = false := by simpa using hE2
          rw [if_neg hE2] at hD1
          have HDD := Lib.hid hD1
          rw [hd]
          clear hd hE2 hD1
          go_wp2
          go_meet
          case rel => rw [HDD.out]; exact hcut2
      case rest =>
      clear hD1 c0 c1 c2 c3 fz hcut2
      by_cases hr : runB digitB (s.drop D1.at_) = 0
      · have HRUN : Hid (decide (runB digitB (s.drop D1.at_) ≠ 0) = false) := by show _ = _; simp [hr]
        have HE := Lib.hid (digits_no hr)
        have HR := Lib.hid hr
        clear hr
        go_wp2_with (go_at_call 90; go_must (refine (rdigits_at hcut HS.out).mono ?_; rintro e w2 ⟨rfl, h2⟩; rw [HRUN.out]))
        go_ret2
        rw [HR.out, Nat.add_zero] at h2
        refine StrPost.no (k := D1.at_) (d' := st.depth) ?_ h2
        rw [HNUM.out, HnC.out, HnD.out, HE.out, PS.fail_none HD1.out.1]
      · have HRUN : Hid (decide (runB digitB (s.drop D1.at_) ≠ 0) = true) := by show _ = _; simp [hr]
        have HE := Lib.hid (digits_yes hr)
        clear hr
        go_wp2_with (go_at_call 90; go_must (refine (rdigits_at hcut HS.out).mono ?_; rintro e w2 ⟨rfl, h2⟩; rw [HRUN.out]))
        go_meet
        case rel => rw [HnC.out, HnD.out, HE.out]; exact ⟨⟨HD1.out.1, by have h1_ := HD1.out.2; have h2_ := HDF.out.2; show B.at_ ≤ D1.at_ + _; omega⟩, h2⟩
    · have hd : decide (b3 = 101 ∨ b3 = 69) = false := by simpa using hE
      have HnC : Hid (B.numC s = B) := by
        show _ = _
        have hs1 : B.sees s 101 = false := by rw [HSE.out.1]; simp; exact fun x => hE (.inl x)
        have hs2 : B.sees s 69 = false := by rw [HSE.out.2]; simp; exact fun x => hE (.inr x)
        unfold PS.numC
        rw [if_neg (by rintro ⟨_, x⟩; rw [hs1] at x; cases x), if_neg (by rintro ⟨_, x⟩; rw [hs2] at x; cases x)]
      rw [hd]
      clear hd hE
      go_wp2
      go_meet
      case rel => rw [HnC.out]; exact ⟨⟨HcB.out.1, Nat.le_refl _⟩, hcut⟩
  case rest =>
  obtain ⟨hcC, hcut⟩ := hcut
  obtain ⟨C, hCe⟩ : ∃ C, C = B.numC s := ⟨_, rfl⟩
  rw [← hCe] at hcC hcut
  have HNUM2 : Hid (st.numb s = C) := by show _ = _; rw [HNUM.out, hCe]
  have hle : st.at_ ≤ C.at_ := Nat.le_trans HcB.out.2 hcC.out.2
  obtain ⟨k0, k1, k2⟩ := hcut.kI
  have hx2 : sb.extract st.at_ C.at_ = ⟨(st.numS s).toArray⟩ := by
    rw [HS.out, extract_mid]
    unfold PS.numS
    rw [HNUM2.out]
  obtain ⟨XB, hXB⟩ : ∃ XB : ByteArray, XB = sb.extract st.at_ C.at_ := ⟨_, rfl⟩
  have hsf := fun w => slice_fact sb st.at_ C.at_ hle hcut.le (st.at_ : Int) (C.at_ : Int) rfl rfl w
  rw [← hXB] at hsf hx2
  have HX := Lib.hid hx2
  have HCUT := Lib.hid hcut
  have HCF := Lib.hid hcC.out.1
  clear hx2 hXB hle c0 c1 c2 c3 fz hcC HcB HB3 HSE HRA
  obtain ⟨c0, c1, c2, c3, fz⟩ := hcut.cells
  clear hcut hCe
  go_wp2
  go_quiet (fail)
  go_wp2
  go_ret2
  rw [HNUM2.out]
  exact StrPost.yes HCF.out (by have h_ := PS.numb_depth st s; rw [HNUM2.out] at h_; rw [h_]; exact HCUT.out.drewN _) HX.out
end
end Go.Proofs.YtkbopeoaoakfnaaDoor

namespace Go.Proofs.YtkbopeoaoakfnaaDoor
open Go.RowKit
theorem hexP_step {c : UInt8} {l : List UInt8} {n : Int} (h : ¬ hexZ c.toNat < 0) : hexP (c :: l) n = hexP l (n * 16 + hexZ c.toNat) := by rw [hexP, if_neg h]
theorem hexP_stop {c : UInt8} {l : List UInt8} {n : Int} (h : hexZ c.toNat < 0) : hexP (c :: l) n = -1 := by rw [hexP, if_pos h]
set_option maxRecDepth 100000 in
set_option maxHeartbeats 1000000 in
theorem four_any {sb : ByteArray} {s : List UInt8} (hs : sb = ⟨s.toArray⟩) (hl : sb.size ≤ 8192) (k : Nat) (hk : k ≤ 10000) (w : World) : Calls Tryd.prog 110 #[.string sb, .int .i64 (k : Int)] w fun e w' => e = .returned (.int .i64 (codeP s k)) ∧ w' = w := by
  have hsz : sb.size = s.length := by rw [hs]; simp [ByteArray.size]
  have hkI : (0 : Int) ≤ (k : Int) := by omega
  have hk9 : (k : Int) ≤ 10000 := by omega
  have hs8 : (sb.size : Int) ≤ 8192 := by omega
  have hs0 : (0 : Int) ≤ (sb.size : Int) := by omega
  have HG : Hid (∀ i, i < s.length → ∀ h0 : i < sb.size, sb[i]'h0 = s.getD i 0) := by
    intro i hi h0
    subst hs
    simp [List.getD, List.getElem?_eq_getElem hi]
    rfl
  by_cases hlong : s.length < k + 6
  · have HR : Hid (codeP s k = -1) := by show _ = _; unfold codeP; rw [if_pos (Or.inl hlong)]
    have d1 : decide ((k : Int) > (sb.size : Int) - 6) = true := by simp; omega
    have d1' : decide ((sb.size : Int) - 6 < (k : Int)) = true := by simp; omega
    clear hlong hsz hs hl hk
    go_enter Tryd.func110, Tryd.ntmps110
    go_wp2
    go_ret
    exact ⟨by rw [HR.out]; rfl, rfl⟩
  have d1 : decide ((k : Int) > (sb.size : Int) - 6) = false := by simp; omega
  have d1' : decide ((sb.size : Int) - 6 < (k : Int)) = false := by simp; omega
  have d2 : (k : Int) ≤ (sb.size : Int) - 6 := by omega
  have d3 : (k : Int) + 6 ≤ (sb.size : Int) := by omega
  have hkl : (k : Int) < (sb.size : Int) := by omega
  have hkl1 : (k : Int) + 1 < (sb.size : Int) := by omega
  have hk10 : (0 : Int) ≤ (k : Int) + 1 := by omega
  have ht2 : (s.drop k).take 2 = [s.getD k 0, s.getD (k + 1) 0] := by
    have h1 : k < s.length := by omega
    have h2 : k + 1 < s.length := by omega
    rw [List.drop_eq_getElem_cons h1, List.drop_eq_getElem_cons h2]
    show [s[k], s[k + 1]] = _
    simp [List.getD, List.getElem?_eq_getElem h1, List.getElem?_eq_getElem h2]
  obtain ⟨b0, hb0⟩ : ∃ b : UInt8, b = s.getD k 0 := ⟨_, rfl⟩
  obtain ⟨b1, hb1⟩ : ∃ b : UInt8, b = s.getD (k + 1) 0 := ⟨_, rfl⟩
  have hg0 := HG.out k (by omega)
  have hg1 := HG.out (k + 1) (by omega)
  rw [← hb0] at hg0
  rw [← hb1] at hg1
  rw [← hb0, ← hb1] at ht2
  by_cases hq0 : b0 = 92
  · by_cases hq1 : b1 = 117
    · have HC : Hid (codeP s k = hexP ((s.drop (k + 2)).take 4) 0) := by
        show _ = _
        unfold codeP
        rw [if_neg]
        rintro (h | h)
        · exact hlong h
        · rw [ht2, hq0, hq1] at h; exact h rfl
      have HSL := Lib.hid (show k + 6 ≤ s.length by omega)
      have HSZ := Lib.hid hsz
      rw [hq0] at hg0
      rw [hq1] at hg1
      clear hlong hsz hs hl hk hq0 hq1 hb0 hb1 ht2
      go_enter Tryd.func110, Tryd.ntmps110
      go_wp2
      go_loopw [5, 6] (fun v i wr => ∃ (j n : Nat), 2 ≤ j ∧ j ≤ 6 ∧ i = .int .i64 (j : Int) ∧ v = .int .i64 (n : Int) ∧ n < 16 ^ (j - 2) ∧ wr = w ∧ Hid (hexP ((s.drop (k + 2)).take 4) 0 = hexP ((s.drop (k + j)).take (6 - j)) (n : Int))) (fun _ i _ => 6 - (intOf i).toNat)
      case atStart => exact ⟨2, 0, by omega, by omega, rfl, rfl, by decide, rfl, rfl⟩
      case round =>
        obtain ⟨j, n, hj2, hj6, rfl, rfl, hn, rfl, HX⟩ := hrel
        by_cases hlt : j < 6
        · have hjI : (j : Int) < 6 := by omega
          have hj0 : (2 : Int) ≤ (j : Int) := by omega
          have hn4 : n < 4096 := by
            have h1 : 16 ^ (j - 2) ≤ 16 ^ 3 := Nat.pow_le_pow_right (by decide) (by omega)
            omega
          have hnI : (n : Int) < 4096 := by omega
          have hn0 : (0 : Int) ≤ (n : Int) := by omega
          have hpow : 16 ^ (j + 1 - 2) = 16 ^ (j - 2) * 16 := by rw [show j + 1 - 2 = (j - 2) + 1 by omega, Nat.pow_succ]
          obtain ⟨c, hc⟩ : ∃ c : UInt8, c = s.getD (k + j) 0 := ⟨_, rfl⟩
          have hgj := HG.out (k + j) (by have := HSL.out; omega)
          rw [← hc] at hgj
          have hkj : (k : Int) + (j : Int) < (sb.size : Int) := by have := HSL.out; have := HSZ.out; omega
          have hkj0 : (0 : Int) ≤ (k : Int) + (j : Int) := by omega
          have hdrop : (s.drop (k + j)).take (6 - j) = c :: (s.drop (k + (j + 1))).take (6 - (j + 1)) := by
            have h1 : k + j < s.length := by have := HSL.out; omega
            rw [List.drop_eq_getElem_cons h1, show 6 - j = (6 - (j + 1)) + 1 by omega, List.take_succ_cons, hc]
            simp [List.getD, List.getElem?_eq_getElem h1]
            rfl
          have HJ := Lib.hid (And.intro hj2 hlt)
          have HN := Lib.hid hn
          have HPW := Lib.hid hpow
          have HX2 : Hid (hexP ((s.drop (k + 2)).take 4) 0 = hexP (c :: (s.drop (k + (j + 1))).take (6 - (j + 1))) (n : Int)) := by show _ = _; rw [← hdrop]; exact HX.out
          have hc256 := c.toNat_lt
          clear hj2 hj6 hn hn4 hpow hc hdrop hlt HX
          have fin : ∀ (z : Int) (m : Nat), hexZ c.toNat = (m : Int) → m < 16 → z = (n : Int) * 16 + (m : Int) → (∃ (j' n' : Nat), 2 ≤ j' ∧ j' ≤ 6 ∧ (Value.int .i64 ((j : Int) + 1)) = .int .i64 (j' : Int) ∧ (Value.int .i64 z) = .int .i64 (n' : Int) ∧ n' < 16 ^ (j' - 2) ∧ wr = wr ∧ Hid (hexP ((s.drop (k + 2)).take 4) 0 = hexP ((s.drop (k + j')).take (6 - j')) (n' : Int))) := by
            intro z m hm hm16 hz
            refine ⟨j + 1, n * 16 + m, by omega, by have := HJ.out; omega, by simp, by rw [hz]; simp, by rw [HPW.out]; have := HN.out; omega, rfl, ?_⟩
            show _ = _
            rw [HX2.out, hexP_step (by omega), hm]
            congr 1
            try simp
          have FIN := Lib.hid fin
          clear fin
          by_cases hd : 48 ≤ c.toNat ∧ c.toNat ≤ 57
          · have hdg : digitB c = true := by unfold digitB; simpa using hd
            have hz : hexZ c.toNat = ((c.toNat - 48 : Nat) : Int) := by unfold hexZ; rw [if_pos hd]; omega
            have HZ := Lib.hid hz
            have HD := Lib.hid hd
            have s0 : (0 : Int) ≤ (c.toNat : Int) - 48 := by omega
            have s1 : (c.toNat : Int) - 48 < 256 := by omega
            clear hd hz hc256
            go_wp2_with (go_at_call 49; go_must (refine (digit_any c _).mono ?_; rintro e w2 ⟨rfl, hw2⟩; have hw2 := hw2.symm; subst hw2; rw [hdg]))
            go_roundw
            case rel => first | exact FIN.out _ _ HZ.out (by have := HD.out; omega) (by have := HD.out; omega)
            case measure => have := HJ.out; simp [intOf]; omega
          have hdg : digitB c = false := by unfold digitB; simpa using hd
          by_cases ha : 97 ≤ c.toNat ∧ c.toNat ≤ 102
          · have hz : hexZ c.toNat = ((c.toNat - 87 : Nat) : Int) := by unfold hexZ; rw [if_neg hd, if_pos ha]; omega
            have HZ := Lib.hid hz
            have HA := Lib.hid ha
            have e1 : decide ((97 : Int) ≤ (c.toNat : Int)) = true := by simp; omega
            have e2 : decide ((c.toNat : Int) ≤ 102) = true := by simp; omega
            have s0 : (0 : Int) ≤ (c.toNat : Int) - 97 := by omega
            have s1 : (c.toNat : Int) - 97 < 256 := by omega
            clear hd ha hz hc256
            go_wp2_with (go_at_call 49; go_must (refine (digit_any c _).mono ?_; rintro e w2 ⟨rfl, hw2⟩; have hw2 := hw2.symm; subst hw2; rw [hdg]))
            go_roundw
            case rel => first | exact FIN.out _ _ HZ.out (by have := HA.out; omega) (by have := HA.out; omega)
            case measure => have := HJ.out; simp [intOf]; omega
          by_cases hA : 65 ≤ c.toNat ∧ c.toNat ≤ 70
          · have hz : hexZ c.toNat = ((c.toNat - 55 : Nat) : Int) := by unfold hexZ; rw [if_neg hd, if_neg ha, if_pos hA]; omega
            have HZ := Lib.hid hz
            have HA := Lib.hid hA
            have e1 : decide ((97 : Int) ≤ (c.toNat : Int)) = false := by simp; omega
            have e3 : decide ((65 : Int) ≤ (c.toNat : Int)) = true := by simp; omega
            have e4 : decide ((c.toNat : Int) ≤ 70) = true := by simp; omega
            have s0 : (0 : Int) ≤ (c.toNat : Int) - 65 := by omega
            have s1 : (c.toNat : Int) - 65 < 256 := by omega
            clear hd ha hA hz hc256
            go_wp2_with (go_at_call 49; go_must (refine (digit_any c _).mono ?_; rintro e w2 ⟨rfl, hw2⟩; have hw2 := hw2.symm; subst hw2; rw [hdg]))
            go_roundw
            case rel => first | exact FIN.out _ _ HZ.out (by have := HA.out; omega) (by have := HA.out; omega)
            case measure => have := HJ.out; simp [intOf]; omega
          have hz : hexZ c.toNat < 0 := by unfold hexZ; rw [if_neg hd, if_neg ha, if_neg hA]; decide
          have HR : Hid (codeP s k = -1) := by show _ = _; rw [HC.out, HX2.out, hexP_stop hz]
          by_cases g1 : 97 ≤ c.toNat
          · have e1 : decide ((97 : Int) ≤ (c.toNat : Int)) = true := by simp; omega
            have e2 : decide ((c.toNat : Int) ≤ 102) = false := by simp; omega
            have e3 : decide ((65 : Int) ≤ (c.toNat : Int)) = true := by simp; omega
            have e4 : decide ((c.toNat : Int) ≤ 70) = false := by simp; omega
            clear hd ha hA hz hc256 g1
            go_wp2_with (go_at_call 49; go_must (refine (digit_any c _).mono ?_; rintro e w2 ⟨rfl, hw2⟩; have hw2 := hw2.symm; subst hw2; rw [hdg]))
            go_ret
            exact ⟨by rw [HR.out]; rfl, rfl⟩
          have e1 : decide ((97 : Int) ≤ (c.toNat : Int)) = false := by simp; omega
          by_cases g2 : 65 ≤ c.toNat
          · have e3 : decide ((65 : Int) ≤ (c.toNat : Int)) = true := by simp; omega
            have e4 : decide ((c.toNat : Int) ≤ 70) = false := by simp; omega
            clear hd ha hA hz hc256 g1 g2
            go_wp2_with (go_at_call 49; go_must (refine (digit_any c _).mono ?_; rintro e w2 ⟨rfl, hw2⟩; have hw2 := hw2.symm; subst hw2; rw [hdg]))
            go_ret
            exact ⟨by rw [HR.out]; rfl, rfl⟩
          · have e3 : decide ((65 : Int) ≤ (c.toNat : Int)) = false := by simp; omega
            clear hd ha hA hz hc256 g1 g2
            go_wp2_with (go_at_call 49; go_must (refine (digit_any c _).mono ?_; rintro e w2 ⟨rfl, hw2⟩; have hw2 := hw2.symm; subst hw2; rw [hdg]))
            go_ret
            exact ⟨by rw [HR.out]; rfl, rfl⟩
        · obtain rfl : j = 6 := by omega
          have HR : Hid (codeP s k = (n : Int)) := by show _ = _; rw [HC.out, HX.out]; rfl
          clear hn hlt hj2 hj6
          go_wp2
          go_ret
          exact ⟨by rw [HR.out]; rfl, rfl⟩
    · have HR : Hid (codeP s k = -1) := by
        show _ = _
        unfold codeP
        exact if_pos (Or.inr (by rw [ht2, hq0]; intro h; exact hq1 (by simpa using h)))
      have hne : b1.toNat ≠ 117 := fun e => hq1 (UInt8.toNat_inj.1 (by simpa using e))
      have q1 : ((b1.toNat : Int) == 117) = false := by simp; omega
      have q2 : ((b1.toNat : Int) != 117) = true := by rw [bne, q1]; rfl
      rw [hq0] at hg0
      clear hlong hsz hs hl hk hq0 hq1 hb0 hb1 ht2 hne
      go_enter Tryd.func110, Tryd.ntmps110
      go_wp2
      go_ret
      exact ⟨by rw [HR.out]; rfl, rfl⟩
  · have HR : Hid (codeP s k = -1) := by
      show _ = _
      unfold codeP
      exact if_pos (Or.inr (by rw [ht2]; intro h; exact hq0 (by simpa using (List.cons.inj h).1)))
    have hne : b0.toNat ≠ 92 := fun e => hq0 (UInt8.toNat_inj.1 (by simpa using e))
    have q1 : ((b0.toNat : Int) == 92) = false := by simp; omega
    have q2 : ((b0.toNat : Int) != 92) = true := by rw [bne, q1]; rfl
    clear hlong hsz hs hl hk hq0 hb0 hb1 ht2 hne
    go_enter Tryd.func110, Tryd.ntmps110
    go_wp2
    go_ret
    exact ⟨by rw [HR.out]; rfl, rfl⟩
end Go.Proofs.YtkbopeoaoakfnaaDoor
