/- json: the parser's word, open. No conditions. -/
import Derived.Test.YtkbopeoaoakfnaaDoorJ5
namespace Go.Proofs.YtkbopeoaoakfnaaDoor
open Go.RowKit
section
variable {w0 w w' : World} {base g : Nat} {s : List UInt8} {st : PS}
theorem word_drop {W : List UInt8} {i : Nat} (h : i < W.length) : W.drop i = W[i] :: W.drop (i + 1) := List.drop_eq_getElem_cons h
set_option maxRecDepth 100000 in
set_option maxHeartbeats 400000 in
theorem word_at (W : List UInt8) (hW : W.length ≤ 100) (hf : st.fault = none) (h : At w0 base g s w st) : Calls Tryd.prog 61 #[.pointer (some ⟨g, 0, none⟩), .string ⟨W.toArray⟩] w fun x w' => x = .returned (.tuple #[]) ∧ At w0 base g s w' (st.word s W) := by
  have hsz : (⟨W.toArray⟩ : ByteArray).size = W.length := by simp [ByteArray.size]
  have HF := Lib.hid hf
  clear hf
  go_enter Tryd.func61, Tryd.ntmps61
  go_wp2
  go_loopw [7] (fun v wr => ∃ (k : Nat) (sk : PS), k ≤ W.length ∧ v = .int .i64 (k : Int) ∧ At w0 base g s wr sk ∧ sk.fault = none ∧ sk.word s (W.drop k) = st.word s W) (fun v _ => W.length - (intOf v).toNat)
  case atStart => exact ⟨0, st, Nat.zero_le _, rfl, h, HF.out, rfl⟩
  case round =>
    obtain ⟨k, sk, hk, rfl, hA, hsf, hword⟩ := hrel
    have HS := Lib.hid hsf
    have HW := Lib.hid hword
    clear hsf hword h
    by_cases hlt : k < W.length
    · have hkI : (k : Int) < (W.length : Int) := by omega
      have h0 : (0 : Int) ≤ (k : Int) := by omega
      have hI2 : (W.length : Int) ≤ 100 := by omega
      have hd : decide (k < W.length) = true := by simp; exact hlt
      have HLT := Lib.hid hlt
      clear hlt
      go_wp2_with (go_at_call 81; go_must (refine (must_at (by assumption) _).mono ?_; rintro e w1 ⟨rfl, h1⟩; obtain ⟨c0_, c1_, c2_, fz_⟩ := h1.cells; obtain ⟨fp, c3, hfp⟩ := h1.fault))
      · have hq : ¬ (sk.must s (⟨W.toArray⟩ : ByteArray)[k]).fault = none := by simpa using (by assumption : (!decide ((sk.must s (⟨W.toArray⟩ : ByteArray)[k]).fault = none)) = true)
        first
          | go_end0
          | (refine bodyPost_ret (results_none rfl _ _ _) rfl ?_)
        refine ⟨rfl, h1.cast ?_⟩
        rw [← HW.out, word_drop HLT.out]
        unfold PS.word
        exact (if_neg hq).symm
      · have hq : (sk.must s (⟨W.toArray⟩ : ByteArray)[k]).fault = none := by simpa using (by assumption : (!decide ((sk.must s (⟨W.toArray⟩ : ByteArray)[k]).fault = none)) = false)
        go_roundw
        case rel =>
          refine ⟨k + 1, _, HLT.out, by go_num, h1, hq, ?_⟩
          rw [← HW.out, word_drop HLT.out]
          show _ = PS.word sk s (W[k] :: W.drop (k + 1))
          conv => rhs; unfold PS.word
          exact (if_pos hq).symm
        case measure => have h_ := HLT.out; simp [intOf]; omega
    · obtain rfl : k = W.length := by omega
      have hd : decide (W.length < W.length) = false := by simp
      go_wp2
      first
        | go_end0
        | (refine bodyPost_ret (results_none rfl _ _ _) rfl ?_)
      refine ⟨rfl, hA.cast ?_⟩
      rw [← HW.out, List.drop_length]
      rfl
theorem Ps.putD (h : Ps w base g s st) (d : Int) : Ps (w.setCell ⟨g, 2, none⟩ (.int .i64 d)) base g s { st with depth := d } ∧ Turn g w (w.setCell ⟨g, 2, none⟩ (.int .i64 d)) := by
  obtain ⟨p, h1, h2, h3, h4⟩ := h
  refine ⟨⟨p, heap_setCell_same _ _ _ _ _ _ h1, h2, h3, ?_⟩, (Turn.refl g w).setCell _⟩
  show FaultAt _ base g p st.fault
  revert h4
  cases st.fault with
  | none => exact id
  | some x => rintro ⟨f, e, h5, h6, h7⟩; exact ⟨f, e, h5, h6, (heap_setCell_other _ _ _ _ h6).trans h7⟩
theorem At.putD (h : At w0 base g s w st) (d : Int) : At w0 base g s (w.setCell ⟨g, 2, none⟩ (.int .i64 d)) { st with depth := d } := h.step (h.ps.putD d).1 (h.ps.putD d).2
set_option maxRecDepth 100000 in
set_option maxHeartbeats 400000 in
theorem open_at (h : At w0 base g s w st) (hd0 : 0 ≤ st.depth) (hd1 : st.depth ≤ 100) (hlt : st.at_ < s.length) : Calls Tryd.prog 105 #[.pointer (some ⟨g, 0, none⟩)] w fun x w' => x = .returned (.tuple #[]) ∧ At w0 base g s w' (st.open_ s) := by
  obtain ⟨c0, c1, c2, fz⟩ := h.cells
  have h2 := h.putD (st.depth + 1)
  obtain ⟨d0, d1, d2, fz2⟩ := h2.cells
  obtain ⟨a0, a1⟩ := h.atI
  have hpos : ∀ (w3 : World) (s3 : PS), At w0 base g s w3 s3 → s3.at_ = st.at_ → At w0 base g s (w3.setCell ⟨g, 1, none⟩ (.int .i64 ((st.at_ : Int) + 1))) (s3.to (st.at_ + 1)) := by
    intro w3 s3 h3 h4
    have h5 := h3.put (k := st.at_ + 1) hlt
    rwa [show ((st.at_ + 1 : Nat) : Int) = (st.at_ : Int) + 1 by omega] at h5
  have HPOS := Lib.hid hpos
  clear hpos hlt
  go_enter Tryd.func105, Tryd.ntmps105
  by_cases hbig : 16 < st.depth + 1
  · have hbd : decide (16 < st.depth + 1) = true := by simp; omega
    have hbd2 : decide (st.depth + 1 > 16) = true := by simp; omega
    have HO : Hid (st.openA = ({ st with depth := st.depth + 1 } : PS).fail st.at_ 6) := by show _ = _; unfold PS.openA; rw [if_pos hbig]; rfl
    clear hbig
    go_wp2_with (first
      | (go_at_call 33; go_must (refine (fail_at h2 _ _).mono ?_; rintro e w1 ⟨rfl, h1⟩; obtain ⟨c0_, c1_, c2_, fz_⟩ := h1.cells; rw [PS.fail_at] at c1_; have h3 := HPOS.out w1 _ h1 (PS.fail_at _ _ _)))
      | (go_at_call 31; go_must (refine (blanks_at h3).mono ?_; rintro e w4 ⟨rfl, h4⟩)))
    first
      | go_end0
      | (refine bodyPost_ret (results_none rfl _ _ _) rfl ?_)
    exact ⟨rfl, h4.cast (by unfold PS.open_; rw [HO.out])⟩
  · have hbd : decide (16 < st.depth + 1) = false := by simp; omega
    have hbd2 : decide (st.depth + 1 > 16) = false := by simp; omega
    have HO : Hid (st.openA = ({ st with depth := st.depth + 1 } : PS)) := by show _ = _; unfold PS.openA; rw [if_neg hbig]; rfl
    have h3 := HPOS.out _ _ h2 rfl
    clear hbig
    go_wp2_with (go_at_call 31; go_must (refine (blanks_at h3).mono ?_; rintro e w4 ⟨rfl, h4⟩))
    first
      | go_end0
      | (refine bodyPost_ret (results_none rfl _ _ _) rfl ?_)
    exact ⟨rfl, h4.cast (by unfold PS.open_; rw [HO.out])⟩
end
end Go.Proofs.YtkbopeoaoakfnaaDoor
