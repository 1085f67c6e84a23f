/- json: the parser's blanks, digits. No conditions. -/
import Derived.Test.YtkbopeoaoakfnaaDoorJ3
namespace Go.Proofs.YtkbopeoaoakfnaaDoor
open Go.RowKit
section
variable {w w' : World} {base g : Nat} {s : List UInt8} {st : PS}
theorem blank_set : (fun c : UInt8 => [(32 : UInt8), 9, 10, 13].contains c) = blankB := by
  funext c
  simp [blankB, List.contains, List.elem]
  cases (c == 32) <;> cases (c == 9) <;> cases (c == 10) <;> cases (c == 13) <;> rfl
theorem digit_set : (fun c : UInt8 => [(48 : UInt8), 49, 50, 51, 52, 53, 54, 55, 56, 57].contains c) = digitB := by
  funext c
  rw [Bool.eq_iff_iff, List.contains_iff_mem]
  simp only [digitB, decide_eq_true_eq, List.mem_cons, List.not_mem_nil, or_false, ← UInt8.toNat_inj]
  simp
  omega
theorem run_drop (p : UInt8 → Bool) (l : List UInt8) : runB p l + (l.dropWhile p).length = l.length := by
  unfold runB
  rw [← List.length_append, List.takeWhile_append_dropWhile]
theorem Ps.len (h : Ps w base g s st) : st.at_ ≤ s.length := by obtain ⟨p, _, _, h3, _⟩ := h; exact h3
theorem Ps.lt (h : Ps w base g s st) : g < w.heap.size := by obtain ⟨p, h1, _⟩ := h; exact lt_of_heap h1
theorem Ps.drewN' (h : Ps w base g s st) {n : Nat} (hw : w' = w.drewN n) : Ps w' base g s st := by subst hw; exact h
theorem below_drewN' {w w' : World} {B n : Nat} (hw : w' = w.drewN n) : Below B w w' := by subst hw; exact ⟨rfl, rfl, rfl, Nat.le_refl _, fun _ _ => rfl⟩
set_option maxRecDepth 100000 in
set_option maxHeartbeats 2000000 in
theorem blanks_any (h : Ps w base g s st) (hl : s.length ≤ 8192) : Calls Tryd.prog 31 #[.pointer (some ⟨g, 0, none⟩)] w fun x w' => x = .returned (.tuple #[]) ∧ Ps w' base g s (st.blanks s) ∧ Turn g w w' := by
  have H := Lib.hid h
  have hrd := run_drop blankB (s.drop st.at_)
  have hat := h.len
  rw [List.length_drop] at hrd
  obtain ⟨sb, hsb⟩ : ∃ sb : ByteArray, sb = ⟨s.toArray⟩ := ⟨_, rfl⟩
  obtain ⟨rb, hrb⟩ : ∃ rb : ByteArray, rb = ⟨((s.drop st.at_).dropWhile blankB).toArray⟩ := ⟨_, rfl⟩
  have hsz : sb.size = s.length := by rw [hsb]; simp [ByteArray.size]
  have hrz : rb.size = ((s.drop st.at_).dropWhile blankB).length := by rw [hrb]; simp [ByteArray.size]
  have C0 : Hid (∀ w', Below w.heap.size w w' → w'.cell? ⟨g, 0, none⟩ = some (.string sb)) := fun w' h' => by rw [hsb]; exact (h.below h').at_.1
  have RB := Lib.hid hrb
  have HK := Lib.hid (show sb.size - rb.size = st.at_ + runB blankB (s.drop st.at_) by omega)
  have h1 : (rb.size : Int) ≤ (sb.size : Int) := by omega
  have h2 : (sb.size : Int) ≤ 8192 := by omega
  have hK2 := Lib.hid (show st.at_ + runB blankB (s.drop st.at_) ≤ s.length by omega)
  have C9 := Lib.hid hsb
  clear hsb hrb hsz hrz hrd hat h hl
  go_enter Tryd.func31, Tryd.ntmps31
  go_wp2
  refine AnyC.startB (fun w' => Turn g w w' ∧ w'.cell? ⟨g, 0, none⟩ = some (.string sb)) (by kernel_rfl) rfl ?_
  intro w1 hb1 hs1
  have B1 := Lib.hid hb1
  clear hb1 hs1
  apply AnyC.take (i := 0) rfl (by kernel_rfl) rfl
  · intro w' hC K hK
    go_wp2
    exact hK
  · rfl
  apply AnyC.take (i := 1) rfl (by kernel_rfl) rfl
  · intro w' hC K hK
    go_wp2
    exact hK
  · rfl
  apply AnyC.take (i := 2) rfl (by kernel_rfl) rfl
  · intro w' hC K hK
    go_wp2
    exact hK
  · rfl
  apply AnyC.take (i := 3) rfl (by kernel_rfl) rfl
  · intro w' hC K hK
    go_wp2
    exact hK
  · rfl
  apply AnyC.take (i := 4) rfl (by kernel_rfl) rfl
  · intro w' hC K hK
    have cc := hC.2
    go_wp2
    exact hK
  · rfl
  apply AnyC.take (i := 5) rfl (by kernel_rfl) rfl
  · intro w' hC K hK
    go_wp2
    exact hK
  · rfl
  apply AnyC.take (i := 6) rfl (by kernel_rfl) rfl
  · intro w' hC K hK
    go_wp2
    exact hK
  · rfl
  apply AnyC.solo (i := 7) rfl (by kernel_rfl) ⟨.of_below B1.out, C0.out _ B1.out⟩
  go_wp2_with (go_at_call 57; go_must (refine (rest_any (H.out.below B1.out)).mono ?_; rintro e w2 ⟨rfl, n2, hw2⟩; have B2 := Lib.hid (B1.out.trans (below_drewN' (B := w.heap.size) hw2)); clear hw2))
  refine ⟨rfl, ?_⟩
  apply AnyC.solo (i := 8) rfl (by kernel_rfl) ⟨.of_below B2.out, C0.out _ B2.out⟩
  go_wp2_with (go_at_call 56; go_must (refine (trimLeft_any (s.drop st.at_) [32, 9, 10, 13] w2 (by decide) (by decide)).mono ?_; rw [blank_set]; rintro e w3 ⟨rfl, hb3⟩; have B3 := Lib.hid (B2.out.trans (hb3.mono B2.out.size)); rw [← RB.out]; clear hb3))
  refine ⟨rfl, ?_⟩
  apply AnyC.take (i := 9) rfl (by kernel_rfl) rfl
  · intro w' hC K hK
    go_wp2
    exact hK
  · rfl
  apply AnyC.take (i := 10) rfl (by kernel_rfl) rfl
  · intro w' hC K hK
    go_wp2
    exact hK
  · rfl
  apply AnyC.take (i := 11) rfl (by kernel_rfl) rfl
  · intro w' hC K hK
    go_wp2
    exact hK
  · rfl
  apply AnyC.take (i := 12) rfl (by kernel_rfl) rfl
  · intro w' hC K hK
    go_wp2
    exact hK
  · rfl
  apply AnyC.solo (i := 13) rfl (by kernel_rfl) ⟨.of_below B3.out, C0.out _ B3.out⟩
  have HB3 := H.out.below B3.out
  obtain ⟨c0, c1, c2⟩ := HB3.at_
  have fz := HB3.unfrozen
  have HP := Lib.hid (HB3.put1 hK2.out)
  clear HB3
  go_wp2
  refine ⟨rfl, ?_⟩
  have e1 : ((sb.size : Int) - (rb.size : Int)) = ((st.at_ + runB blankB (s.drop st.at_) : Nat) : Int) := by rw [← HK.out]; omega
  rw [e1]
  have HPQ := HP.out
  refine AnyC.done ⟨(Turn.of_below B3.out).trans HPQ.2, by rw [C9.out]; exact HPQ.1.at_.1⟩ (by kernel_rfl) ?_
  first
    | go_end0
    | (refine bodyPost_ret (results_none rfl _ _ _) rfl ?_)
  exact ⟨rfl, HPQ.1, (Turn.of_below B3.out).trans HPQ.2⟩
set_option maxRecDepth 100000 in
set_option maxHeartbeats 2000000 in
theorem digits_any (h : Ps w base g s st) (hb : base ≤ w.heap.size) (hl : s.length ≤ 8192) : Calls Tryd.prog 87 #[.pointer (some ⟨g, 0, none⟩)] w fun x w' => x = .returned (.tuple #[]) ∧ Ps w' base g s (st.digits s) ∧ Turn g w w' := by
  have H := Lib.hid h
  have HB := Lib.hid hb
  have hrd := run_drop digitB (s.drop st.at_)
  have hat := h.len
  have HAT := Lib.hid hat
  rw [List.length_drop] at hrd
  obtain ⟨qb, hqb⟩ : ∃ qb : ByteArray, qb = ⟨(s.drop st.at_).toArray⟩ := ⟨_, rfl⟩
  obtain ⟨rb, hrb⟩ : ∃ rb : ByteArray, rb = ⟨((s.drop st.at_).dropWhile digitB).toArray⟩ := ⟨_, rfl⟩
  have hsz : qb.size = s.length - st.at_ := by rw [hqb]; simp [ByteArray.size]
  have hrz : rb.size = ((s.drop st.at_).dropWhile digitB).length := by rw [hrb]; simp [ByteArray.size]
  have QB := Lib.hid hqb
  have RB := Lib.hid hrb
  obtain ⟨n, hn⟩ : ∃ n, n = runB digitB (s.drop st.at_) := ⟨_, rfl⟩
  rw [← hn] at hrd
  have HK := Lib.hid (show (qb.size : Int) = (rb.size : Int) + (n : Int) by omega)
  have hq2 : (qb.size : Int) ≤ 8192 := by omega
  have h1 : (rb.size : Int) ≤ (qb.size : Int) := by omega
  have hat8 : (st.at_ : Int) ≤ 8192 := by omega
  have hK2 := Lib.hid (show st.at_ + n ≤ s.length by omega)
  have HN := Lib.hid hn
  have HL := Lib.hid hl
  have hD : st.digits s = if n = 0 then st.fail st.at_ 2 else st.to (st.at_ + n) := by unfold PS.digits; rw [hn]
  have HD := Lib.hid hD
  clear hqb hrb hsz hrz hrd hat h hl hb hn hD
  go_enter Tryd.func87, Tryd.ntmps87
  by_cases hn0 : n = 0
  · have hz : (qb.size : Int) - (rb.size : Int) = 0 := by have := HK.out; omega
    have hzz : (((qb.size : Int) - (rb.size : Int)) == 0) = true := by rw [hz]; rfl
    have HZ := Lib.hid hn0
    have HZ2 := Lib.hid hz
    clear hn0 hz
    go_wp2_with (first
      | (go_at_call 57; have hx_ := B2; go_must (have tl := rest_any (H.out.below B2.out); rw [← QB.out] at tl; refine tl.mono ?_; clear tl; rintro e w3 ⟨rfl, n3, hw3⟩; have B3 := Lib.hid (B2.out.trans (below_drewN' (B := w.heap.size) hw3)); clear hw3))
      | (go_at_call 57; go_must (have tl := rest_any H.out; rw [← QB.out] at tl; refine tl.mono ?_; clear tl; rintro e w2 ⟨rfl, n2, hw2⟩; have B2 := Lib.hid (below_drewN' (B := w.heap.size) hw2); clear hw2))
      | (go_at_call 56; go_must (have tl := trimLeft_any (s.drop st.at_) [48, 49, 50, 51, 52, 53, 54, 55, 56, 57] w3 (by decide) (by decide); rw [digit_set, ← QB.out, ← RB.out] at tl; refine tl.mono ?_; clear tl; rintro e w4 ⟨rfl, hb4⟩; have B4 := Lib.hid (B3.out.trans (hb4.mono B3.out.size)); have HP4 := H.out.below B4.out; obtain ⟨c0, c1, c2⟩ := HP4.at_; have fz := HP4.unfrozen; clear hb4 HP4))
      | (go_at_call 33; go_must (refine (fail_any (H.out.below B4.out) (Nat.le_trans HB.out B4.out.size) _ _).mono ?_; rintro e w5 ⟨rfl, hp5, ht5⟩; have H5 := Lib.hid (And.intro hp5 ht5); obtain ⟨d0, d1, d2⟩ := hp5.at_; have hfz := hp5.unfrozen; have HP := Lib.hid (hp5.put1 (k := st.at_) (by rw [← PS.fail_at st st.at_ 2]; exact hp5.len)); rw [PS.fail_at] at d1; clear hp5 ht5)))
    rw [HZ2.out, Int.add_zero]
    first
      | go_end0
      | (refine bodyPost_ret (results_none rfl _ _ _) rfl ?_)
    have hPQ := HP.out
    have e1 : ({ st.fail st.at_ 2 with at_ := st.at_ } : PS) = st.digits s := by
      rw [HD.out, if_pos HZ.out]
      have e0 := PS.fail_at st st.at_ 2
      cases hq : st.fail st.at_ 2
      rw [hq] at e0
      simp only at e0
      rw [e0]
    rw [e1] at hPQ
    exact ⟨rfl, hPQ.1, ((Turn.of_below B4.out).trans H5.out.2).trans hPQ.2⟩
  · have hz : (qb.size : Int) - (rb.size : Int) = (n : Int) := by have := HK.out; omega
    have hzz : (((qb.size : Int) - (rb.size : Int)) == 0) = false := by rw [hz]; simp; omega
    have HZ := Lib.hid hn0
    have HZ2 := Lib.hid hz
    clear hn0 hz
    go_wp2_with (first
      | (go_at_call 57; have hx_ := B2; go_must (have tl := rest_any (H.out.below B2.out); rw [← QB.out] at tl; refine tl.mono ?_; clear tl; rintro e w3 ⟨rfl, n3, hw3⟩; have B3 := Lib.hid (B2.out.trans (below_drewN' (B := w.heap.size) hw3)); clear hw3))
      | (go_at_call 57; go_must (have tl := rest_any H.out; rw [← QB.out] at tl; refine tl.mono ?_; clear tl; rintro e w2 ⟨rfl, n2, hw2⟩; have B2 := Lib.hid (below_drewN' (B := w.heap.size) hw2); clear hw2))
      | (go_at_call 56; go_must (have tl := trimLeft_any (s.drop st.at_) [48, 49, 50, 51, 52, 53, 54, 55, 56, 57] w3 (by decide) (by decide); rw [digit_set, ← QB.out, ← RB.out] at tl; refine tl.mono ?_; clear tl; rintro e w4 ⟨rfl, hb4⟩; have B4 := Lib.hid (B3.out.trans (hb4.mono B3.out.size)); have HP4 := H.out.below B4.out; obtain ⟨c0, c1, c2⟩ := HP4.at_; have fz := HP4.unfrozen; clear hb4 HP4)))
    have hPQ := (H.out.below B4.out).put1 hK2.out
    have e1 : ({ st with at_ := st.at_ + n } : PS) = st.digits s := by
      rw [HD.out, if_neg HZ.out]; rfl
    have e2 : (st.at_ : Int) + ((qb.size : Int) - (rb.size : Int)) = ((st.at_ + n : Nat) : Int) := by rw [HZ2.out]; omega
    rw [e2]
    first
      | go_end0
      | (refine bodyPost_ret (results_none rfl _ _ _) rfl ?_)
    rw [e1] at hPQ
    exact ⟨rfl, hPQ.1, (Turn.of_below B4.out).trans hPQ.2⟩
end
end Go.Proofs.YtkbopeoaoakfnaaDoor
