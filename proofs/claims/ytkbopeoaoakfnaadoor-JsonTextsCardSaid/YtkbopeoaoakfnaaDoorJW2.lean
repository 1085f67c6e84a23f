/- json: write. No conditions. -/
import Derived.Test.YtkbopeoaoakfnaaDoorJW1
import Derived.Test.YtkbopeoaoakfnaaDoorJTA
namespace Go.Proofs.YtkbopeoaoakfnaaDoor
open Go.RowKit
/-- What write does with the value j. -/
def WR (j : JV) : Prop := ∀ (w : World) (B b : Nat) (l : List UInt8) (F : Nat → Prop) (v : Value), Bd w B b l → IsV w F v j → (∀ k, F k → k < B) → l.length + (prt j).length ≤ 140737488000000 →
  Calls Tryd.prog 28 #[.pointer (some ⟨b, 0, none⟩), v] w fun e w' => e = .returned (.tuple #[]) ∧ BPost B b (l ++ prt j) w w'
section
variable {w : World} {B b : Nat} {l0 : List UInt8} {F : Nat → Prop}
set_option maxRecDepth 100000 in
set_option maxHeartbeats 800000 in
theorem write_nil (h : Bd w B b l0) (hlen : l0.length + 4 ≤ 140737488000000) : Calls Tryd.prog 28 #[.pointer (some ⟨b, 0, none⟩), .nilIface] w fun e w' => e = .returned (.tuple #[]) ∧ BPost B b (l0 ++ [110, 117, 108, 108]) w w' := by
  have HW := Lib.hid (writeString_any [110, 117, 108, 108] h (by simp; omega) (by have := h.lt; omega))
  clear h hlen
  have fBool := fun w => nil_Bool w
  have fNumber := fun w => nil_Number w
  have fText := fun w => nil_Text w
  have fList := fun w => nil_List w
  have fObject := fun w => nil_Object w
  go_enter Tryd.func28, Tryd.ntmps28
  go_wp2_with (go_at_call 50; go_must (refine HW.out.mono ?_; rintro e w2 ⟨rfl, p2⟩))
  first
    | go_end0
    | (refine bodyPost_ret (results_none rfl _ _ _) rfl ?_)
  exact ⟨rfl, p2⟩
set_option maxRecDepth 100000 in
set_option maxHeartbeats 800000 in
theorem write_null (h : Bd w B b l0) (hlen : l0.length + 4 ≤ 140737488000000) : Calls Tryd.prog 28 #[.pointer (some ⟨b, 0, none⟩), .iface 70 (.agg #[])] w fun e w' => e = .returned (.tuple #[]) ∧ BPost B b (l0 ++ [110, 117, 108, 108]) w w' := by
  have HW := Lib.hid (writeString_any [110, 117, 108, 108] h (by simp; omega) (by have := h.lt; omega))
  clear h hlen
  have fBool := fun w => no_Bool (t := 70) (by decide) (.agg #[]) w
  have fNumber := fun w => no_Number (t := 70) (by decide) (.agg #[]) w
  have fText := fun w => no_Text (t := 70) (by decide) (.agg #[]) w
  have fList := fun w => no_List (t := 70) (by decide) (.agg #[]) w
  have fObject := fun w => no_Object (t := 70) (by decide) (.agg #[]) w
  go_enter Tryd.func28, Tryd.ntmps28
  go_wp2_with (go_at_call 50; go_must (refine HW.out.mono ?_; rintro e w2 ⟨rfl, p2⟩))
  first
    | go_end0
    | (refine bodyPost_ret (results_none rfl _ _ _) rfl ?_)
  exact ⟨rfl, p2⟩
set_option maxRecDepth 100000 in
set_option maxHeartbeats 800000 in
theorem write_bool (x : Bool) (h : Bd w B b l0) (hlen : l0.length + (Lib.formatBool x).length ≤ 140737488000000) : Calls Tryd.prog 28 #[.pointer (some ⟨b, 0, none⟩), .iface 71 (.bool x)] w fun e w' => e = .returned (.tuple #[]) ∧ BPost B b (l0 ++ Lib.formatBool x) w w' := by
  have HW := Lib.hid (writeString_any (Lib.formatBool x) h (by omega) (by have := h.lt; omega))
  clear h hlen
  have fBool := fun w => is_Bool (.bool x) w
  go_enter Tryd.func28, Tryd.ntmps28
  go_wp2_with (first
    | (go_at_call 51; go_must (refine (Tryd.strconv_FormatBool x w).mono ?_; rintro e w1 ⟨rfl, hw⟩; have hw := hw.symm; subst hw))
    | (go_at_call 50; go_must (refine HW.out.mono ?_; rintro e w2 ⟨rfl, p2⟩)))
  first
    | go_end0
    | (refine bodyPost_ret (results_none rfl _ _ _) rfl ?_)
  exact ⟨rfl, p2⟩
set_option maxRecDepth 100000 in
set_option maxHeartbeats 800000 in
theorem write_num (s : List UInt8) (h : Bd w B b l0) (hlen : l0.length + s.length ≤ 140737488000000) : Calls Tryd.prog 28 #[.pointer (some ⟨b, 0, none⟩), .iface 61 (.string ⟨s.toArray⟩)] w fun e w' => e = .returned (.tuple #[]) ∧ BPost B b (l0 ++ s) w w' := by
  have HW := Lib.hid (writeString_any s h (by omega) (by have := h.lt; omega))
  clear h hlen
  have fBool := fun w => no_Bool (t := 61) (by decide) (.string ⟨s.toArray⟩) w
  have fNumber := fun w => is_Number (.string ⟨s.toArray⟩) w
  go_enter Tryd.func28, Tryd.ntmps28
  go_wp2_with (go_at_call 50; go_must (refine HW.out.mono ?_; rintro e w2 ⟨rfl, p2⟩))
  first
    | go_end0
    | (refine bodyPost_ret (results_none rfl _ _ _) rfl ?_)
  exact ⟨rfl, p2⟩
set_option maxRecDepth 100000 in
set_option maxHeartbeats 800000 in
theorem write_text (s : List UInt8) (h : Bd w B b l0) (hlen : l0.length + (quoteB s).length ≤ 140737488000000) : Calls Tryd.prog 28 #[.pointer (some ⟨b, 0, none⟩), .iface 41 (.string ⟨s.toArray⟩)] w fun e w' => e = .returned (.tuple #[]) ∧ BPost B b (l0 ++ quoteB s) w w' := by
  have HW := Lib.hid (quote_any s h hlen)
  clear h hlen
  have fBool := fun w => no_Bool (t := 41) (by decide) (.string ⟨s.toArray⟩) w
  have fNumber := fun w => no_Number (t := 41) (by decide) (.string ⟨s.toArray⟩) w
  have fText := fun w => is_Text (.string ⟨s.toArray⟩) w
  go_enter Tryd.func28, Tryd.ntmps28
  go_wp2_with (go_at_call 52; go_must (refine HW.out.mono ?_; rintro e w2 ⟨rfl, p2⟩))
  first
    | go_end0
    | (refine bodyPost_ret (results_none rfl _ _ _) rfl ?_)
  exact ⟨rfl, p2⟩
set_option maxRecDepth 100000 in
set_option maxHeartbeats 800000 in
theorem write_list {A : Option Addr} {c : Nat} {us : List Value} {l : List JV} (ih : ∀ j ∈ l, WR j) (h : Bd w B b l0) (hu : us.length = l.length) (hr : Rd w F A us) (he : ∀ (i : Nat) (u : Value) (j : JV), us[i]? = some u → l[i]? = some j → IsV w F u j) (hF : ∀ k, F k → k < B)
    (hlen : l0.length + (prt (.list l)).length ≤ 140737488000000) (hln : l.length ≤ 140737488000000) : Calls Tryd.prog 28 #[.pointer (some ⟨b, 0, none⟩), .iface 49 (.slice A l.length c)] w fun e w' => e = .returned (.tuple #[]) ∧ BPost B b (l0 ++ prt (.list l)) w w' := by
  have hpl : (prt (.list l)).length = (prtL true l).length + 2 := by conv => lhs; unfold prt; simp
  have H1 := Lib.hid (writeByte_any (c := 91) h (by omega) (by have := h.lt; omega))
  have HLEN := Lib.hid (show (l0 ++ [91]).length + (prtL true l).length + 1 ≤ 140737488000000 by rw [List.length_append]; simp; omega)
  have HBW := Lib.hid (show B ≤ w.heap.size by have := h.lt; omega)
  have IH := Lib.hid ih
  have HE := Lib.hid he
  have HR := Lib.hid hr
  have HF := Lib.hid hF
  have HU := Lib.hid hu
  clear h hlen hpl ih he hr hF hu
  have fBool := fun w => no_Bool (t := 49) (by decide) (.slice A l.length c) w
  have fNumber := fun w => no_Number (t := 49) (by decide) (.slice A l.length c) w
  have fText := fun w => no_Text (t := 49) (by decide) (.slice A l.length c) w
  have fList := fun w => is_List (.slice A l.length c) w
  go_enter Tryd.func28, Tryd.ntmps28
  go_wp2_with (go_at_call 53; go_must (refine H1.out.mono ?_; rintro e w1 ⟨rfl, p1⟩))
  go_loopw [43] (fun i wr => ∃ (k : Nat) (acc : List UInt8), k ≤ l.length ∧ i = .int .i64 (k : Int) ∧ BPost B b acc w wr ∧ acc ++ prtL (decide (k = 0)) (l.drop k) = (l0 ++ [91]) ++ prtL true l) (fun i _ => l.length - (intOf i).toNat)
  case atStart => exact ⟨0, _, Nat.zero_le _, rfl, p1, by simp⟩
  case round =>
    obtain ⟨k, acc, hk, rfl, hP, hacc⟩ := hrel
    by_cases hlt : k < l.length
    · obtain ⟨j, hj⟩ : ∃ j, l[k]? = some j := ⟨_, List.getElem?_eq_getElem hlt⟩
      have hdrop : l.drop k = j :: l.drop (k + 1) := by
        rw [List.drop_eq_getElem_cons hlt]
        rw [List.getElem?_eq_getElem hlt] at hj
        rw [Option.some.inj hj]
      have hjm : j ∈ l := List.mem_of_getElem? hj
      have hlu : k < us.length := by rw [HU.out]; exact hlt
      have hne : us ≠ [] := by intro h0; rw [h0] at hlu; simp at hlu
      obtain ⟨b0, off, rfl, hb0, hc0⟩ := HR.out hne
      obtain ⟨u, hu⟩ : ∃ u, us[k]? = some u := ⟨_, List.getElem?_eq_getElem hlu⟩
      have hcu : wr.cell? ⟨b0, off + k, none⟩ = some u := (hP.2.1.cell (p := ⟨b0, off + k, none⟩) (HF.out b0 hb0)).trans (hc0 k u hu)
      have hisv := HE.out k u j hu hj
      have hkI : (k : Int) < (l.length : Int) := by omega
      have hk0 : (0 : Int) ≤ (k : Int) := by omega
      have hd : decide (k < l.length) = true := by simp; exact hlt
      rw [hdrop] at hacc
      rw [prtL] at hacc
      have hsum : acc.length + (if decide (k = 0) = true then ([] : List UInt8) else [44]).length + (prt j).length + 1 ≤ 140737488000000 := by
        have h1 := congrArg List.length hacc
        have h2 := HLEN.out
        simp only [List.length_append] at h1 h2 ⊢
        omega
      have HACC := Lib.hid hacc
      have HISV := Lib.hid hisv
      have HLT := Lib.hid hlt
      have HP := Lib.hid hP
      have HJM := Lib.hid hjm
      have HSUM := Lib.hid hsum
      have hi3 : (k : Int) + 1 ≤ 140737488000000 := by omega
      clear hacc hisv hlt hdrop hP hc0 hu hb0 hne hlu hj hjm hsum
      by_cases hk00 : k = 0
      · subst hk00
        have hcu2 : wr.cell? ⟨b0, off, none⟩ = some u := hcu
        have HQ := Lib.hid (IH.out j HJM.out wr B b acc (fun k => F k) u HP.out.1 (HISV.out.keep (fun k hk => HP.out.2.1.block k (HF.out k hk)) (fun k hk => hk)) HF.out (by have := HSUM.out; omega))
        go_wp2_with (go_at_call 28; go_must (refine HQ.out.mono ?_; rintro e w2 ⟨rfl, p2⟩))
        go_roundw
        case rel => exact ⟨1, acc ++ prt j, HLT.out, by go_num, HP.out.trans p2, by rw [← HACC.out]; simp⟩
        case measure => have := HLT.out; simp [intOf]; omega
      · have hkp : (0 : Int) < (k : Int) := by omega
        have hdz : decide (k = 0) = false := by simp [hk00]
        have HZ := Lib.hid hdz
        have hkp2 : 0 < k := by omega
        have HC := Lib.hid (writeByte_any (c := 44) HP.out.1 (by have h_ := HSUM.out; rw [hdz] at h_; simp at h_; omega) (by have := HP.out.1.lt; omega))
        clear hdz
        go_wp2_with (first
          | (go_at_call 53; go_must (refine HC.out.mono ?_; rintro e w2 ⟨rfl, p2⟩))
          | (go_at_call 28; go_must (have p3 := HP.out.trans p2; refine (IH.out j HJM.out w2 B b (acc ++ [44]) F u p2.1 (HISV.out.keep (fun k hk => p3.2.1.block k (HF.out k hk)) (fun k hk => hk)) HF.out (by have h_ := HSUM.out; rw [HZ.out] at h_; rw [List.length_append]; simp at h_ ⊢; omega)).mono ?_; rintro e w4 ⟨rfl, p4⟩)))
        go_roundw
        case rel => exact ⟨k + 1, acc ++ [44] ++ prt j, HLT.out, by go_num, p3.trans p4, by rw [← HACC.out, HZ.out]; simp⟩
        case measure => have := HLT.out; simp [intOf]; omega
    · obtain rfl : k = l.length := by omega
      have hd : decide (l.length < l.length) = false := by simp
      rw [List.drop_length, prtL, List.append_nil] at hacc
      have HC := Lib.hid (writeByte_any (c := 93) hP.1 (by have h_ := HLEN.out; rw [hacc, List.length_append]; omega) (by have := hP.1.lt; omega))
      have HP := Lib.hid hP
      have HACC := Lib.hid hacc
      clear hP hacc
      go_wp2_with (go_at_call 53; go_must (refine HC.out.mono ?_; rintro e w2 ⟨rfl, p2⟩))
      first
        | go_end0
        | (refine bodyPost_ret (results_none rfl _ _ _) rfl ?_)
      refine ⟨rfl, ?_⟩
      have h5 := HP.out.trans p2
      rw [HACC.out] at h5
      rw [prt]
      simpa using h5
end
end Go.Proofs.YtkbopeoaoakfnaaDoor
