/- The texts JW2 JW3 JA of this work, merged by wip/merge.py. No conditions. -/
import Derived.Test.YtkbopeoaoakfnaaDoorQWA
import Derived.Test.YtkbopeoaoakfnaaDoorQJI
namespace Go.Proofs.YtkbopeoaoakfnaaDoor
open Go.RowKit
/-- What write does with the value j. -/
def WR (j : JV) : Prop := ∀ (w : World) (B b : Nat) (l : List UInt8) (F : Nat → Prop) (v : Value), Bd w B b l → IsV w F v j → (∀ k, F k → k < B) → l.length + (prt j).length ≤ 140737488000000 →
  Calls Tryd.prog 28 #[.pointer (some ⟨b, 0, none⟩), v] w fun e w' => e = .returned (.tuple #[]) ∧ BPost B b (l ++ prt j) w w'
section
variable {w : World} {B b : Nat} {l0 : List UInt8} {F : Nat → Prop}
set_option maxRecDepth 100000 in
set_option maxHeartbeats 800000 in
theorem write_nil (h : Bd w B b l0) (hlen : l0.length + 4 ≤ 140737488000000) : Calls Tryd.prog 28 #[.pointer (some ⟨b, 0, none⟩), .nilIface] w fun e w' => e = .returned (.tuple #[]) ∧ BPost B b (l0 ++ [110, 117, 108, 108]) w w' := by
  have HW := Lib.hid (writeString_any [110, 117, 108, 108] h (by simp; omega) (by have := h.lt; omega))
  clear h hlen
  have fBool := fun w => nil_Bool w
  have fNumber := fun w => nil_Number w
  have fText := fun w => nil_Text w
  have fList := fun w => nil_List w
  have fObject := fun w => nil_Object w
  go_enter Tryd.func28, Tryd.ntmps28
  go_wp2_with (go_at_call 50; go_must (refine HW.out.mono ?_; rintro e w2 ⟨rfl, p2⟩))
  first
    | go_end0
    | (refine bodyPost_ret (results_none rfl _ _ _) rfl ?_)
  exact ⟨rfl, p2⟩
set_option maxRecDepth 100000 in
set_option maxHeartbeats 800000 in
theorem write_null (h : Bd w B b l0) (hlen : l0.length + 4 ≤ 140737488000000) : Calls Tryd.prog 28 #[.pointer (some ⟨b, 0, none⟩), .iface 70 (.agg #[])] w fun e w' => e = .returned (.tuple #[]) ∧ BPost B b (l0 ++ [110, 117, 108, 108]) w w' := by
  have HW := Lib.hid (writeString_any [110, 117, 108, 108] h (by simp; omega) (by have := h.lt; omega))
  clear h hlen
  have fBool := fun w => no_Bool (t := 70) (by decide) (.agg #[]) w
  have fNumber := fun w => no_Number (t := 70) (by decide) (.agg #[]) w
  have fText := fun w => no_Text (t := 70) (by decide) (.agg #[]) w
  have fList := fun w => no_List (t := 70) (by decide) (.agg #[]) w
  have fObject := fun w => no_Object (t := 70) (by decide) (.agg #[]) w
  go_enter Tryd.func28, Tryd.ntmps28
  go_wp2_with (go_at_call 50; go_must (refine HW.out.mono ?_; rintro e w2 ⟨rfl, p2⟩))
  first
    | go_end0
    | (refine bodyPost_ret (results_none rfl _ _ _) rfl ?_)
  exact ⟨rfl, p2⟩
set_option maxRecDepth 100000 in
set_option maxHeartbeats 800000 in
theorem write_bool (x : Bool) (h : Bd w B b l0) (hlen : l0.length + (Lib.formatBool x).length ≤ 140737488000000) : Calls Tryd.prog 28 #[.pointer (some ⟨b, 0, none⟩), .iface 71 (.bool x)] w fun e w' => e = .returned (.tuple #[]) ∧ BPost B b (l0 ++ Lib.formatBool x) w w' := by
  have HW := Lib.hid (writeString_any (Lib.formatBool x) h (by omega) (by have := h.lt; omega))
  clear h hlen
  have fBool := fun w => is_Bool (.bool x) w
  go_enter Tryd.func28, Tryd.ntmps28
  go_wp2_with (first
    | (go_at_call 51; go_must (refine (Tryd.strconv_FormatBool x w).mono ?_; rintro e w1 ⟨rfl, hw⟩; have hw := hw.symm; subst hw))
    | (go_at_call 50; go_must (refine HW.out.mono ?_; rintro e w2 ⟨rfl, p2⟩)))
  first
    | go_end0
    | (refine bodyPost_ret (results_none rfl _ _ _) rfl ?_)
  exact ⟨rfl, p2⟩
set_option maxRecDepth 100000 in
set_option maxHeartbeats 800000 in
theorem write_num (s : List UInt8) (h : Bd w B b l0) (hlen : l0.length + s.length ≤ 140737488000000) : Calls Tryd.prog 28 #[.pointer (some ⟨b, 0, none⟩), .iface 61 (.string ⟨s.toArray⟩)] w fun e w' => e = .returned (.tuple #[]) ∧ BPost B b (l0 ++ s) w w' := by
  have HW := Lib.hid (writeString_any s h (by omega) (by have := h.lt; omega))
  clear h hlen
  have fBool := fun w => no_Bool (t := 61) (by decide) (.string ⟨s.toArray⟩) w
  have fNumber := fun w => is_Number (.string ⟨s.toArray⟩) w
  go_enter Tryd.func28, Tryd.ntmps28
  go_wp2_with (go_at_call 50; go_must (refine HW.out.mono ?_; rintro e w2 ⟨rfl, p2⟩))
  first
    | go_end0
    | (refine bodyPost_ret (results_none rfl _ _ _) rfl ?_)
  exact ⟨rfl, p2⟩
set_option maxRecDepth 100000 in
set_option maxHeartbeats 800000 in
theorem write_text (s : List UInt8) (h : Bd w B b l0) (hlen : l0.length + (quoteB s).length ≤ 140737488000000) : Calls Tryd.prog 28 #[.pointer (some ⟨b, 0, none⟩), .iface 41 (.string ⟨s.toArray⟩)] w fun e w' => e = .returned (.tuple #[]) ∧ BPost B b (l0 ++ quoteB s) w w' := by
  have HW := Lib.hid (quote_any s h hlen)
  clear h hlen
  have fBool := fun w => no_Bool (t := 41) (by decide) (.string ⟨s.toArray⟩) w
  have fNumber := fun w => no_Number (t := 41) (by decide) (.string ⟨s.toArray⟩) w
  have fText := fun w => is_Text (.string ⟨s.toArray⟩) w
  go_enter Tryd.func28, Tryd.ntmps28
  go_wp2_with (go_at_call 52; go_must (refine HW.out.mono ?_; rintro e w2 ⟨rfl, p2⟩))
  first
    | go_end0
    | (refine bodyPost_ret (results_none rfl _ _ _) rfl ?_)
  exact ⟨rfl, p2⟩
set_option maxRecDepth 100000 in
set_option maxHeartbeats 800000 in
theorem write_list {A : Option Addr} {c : Nat} {us : List Value} {l : List JV} (ih : ∀ j ∈ l, WR j) (h : Bd w B b l0) (hu : us.length = l.length) (hr : Rd w F A us) (he : ∀ (i : Nat) (u : Value) (j : JV), us[i]? = some u → l[i]? = some j → IsV w F u j) (hF : ∀ k, F k → k < B)
    (hlen : l0.length + (prt (.list l)).length ≤ 140737488000000) (hln : l.length ≤ 140737488000000) : Calls Tryd.prog 28 #[.pointer (some ⟨b, 0, none⟩), .iface 49 (.slice A l.length c)] w fun e w' => e = .returned (.tuple #[]) ∧ BPost B b (l0 ++ prt (.list l)) w w' := by
  have hpl : (prt (.list l)).length = (prtL true l).length + 2 := by conv => lhs; unfold prt; simp
  have H1 := Lib.hid (writeByte_any (c := 91) h (by omega) (by have := h.lt; omega))
  have HLEN := Lib.hid (show (l0 ++ [91]).length + (prtL true l).length + 1 ≤ 140737488000000 by rw [List.length_append]; simp; omega)
  have HBW := Lib.hid (show B ≤ w.heap.size by have := h.lt; omega)
  have IH := Lib.hid ih
  have HE := Lib.hid he
  have HR := Lib.hid hr
  have HF := Lib.hid hF
  have HU := Lib.hid hu
  clear h hlen hpl ih he hr hF hu
  have fBool := fun w => no_Bool (t := 49) (by decide) (.slice A l.length c) w
  have fNumber := fun w => no_Number (t := 49) (by decide) (.slice A l.length c) w
  have fText := fun w => no_Text (t := 49) (by decide) (.slice A l.length c) w
  have fList := fun w => is_List (.slice A l.length c) w
  go_enter Tryd.func28, Tryd.ntmps28
  go_wp2_with (go_at_call 53; go_must (refine H1.out.mono ?_; rintro e w1 ⟨rfl, p1⟩))
  go_loopw [43] (fun i wr => ∃ (k : Nat) (acc : List UInt8), k ≤ l.length ∧ i = .int .i64 (k : Int) ∧ BPost B b acc w wr ∧ acc ++ prtL (decide (k = 0)) (l.drop k) = (l0 ++ [91]) ++ prtL true l) (fun i _ => l.length - (intOf i).toNat)
  case atStart => exact ⟨0, _, Nat.zero_le _, rfl, p1, by simp⟩
  case round =>
    obtain ⟨k, acc, hk, rfl, hP, hacc⟩ := hrel
    by_cases hlt : k < l.length
    · obtain ⟨j, hj⟩ : ∃ j, l[k]? = some j := ⟨_, List.getElem?_eq_getElem hlt⟩
      have hdrop : l.drop k = j :: l.drop (k + 1) := by
        rw [List.drop_eq_getElem_cons hlt]
        rw [List.getElem?_eq_getElem hlt] at hj
        rw [Option.some.inj hj]
      have hjm : j ∈ l := List.mem_of_getElem? hj
      have hlu : k < us.length := by rw [HU.out]; exact hlt
      have hne : us ≠ [] := by intro h0; rw [h0] at hlu; simp at hlu
      obtain ⟨b0, off, rfl, hb0, hc0⟩ := HR.out hne
      obtain ⟨u, hu⟩ : ∃ u, us[k]? = some u := ⟨_, List.getElem?_eq_getElem hlu⟩
      have hcu : wr.cell? ⟨b0, off + k, none⟩ = some u := (hP.2.1.cell (p := ⟨b0, off + k, none⟩) (HF.out b0 hb0)).trans (hc0 k u hu)
      have hisv := HE.out k u j hu hj
      have hkI : (k : Int) < (l.length : Int) := by omega
      have hk0 : (0 : Int) ≤ (k : Int) := by omega
      have hd : decide (k < l.length) = true := by simp; exact hlt
      rw [hdrop] at hacc
      rw [prtL] at hacc
      have hsum : acc.length + (if decide (k = 0) = true then ([] : List UInt8) else [44]).length + (prt j).length + 1 ≤ 140737488000000 := by
        have h1 := congrArg List.length hacc
        have h2 := HLEN.out
        simp only [List.length_append] at h1 h2 ⊢
        omega
      have HACC := Lib.hid hacc
      have HISV := Lib.hid hisv
      have HLT := Lib.hid hlt
      have HP := Lib.hid hP
      have HJM := Lib.hid hjm
      have HSUM := Lib.hid hsum
      have hi3 : (k : Int) + 1 ≤ 140737488000000 := by omega
      clear hacc hisv hlt hdrop hP hc0 hu hb0 hne hlu hj hjm hsum
      by_cases hk00 : k = 0
      · subst hk00
        have hcu2 : wr.cell? ⟨b0, off, none⟩ = some u := hcu
        have HQ := Lib.hid (IH.out j HJM.out wr B b acc (fun k => F k) u HP.out.1 (HISV.out.keep (fun k hk => HP.out.2.1.block k (HF.out k hk)) (fun k hk => hk)) HF.out (by have := HSUM.out; omega))
        go_wp2_with (go_at_call 28; go_must (refine HQ.out.mono ?_; rintro e w2 ⟨rfl, p2⟩))
        go_roundw
        case rel => exact ⟨1, acc ++ prt j, HLT.out, by go_num, HP.out.trans p2, by rw [← HACC.out]; simp⟩
        case measure => have := HLT.out; simp [intOf]; omega
      · have hkp : (0 : Int) < (k : Int) := by omega
        have hdz : decide (k = 0) = false := by simp [hk00]
        have HZ := Lib.hid hdz
        have hkp2 : 0 < k := by omega
        have HC := Lib.hid (writeByte_any (c := 44) HP.out.1 (by have h_ := HSUM.out; rw [hdz] at h_; simp at h_; omega) (by have := HP.out.1.lt; omega))
        clear hdz
        go_wp2_with (first
          | (go_at_call 53; go_must (refine HC.out.mono ?_; rintro e w2 ⟨rfl, p2⟩))
          | (go_at_call 28; go_must (have p3 := HP.out.trans p2; refine (IH.out j HJM.out w2 B b (acc ++ [44]) F u p2.1 (HISV.out.keep (fun k hk => p3.2.1.block k (HF.out k hk)) (fun k hk => hk)) HF.out (by have h_ := HSUM.out; rw [HZ.out] at h_; rw [List.length_append]; simp at h_ ⊢; omega)).mono ?_; rintro e w4 ⟨rfl, p4⟩)))
        go_roundw
        case rel => exact ⟨k + 1, acc ++ [44] ++ prt j, HLT.out, by go_num, p3.trans p4, by rw [← HACC.out, HZ.out]; simp⟩
        case measure => have := HLT.out; simp [intOf]; omega
    · obtain rfl : k = l.length := by omega
      have hd : decide (l.length < l.length) = false := by simp
      rw [List.drop_length, prtL, List.append_nil] at hacc
      have HC := Lib.hid (writeByte_any (c := 93) hP.1 (by have h_ := HLEN.out; rw [hacc, List.length_append]; omega) (by have := hP.1.lt; omega))
      have HP := Lib.hid hP
      have HACC := Lib.hid hacc
      clear hP hacc
      go_wp2_with (go_at_call 53; go_must (refine HC.out.mono ?_; rintro e w2 ⟨rfl, p2⟩))
      first
        | go_end0
        | (refine bodyPost_ret (results_none rfl _ _ _) rfl ?_)
      refine ⟨rfl, ?_⟩
      have h5 := HP.out.trans p2
      rw [HACC.out] at h5
      rw [prt]
      simpa using h5
end
end Go.Proofs.YtkbopeoaoakfnaaDoor

namespace Go.Proofs.YtkbopeoaoakfnaaDoor
open Go.RowKit
theorem mems_get : ∀ (ks : List (List UInt8)) (us : List Value) (k : Nat) (key : List UInt8) (u : Value), ks[k]? = some key → us[k]? = some u → ∀ (i : Nat) (x : Value), [Value.string ⟨key.toArray⟩, u][i]? = some x → (mems ks us)[k * 2 + i]? = some x
  | [], _, k, key, u, h, _, _, _, _ => by simp at h
  | _ :: _, [], k, key, u, _, h, _, _, _ => by simp at h
  | k0 :: ks, u0 :: us, 0, key, u, h, h2, i, x, h3 => by
    simp at h h2
    subst h h2
    have hi : i < 2 := by
      have := (List.getElem?_eq_some_iff.1 h3).1
      simpa using this
    unfold mems
    simp only [List.zipWith_cons_cons, List.flatten_cons, Nat.zero_mul, Nat.zero_add]
    rw [List.getElem?_append_left (by simp; omega)]
    exact h3
  | k0 :: ks, u0 :: us, k + 1, key, u, h, h2, i, x, h3 => by
    have ih := mems_get ks us k key u (by simpa using h) (by simpa using h2) i x h3
    unfold mems at ih ⊢
    simp only [List.zipWith_cons_cons, List.flatten_cons]
    rw [List.getElem?_append_right (by simp; omega)]
    simp only [List.length_cons, List.length_nil, Nat.zero_add]
    rw [show (k + 1) * 2 + i - (1 + 1) = k * 2 + i by omega]
    exact ih
section
variable {w : World} {B b : Nat} {l0 : List UInt8} {F : Nat → Prop}
set_option maxRecDepth 100000 in
set_option maxHeartbeats 800000 in
theorem write_obj {A : Option Addr} {c : Nat} {us : List Value} {ks : List (List UInt8)} {l : List JV} (ih : ∀ j ∈ l, WR j) (h : Bd w B b l0) (hu : us.length = l.length) (hkl : ks.length = l.length) (hr : Rd w F A (mems ks us)) (he : ∀ (i : Nat) (u : Value) (j : JV), us[i]? = some u → l[i]? = some j → IsV w F u j) (hF : ∀ k, F k → k < B)
    (hlen : l0.length + (prt (.obj ks l)).length ≤ 140737488000000) (hln : l.length ≤ 140737488000000) : Calls Tryd.prog 28 #[.pointer (some ⟨b, 0, none⟩), .iface 73 (.slice A l.length c)] w fun e w' => e = .returned (.tuple #[]) ∧ BPost B b (l0 ++ prt (.obj ks l)) w w' := by
  have hpl : (prt (.obj ks l)).length = (prtO true ks l).length + 2 := by conv => lhs; unfold prt; simp
  have H1 := Lib.hid (writeByte_any (c := 123) h (by omega) (by have := h.lt; omega))
  have HLEN := Lib.hid (show (l0 ++ [123]).length + (prtO true ks l).length + 1 ≤ 140737488000000 by rw [List.length_append]; simp; omega)
  have HBW := Lib.hid (show B ≤ w.heap.size by have := h.lt; omega)
  have IH := Lib.hid ih
  have HE := Lib.hid he
  have HR := Lib.hid hr
  have HF := Lib.hid hF
  have HU := Lib.hid (And.intro hu hkl)
  have HBb := Lib.hid (show B ≤ b from h.lt.2)
  clear h hlen hpl ih he hr hF hu hkl
  have fBool := fun w => no_Bool (t := 73) (by decide) (.slice A l.length c) w
  have fNumber := fun w => no_Number (t := 73) (by decide) (.slice A l.length c) w
  have fText := fun w => no_Text (t := 73) (by decide) (.slice A l.length c) w
  have fList := fun w => no_List (t := 73) (by decide) (.slice A l.length c) w
  have fObject := fun w => is_Object (.slice A l.length c) w
  go_enter Tryd.func28, Tryd.ntmps28
  go_wp2_with (go_at_call 53; go_must (refine H1.out.mono ?_; rintro e w1 ⟨rfl, p1⟩))
  go_loopw [65] (fun i wr => ∃ (k : Nat) (acc : List UInt8), k ≤ l.length ∧ i = .int .i64 (k : Int) ∧ BPost B b acc w wr ∧ acc ++ prtO (decide (k = 0)) (ks.drop k) (l.drop k) = (l0 ++ [123]) ++ prtO true ks l) (fun i _ => l.length - (intOf i).toNat)
  case atStart => exact ⟨0, _, Nat.zero_le _, rfl, p1, by simp⟩
  case round =>
    obtain ⟨k, acc, hk, rfl, hP, hacc⟩ := hrel
    by_cases hlt : k < l.length
    · obtain ⟨j, hj⟩ : ∃ j, l[k]? = some j := ⟨_, List.getElem?_eq_getElem hlt⟩
      have hdrop : l.drop k = j :: l.drop (k + 1) := by
        rw [List.drop_eq_getElem_cons hlt]
        rw [List.getElem?_eq_getElem hlt] at hj
        rw [Option.some.inj hj]
      have hjm : j ∈ l := List.mem_of_getElem? hj
      have hlu : k < us.length := by rw [HU.out.1]; exact hlt
      have hlk : k < ks.length := by rw [HU.out.2]; exact hlt
      obtain ⟨u, hu⟩ : ∃ u, us[k]? = some u := ⟨_, List.getElem?_eq_getElem hlu⟩
      obtain ⟨key, hkey⟩ : ∃ key, ks[k]? = some key := ⟨_, List.getElem?_eq_getElem hlk⟩
      have hkd : ks.drop k = key :: ks.drop (k + 1) := by
        rw [List.drop_eq_getElem_cons hlk]
        rw [List.getElem?_eq_getElem hlk] at hkey
        rw [Option.some.inj hkey]
      have hmg := mems_get ks us k key u hkey hu
      have hne : mems ks us ≠ [] := by
        intro h0
        have := hmg 0 _ rfl
        rw [h0] at this
        simp at this
      obtain ⟨b0, off, rfl, hb0, hc0⟩ := HR.out hne
      have hrow : wr.rangeAt b0 (off + k * 2) (#[Value.string ⟨key.toArray⟩, u] : Array Value).toList := by
        intro i x hx
        rw [Nat.add_assoc]
        exact (hP.2.1.cell (p := ⟨b0, off + (k * 2 + i), none⟩) (HF.out b0 hb0)).trans (hc0 (k * 2 + i) x (hmg i x (by simpa using hx)))
      have hisv := HE.out k u j hu hj
      have hu1 := hisv.one
      have hkI : (k : Int) < (l.length : Int) := by omega
      have hk0 : (0 : Int) ≤ (k : Int) := by omega
      have hd : decide (k < l.length) = true := by simp; exact hlt
      rw [hdrop, hkd] at hacc
      rw [prtO] at hacc
      simp only [List.headD_cons, List.tail_cons] at hacc
      have hsum : acc.length + (if decide (k = 0) = true then ([] : List UInt8) else [44]).length + (quoteB key).length + 1 + (prt j).length + 1 ≤ 140737488000000 := by
        have h1 := congrArg List.length hacc
        have h2 := HLEN.out
        simp only [List.length_append, List.length_cons] at h1 h2 ⊢
        omega
      have HACC := Lib.hid hacc
      have HISV := Lib.hid hisv
      have HLT := Lib.hid hlt
      have HP := Lib.hid hP
      have HJM := Lib.hid hjm
      have HSUM := Lib.hid hsum
      have HROW := Lib.hid hrow
      have hi3 : (k : Int) + 1 ≤ 140737488000000 := by omega
      have hst : (store ⟨wr.heap.size, 1, none⟩ u).run Tryd.prog (wr.alloc (.cells #[.string ⟨key.toArray⟩, .nilIface] 75)) = .ok () (wr.alloc (.cells #[.string ⟨key.toArray⟩, u] 75)) := by
        have h1 := run_store Tryd.prog (wr.alloc (.cells #[.string ⟨key.toArray⟩, .nilIface] 75)) ⟨wr.heap.size, 1, none⟩ u .plain hu1.2
        rw [h1]
        simp
        rw [World.setCell_alloc_new]
        rfl
      have hzm := fun w => (show (zeroValue 75).run Tryd.prog w = .ok (.agg #[.string ⟨#[]⟩, .nilIface]) w by kernel_rfl)
      clear hacc hisv hlt hdrop hP hc0 hu hb0 hne hlu hj hjm hsum hkd hlk hkey hmg hrow
      obtain ⟨wm, hwm⟩ : ∃ wm, wm = wr.alloc (.cells #[.string ⟨key.toArray⟩, u] 75) := ⟨_, rfl⟩
      have hm0 : wm.heap[wr.heap.size]? = some (.cells #[.string ⟨key.toArray⟩, u] 75 (0, 0)) := by rw [hwm]; exact heap_alloc_new _ _
      have hPm : BPost B b acc w wm := by
        have h1 := HP.out
        have hb1 := h1.1.lt
        rw [hwm]
        exact ⟨h1.1.alloc _, h1.2.1.alloc (by omega) _, h1.2.2.alloc _⟩
      obtain ⟨mb, hmb⟩ : ∃ mb, mb = wr.heap.size := ⟨_, rfl⟩
      have hmbb : mb ≠ b := by have := HP.out.1.lt; omega
      have hmbB : B ≤ mb := by have := HP.out.1.lt; omega
      rw [← hmb] at hm0
      have HMB := Lib.hid hmb
      have HWM := Lib.hid hwm
      have HPM := Lib.hid hPm
      have HM0 := Lib.hid hm0
      have HNB := Lib.hid hmbb
      -- the member's variable stands through what the builder does
      have stay : ∀ (wa wb : World) (x : List UInt8), BPost B b x wa wb → wa.heap[mb]? = some (.cells #[.string ⟨key.toArray⟩, u] 75 (0, 0)) → wb.heap[mb]? = some (.cells #[.string ⟨key.toArray⟩, u] 75 (0, 0)) :=
        fun wa wb x hp hm => hp.2.2 mb _ hm (by simpa using hmbb) (fun c fz e => by cases e)
      have STAY := Lib.hid stay
      clear hwm hm0 hPm hmb stay
      by_cases hk00 : k = 0
      · subst hk00
        have hrow0 : wr.rangeAt b0 off (#[Value.string ⟨key.toArray⟩, u] : Array Value).toList := HROW.out
        have HROW0 := Lib.hid hrow0
        clear hrow0
        go_wp2_with (first
          | (refine wpList_load_arr rfl _ _ rfl b0 off rfl #[.string ⟨key.toArray⟩, u] _ (by with_reducible exact HROW0.out) Tryd.underlying75 rfl (by kernel_rfl) ?_)
          | (go_at_call 52; go_must (rw [← HWM.out]; refine (quote_any key HPM.out.1 (by have h_ := HSUM.out; simp at h_; omega)).mono ?_; rintro e w2 ⟨rfl, p2⟩; have m2 := STAY.out _ _ _ p2 HM0.out))
          | (go_at_call 53; have hx_ := p2; go_must (refine (writeByte_any (c := 58) p2.1 (by have h_ := HSUM.out; rw [List.length_append]; simp at h_; omega) (by have := p2.1.lt; omega)).mono ?_; rintro e w3 ⟨rfl, p3⟩; have m3 := STAY.out _ _ _ p3 m2; have cc0 := cell_of_row w3 mb 0 _ _ _ m3; have cc1 := cell_of_row w3 mb 1 _ _ _ m3; rw [HMB.out] at cc0 cc1))
          | (go_at_call 28; go_must (refine (IH.out j HJM.out w3 B b _ F u p3.1 (HISV.out.keep (fun k hk => (HPM.out.trans (p2.trans p3)).2.1.block k (HF.out k hk)) (fun k hk => hk)) HF.out (by have h_ := HSUM.out; rw [List.length_append, List.length_append]; simp at h_ ⊢; omega)).mono ?_; rintro e w4 ⟨rfl, p4⟩)))
        go_roundw
        case rel => exact ⟨1, acc ++ quoteB key ++ [58] ++ prt j, HLT.out, by go_num, HPM.out.trans ((p2.trans p3).trans p4), by rw [← HACC.out]; simp⟩
        case measure => have := HLT.out; simp [intOf]; omega
      · have hkp : (0 : Int) < (k : Int) := by omega
        have hdz : decide (k = 0) = false := by simp [hk00]
        have HZ := Lib.hid hdz
        have hkp2 : 0 < k := by omega
        have HC := Lib.hid (writeByte_any (c := 44) HPM.out.1 (by have h_ := HSUM.out; rw [hdz] at h_; simp at h_; omega) (by have := HPM.out.1.lt; omega))
        clear hdz
        go_wp2_with (first
          | (refine wpList_load_arr rfl _ _ rfl b0 (off + k * 2) rfl #[.string ⟨key.toArray⟩, u] _ (by with_reducible exact HROW.out) Tryd.underlying75 rfl (by kernel_rfl) ?_)
          | (go_at_call 52; go_must (refine (quote_any key p1c.1 (by have h_ := HSUM.out; rw [HZ.out] at h_; rw [List.length_append]; simp at h_ ⊢; omega)).mono ?_; rintro e w2 ⟨rfl, p2⟩; have m2 := STAY.out _ _ _ p2 m1))
          | (go_at_call 53; have hx_ := p2; go_must (refine (writeByte_any (c := 58) p2.1 (by have h_ := HSUM.out; rw [HZ.out] at h_; rw [List.length_append, List.length_append]; simp at h_ ⊢; omega) (by have := p2.1.lt; omega)).mono ?_; rintro e w3 ⟨rfl, p3⟩; have m3 := STAY.out _ _ _ p3 m2; have cc0 := cell_of_row w3 mb 0 _ _ _ m3; have cc1 := cell_of_row w3 mb 1 _ _ _ m3; rw [HMB.out] at cc0 cc1))
          | (go_at_call 28; go_must (refine (IH.out j HJM.out w3 B b _ F u p3.1 (HISV.out.keep (fun k hk => ((HPM.out.trans p1c).trans (p2.trans p3)).2.1.block k (HF.out k hk)) (fun k hk => hk)) HF.out (by have h_ := HSUM.out; rw [HZ.out] at h_; rw [List.length_append, List.length_append, List.length_append]; simp at h_ ⊢; omega)).mono ?_; rintro e w4 ⟨rfl, p4⟩))
          | (go_at_call 53; go_must (rw [← HWM.out]; refine HC.out.mono ?_; rintro e w1c ⟨rfl, p1c⟩; have m1 := STAY.out _ _ _ p1c HM0.out; have cd0 := cell_of_row w1c mb 0 _ _ _ m1; have cd1 := cell_of_row w1c mb 1 _ _ _ m1; rw [HMB.out] at cd0 cd1)))
        go_roundw
        case rel => exact ⟨k + 1, acc ++ [44] ++ quoteB key ++ [58] ++ prt j, HLT.out, by go_num, (HPM.out.trans p1c).trans ((p2.trans p3).trans p4), by rw [← HACC.out, HZ.out]; simp⟩
        case measure => have := HLT.out; simp [intOf]; omega
    · obtain rfl : k = l.length := by omega
      have hd : decide (l.length < l.length) = false := by simp
      rw [List.drop_length, prtO, List.append_nil] at hacc
      have HC := Lib.hid (writeByte_any (c := 125) hP.1 (by have h_ := HLEN.out; rw [hacc, List.length_append]; omega) (by have := hP.1.lt; omega))
      have HP := Lib.hid hP
      have HACC := Lib.hid hacc
      clear hP hacc
      go_wp2_with (go_at_call 53; go_must (refine HC.out.mono ?_; rintro e w2 ⟨rfl, p2⟩))
      first
        | go_end0
        | (refine bodyPost_ret (results_none rfl _ _ _) rfl ?_)
      refine ⟨rfl, ?_⟩
      have h5 := HP.out.trans p2
      rw [HACC.out] at h5
      rw [prt]
      simpa using h5
end
theorem wr_all : ∀ (n : Nat) (j : JV), SizeOf.sizeOf j ≤ n → WR j
  | 0, j, hn => by cases j <;> simp at hn
  | n + 1, j, hn => by
    intro w B b l F v hb hv hF hlen
    cases hv with
    | nil => exact write_nil hb (by rw [prt] at hlen; simpa using hlen)
    | null => exact write_null hb (by rw [prt] at hlen; simpa using hlen)
    | bool x => exact write_bool x hb (by rw [prt] at hlen; exact hlen)
    | num s => exact write_num s hb (by rw [prt] at hlen; exact hlen)
    | text s => exact write_text s hb (by rw [prt] at hlen; exact hlen)
    | list A c us l' hu hr he =>
      refine write_list (fun j hj => wr_all n j ?_) hb hu hr he hF hlen ?_
      · have := List.sizeOf_lt_of_mem hj
        simp at hn
        omega
      · have := prtL_len true l'; rw [prt] at hlen; simp at hlen; omega
    | obj A c us ks l' hu hk hr he =>
      refine write_obj (fun j hj => wr_all n j ?_) hb hu hk hr he hF hlen ?_
      · have := List.sizeOf_lt_of_mem hj
        simp at hn
        omega
      · have := prtO_len true ks l'; rw [prt] at hlen; simp at hlen; omega
set_option maxRecDepth 100000 in
set_option maxHeartbeats 800000 in
theorem print_any {w : World} {F : Nat → Prop} {v : Value} {j : JV} (hv : IsV w F v j) (hF : ∀ k, F k → k < w.heap.size) (hlen : (prt j).length ≤ 140737488000000) : Calls Tryd.prog 12 #[v] w fun e w' => e = .returned (.string ⟨(prt j).toArray⟩) ∧ Below w.heap.size w w' := by
  have hbw : Below w.heap.size w (w.alloc (.cells #[.pointer none, .slice none 0 0] 66)) := (Below.refl _ _).alloc (Nat.le_refl _) _
  have h0 : Bd (w.alloc (.cells #[.pointer none, .slice none 0 0] 66)) w.heap.size w.heap.size [] := Lib.IsBuilderF.of (Lib.fresh_isBuilder 66 5 w)
  have HW := Lib.hid (wr_all (SizeOf.sizeOf j) j (Nat.le_refl _) _ w.heap.size w.heap.size [] F v h0 (hv.keep (fun k hk => hbw.block k (hF k hk)) (fun k hk => hk)) hF (by simpa using hlen))
  have HB := Lib.hid hbw
  clear hbw h0 hv hF hlen
  go_enter Tryd.func12, Tryd.ntmps12
  go_wp2_with (first
    | (go_at_call 28; go_must (refine HW.out.mono ?_; rintro e w2 ⟨rfl, p2⟩))
    | (go_at_call 29; go_must (refine (bdString_any p2.1 (by have := p2.1.lt; omega)).mono ?_; rintro e w3 ⟨rfl, p3⟩)))
  go_ret
  exact ⟨by simp, HB.out.trans (p2.2.1.trans p3.2.1)⟩
end Go.Proofs.YtkbopeoaoakfnaaDoor

namespace Go.Proofs.YtkbopeoaoakfnaaDoor
open Go.RowKit
theorem awake_parse : parseP [91, 49, 44, 34, 97, 34, 93] = (.list [.num [49], .text [97]], 0, 0) := by kernel_rfl
theorem awake_print : prt (.list [.num [49], .text [97]]) = [91, 49, 44, 34, 97, 34, 93] := by kernel_rfl
set_option maxRecDepth 100000 in
set_option maxHeartbeats 800000 in
theorem awake_any (w : World) : Calls Tryd.prog 10 #[] w fun e w' => e = .returned (.bool true) ∧ Below w.heap.size w w' := by
  go_enter Tryd.func10, Tryd.ntmps10
  go_wp2_with (first
    | (go_at_call 16; go_must (have hp := parse_any w [91, 49, 44, 34, 97, 34, 93]; unfold ParsePost at hp; rw [awake_parse] at hp; refine hp.mono ?_; clear hp; rintro e w1 ⟨v, rfl, hb1, hv⟩; obtain ⟨A, c, us, hvv, hIs⟩ : ∃ A c, ∃ us : List Value, v = .iface 49 (.slice A 2 c) ∧ us.length = 2 := (by cases hv; exact ⟨_, _, _, rfl, by assumption⟩); subst hvv; have HV := Lib.hid hv; have HB1 := Lib.hid hb1; clear hv hb1 hIs; have f1 := fun w => is_List (.slice A 2 c) w))
    | (go_at_call 12; go_must (have hp := print_any HV.out (fun k hk => hk.2) (by rw [awake_print]; decide); rw [awake_print] at hp; refine hp.mono ?_; clear hp; rintro e w2 ⟨rfl, hb2⟩)))
  go_ret
  exact ⟨rfl, HB1.out.trans (hb2.mono HB1.out.size)⟩
end Go.Proofs.YtkbopeoaoakfnaaDoor
