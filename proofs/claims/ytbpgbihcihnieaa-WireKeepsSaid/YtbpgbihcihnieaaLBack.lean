/- The walk of the law WireBack. No conditions. -/
import Derived.Test.YtbpgbihcihnieaaLReads
import Derived.Test.YtbpgbihcihnieaaW3
namespace Go.Proofs.Ytbpgbihcihnieaa
open Go.RowKit
theorem back_cases (ls : List (List UInt8)) : (encE ls = 0 ∧ decE (encB ls) = 0 ∧ decV (encB ls) = ls) ∨ (encE ls = 6 ∧ decE (encB ls) = 2 ∧ decV (encB ls) = []) := by
  cases h : encOK ls with
  | true => exact .inl ⟨encE_ok h, (enc_dec h).2, (enc_dec h).1⟩
  | false =>
    rw [encB_no h]
    exact .inr ⟨encE_no h, (dec_short (by simp) (by simp)).2, (dec_short (by simp) (by simp)).1⟩
theorem again_cases (l : List UInt8) : (decE l = 0 ∧ encE (decV l) = 0 ∧ encB (decV l) = l) ∨ ((decE l = 2 ∨ decE l = 6) ∧ decV l = []) := by
  rcases dec_cases l with ⟨h, _⟩ | h
  · exact .inl ⟨h, encE_ok (dec_enc h).1, (dec_enc h).2⟩
  · exact .inr h
theorem encB_len (ls : List (List UInt8)) : (encB ls).length ≤ 140737488355328 := by
  cases h : encOK ls with
  | true =>
    have h1 : ls.length ≤ 65536 ∧ 4 + bulk ls ≤ 1048576 := by simpa [encOK] using h
    rw [encB_ok h, List.length_append, be4_length, members_length]; omega
  | false => rw [encB_no h]; simp
set_option maxRecDepth 100000 in
set_option maxHeartbeats 2000000 in
theorem WireBack_walk (v0 v1 : Value) (ls : List (List UInt8)) (l : List UInt8) (w : World) (a0 : ArgL w v0 ls) (a1 : ArgB w v1 l) :
    Calls Try.prog 7 #[v0, v1] w fun e w' => e = .returned (.bool true) ∧ Below w.heap.size w w' := by
  obtain ⟨A0, c0, rfl, _, hl, hn, hm'⟩ := a0
  obtain ⟨A, c, rfl, hc, hr, hm⟩ := a1
  rw [reach_eq] at hm hn
  have hm0 : ∀ l ∈ ls, l.length ≤ 140737488351232 := hm'
  clear hm'
  have hd := decV_len l
  have hd2 := decV_len (encB ls)
  have hd3 := encB_len ls
  rcases back_cases ls with ⟨hE, hD, hV⟩ | ⟨hE, hD, hV⟩ <;> rcases again_cases l with ⟨hF, hG, hX⟩ | ⟨hF | hF, hG⟩
  all_goals
    have hE := Lib.hid hE
    have hD := Lib.hid hD
    have hV := Lib.hid hV
    have hF := Lib.hid hF
    have hG := Lib.hid hG
    try have hX := Lib.hid hX
    go_enter Try.func7, Try.ntmps7
    have tok1 : True := trivial
    have tok2 : True := trivial
    go_wp2_with (first
      | (go_at_call 12; go_must (refine (awake_any _).mono ?_; rintro e w1 ⟨rfl, hb1⟩))
      | (go_at_call 15; go_must (refine (copyList_any _ _ ls _ ((hl.below hb1).more hb1.size) hn hm0).mono ?_; rintro e w3 ⟨v3, rfl, hown3, hb3'⟩; have hb3 := hb1.trans (hb3'.mono hb1.size); obtain ⟨A3, c3, rfl, _, hl3⟩ := hown3.lists))
      | (go_at_call 14; have _t := tok1; go_must (refine (Encode_any _ _ ls _ hl3 (by omega)).mono ?_; rintro e w4 ⟨v4, rfl, hown4, hb4'⟩; have hb4 := hb3.trans (hb4'.mono hb3.size); obtain ⟨A4, c4, rfl, hc4, hr4⟩ := own8_form hown4; rw [hE.out]; clear tok1))
      | (go_at_call 25; have _t := tok2; go_must (refine (Decode_any A4 c4 (encB ls) _ hr4 hc4 hd3).mono ?_; rintro e w5 ⟨v5, rfl, hown5, hb5'⟩; have hb5 := hb4.trans (hb5'.mono hb4.size); rw [hV.out] at hown5; obtain ⟨A5, c5, rfl, _, hl5⟩ := hown5.lists; rw [hD.out]; clear tok2))
      | (go_at_call 26; go_must (refine (SameList_any A5 A0 c5 c0 ls ls _ hl5 ((hl.below hb5).more hb5.size) (by omega) (by omega)).mono ?_; rintro e w6 ⟨rfl, hb6'⟩; have hb6 := hb5.trans (hb6'.mono hb5.size); rw [decide_eq_true rfl]))
      | (go_at_call 25; go_must (have hbx := (by first | exact hb6 | exact hb5); refine (Decode_any A c l _ ((hr.below hbx).more hbx.size) hc (by omega)).mono ?_; rintro e w7 ⟨v7, rfl, hown7, hb7'⟩; have hb7 := hbx.trans (hb7'.mono hbx.size); (first | rw [hG.out] at hown7 | skip); obtain ⟨A7, c7, rfl, _, hl7⟩ := hown7.lists; rw [hF.out]))
      | (go_at_call 14; go_must (refine (Encode_any _ _ (decV l) _ hl7 hd).mono ?_; rintro e w8 ⟨v8, rfl, hown8, hb8'⟩; have hb8 := hb7.trans (hb8'.mono hb7.size); rw [hX.out] at hown8; obtain ⟨A8, c8, rfl, hc8, hr8⟩ := own8_form hown8; rw [hG.out]; have hs8 := run_str8 hr8 c8; have hs := run_str8 (hr.below hb8) c)))
    go_ret
    first
      | exact ⟨by simp, hb8⟩
      | exact ⟨by simp, hb7⟩
end Go.Proofs.Ytbpgbihcihnieaa
