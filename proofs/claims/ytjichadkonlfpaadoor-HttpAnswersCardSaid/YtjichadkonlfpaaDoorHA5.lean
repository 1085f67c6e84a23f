/- Respond of the program. No conditions. -/
import Derived.Test.YtjichadkonlfpaaDoorHA4
namespace Go.Proofs.YtjichadkonlfpaaDoor
open Go.RowKit
set_option maxRecDepth 100000 in
set_option maxHeartbeats 2000000 in
theorem respond_any (st : Int) (_ : -9223372036854775808 ≤ st) (_ : st ≤ 9223372036854775807) (A : Option Addr) (c : Nat) (l : List UInt8) (cl : Bool) (w : World) (hr : Reads w w.heap.size 1 A l.length (bvs l)) (hl : l.length ≤ 140737488351232) (htab : Pow10 w) :
    Calls Tryd.prog 15 #[.int .i64 st, .slice A l.length c, .bool cl] w (RPost (respP (codeN st) st l cl) w) := by
  obtain ⟨q, hq⟩ : ∃ q, st.tmod 1000 = q := ⟨_, rfl⟩
  have q0 : -999 ≤ q := by have := Int.lt_tmod_of_pos st (b := 1000) (by decide); omega
  have q1 : q ≤ 999 := by have := Int.tmod_lt_of_pos st (b := 1000) (by decide); omega
  obtain ⟨n, hn⟩ : ∃ n : Nat, max q (-q) = (n : Int) := ⟨(max q (-q)).toNat, by omega⟩
  have hcn : codeN st = n := by unfold codeN; rw [hq, hn]; rfl
  have n1 : n < 1000 := by omega
  obtain ⟨m, hm⟩ : ∃ m, m = l.length := ⟨_, rfl⟩
  have HR := Lib.hid hr
  have HT := Lib.hid htab
  have HL := Lib.hid hl
  have HM := Lib.hid hm
  have HCN := Lib.hid hcn
  rw [← hm] at hl HR ⊢
  have D3 : Hid (Lib.decDigits (1000 + n) = 49 :: codeP n) := digits3 ⟨n, n1⟩
  have n0I : (0 : Int) ≤ (n : Int) := by omega
  have n1I : (n : Int) ≤ 999 := by omega
  have T0 : Hid True := trivial
  obtain ⟨rv, hrv⟩ : ∃ rv : ByteArray, rv = ⟨(reasonP st).toArray⟩ := ⟨_, rfl⟩
  have hrs : rv.size = (reasonP st).length := by rw [hrv]; simp [ByteArray.size]
  have rs40 : rv.size ≤ 40 := by rw [hrs]; exact reasonP_len st
  have HRV := Lib.hid hrv
  obtain ⟨dv, hdv⟩ : ∃ dv : ByteArray, dv = ⟨(Lib.decDigits m).toArray⟩ := ⟨_, rfl⟩
  have hds : dv.size = (Lib.decDigits m).length := by rw [hdv]; simp [ByteArray.size]
  have ds20 : dv.size ≤ 20 := by rw [hds]; have := decDigits_len 15 m (by omega); omega
  have HDV := Lib.hid hdv
  obtain ⟨kk, hkk⟩ : ∃ kk, kk = codeP n := ⟨_, rfl⟩
  have hk3 : kk.length = 3 := by rw [hkk]; rfl
  obtain ⟨cv, hcv⟩ : ∃ cv : ByteArray, cv = ⟨kk.toArray⟩ := ⟨_, rfl⟩
  have cs3 : cv.size ≤ 3 := by rw [hcv]; simp [ByteArray.size, hk3]
  have hext : (⟨(49 :: kk).toArray⟩ : ByteArray).extract 1 (kk.length + 1) = cv := by
    rw [hcv]
    apply ByteArray.ext
    simp [ByteArray.data_extract]
  have HKK := Lib.hid hkk
  have HCV := Lib.hid hcv
  rw [← hkk] at D3
  have t1 : ¬ (9223372036854775807 < 9 + cv.size) := by omega
  have t2 : ¬ (9223372036854775807 < 9 + cv.size + 1) := by omega
  have t3 : ¬ (9223372036854775807 < 9 + cv.size + 1 + rv.size) := by omega
  have t4 : ¬ (9223372036854775807 < 9 + cv.size + 1 + rv.size + 18) := by omega
  have t5 : ¬ (9223372036854775807 < 9 + cv.size + 1 + rv.size + 18 + dv.size) := by omega
  have t6 : ¬ (9223372036854775807 < 9 + cv.size + 1 + rv.size + 18 + dv.size + 2) := by omega
  obtain ⟨sv, hS⟩ : ∃ sv : ByteArray, (⟨#[72, 84, 84, 80, 47, 49, 46, 49, 32]⟩ : ByteArray) ++ cv ++ ⟨#[32]⟩ ++ rv ++ ⟨#[13, 10, 99, 111, 110, 116, 101, 110, 116, 45, 108, 101, 110, 103, 116, 104, 58, 32]⟩ ++ dv ++ ⟨#[13, 10]⟩ = sv := ⟨_, rfl⟩
  obtain ⟨P, hP⟩ : ∃ P, P = preP n st m := ⟨_, rfl⟩
  have hSP : sv = ⟨P.toArray⟩ := by
    rw [← hS, hcv, hrv, hdv, hkk, hP]
    unfold preP
    rw [← bapp, ← bapp, ← bapp, ← bapp, ← bapp, ← bapp]
  have hPl : P.length ≤ 200 := by rw [hP, ← hcn]; exact preP_len st m hl
  have OT : Hid (∀ w2 : World, OwnT (Lib.bytesWorld w2 5 sv) w2.heap.size (.slice (some ⟨w2.heap.size, 0, none⟩) sv.size (grownCap w2 sv.size 0 5)) P) := by
    intro w2
    rw [hSP]
    exact ownT_bytes w2 P (by unfold maxLen; omega)
  have BW : Hid (∀ w2 : World, Below w2.heap.size w2 (Lib.bytesWorld w2 5 sv)) := by
    intro w2
    refine ⟨?_, ?_, ?_, by rw [Lib.bytesWorld_size]; omega, fun k hk => Lib.bytesWorld_at_old w2 _ _ k hk⟩
    all_goals (unfold Lib.bytesWorld World.freeze; rw [if_neg (by decide)]; rfl)
  have hconv := fun w2 => Lib.run_convert_string_bytes (P := Tryd.prog) w2 9 24 5 sv (u := .string) Tryd.underlying9 Tryd.underlying24 Tryd.underlying5
  have HPP := Lib.hid hP
  have HPL := Lib.hid hPl
  have hml : m = l.length := hm
  have RES : Hid (respP (codeN st) st l cl = P ++ (if cl then closeL else []) ++ [13, 10] ++ l) := by show _ = _; unfold respP; rw [hP, hcn, hml]
  have RL : Hid (P.length + 19 + 2 + l.length ≤ 140737488355328) := by show _ ≤ _; omega
  clear hr htab hcn n1 hm hrv hrs hdv hds hkk hk3 hcv hSP hP hPl hml
  cases cl
  all_goals (try simp only [if_true, Bool.false_eq_true, if_false, List.append_nil] at RES)
  · skip
    obtain ⟨Q1, hQ1⟩ : ∃ Q, Q = P ++ [13, 10] := ⟨_, rfl⟩
    have HQ1 := Lib.hid hQ1
    have LQ : Hid (Q1.length + l.length ≤ 140737488355328) := by show _ ≤ _; have h_ := RL.out; rw [hQ1]; simp; omega
    have LP : Hid (P.length + 100 ≤ 140737488355328) := by show _ ≤ _; have h_ := HPL.out; omega
    rw [← hQ1] at RES
    clear hQ1
    go_enter Tryd.func15, Tryd.ntmps15
    have S0 : Hid True := trivial
    go_wp2_with (first
      | (go_at_call 18; have hx_ := T0; go_must (rw [show (1000 + (n : Int)) = ((1000 + n : Nat) : Int) from by omega]; refine (itoa_any (1000 + n) (by omega) w HT.out).mono ?_; rintro e w1 ⟨rfl, hb⟩; rw [D3.out]; have HB1 := Lib.hid hb; clear hb T0 hx_))
      | (go_at_call 18; go_must (refine (itoa_any m (by omega) w3 (tab_below HT.out HB1.out)).mono ?_; rintro e w2 ⟨rfl, hb⟩; rw [← HDV.out]; have HB2 := Lib.hid (HB1.out.trans (hb.mono HB1.out.size)); clear hb))
      | (go_at_call 19; go_must (refine (reason_any st w1).mono ?_; rintro e w3 ⟨rfl, rfl⟩; rw [← HRV.out]))
      | (at_builtin; have hx_ := S1; go_must (refine appT (l := Q1) (news := l) (base := w2.heap.size) (B := w.heap.size) rfl rfl rfl rfl O4.out (HR.out.below B4.out) (by have h_ := LQ.out; have h2_ := HM.out; omega) Z4.out ?_; intro v5 w5 ho hg hx; obtain ⟨g5, c5, hv5, hb5, hr5⟩ := ho.reads; subst hv5; have R5 := Lib.hid hr5; have B5 := Lib.hid (Below.grown B4.out hg B4.out.size (fun j hj => by cases hj; exact G4.out)); clear ho hg hx hb5 hr5))
      | (at_builtin; have hx_ := S0; go_must (refine appTs (l := P) (news := [13, 10]) (base := w2.heap.size) rfl rfl rfl rfl (OT.out w2) (by have h_ := LP.out; simp; omega) (BW.out w2).size ?_; intro v4 w4 ho hg hx; rw [← HQ1.out] at ho; obtain ⟨g4, c4, hv4, hb4, _⟩ := ho.reads; subst hv4; have O4 := Lib.hid ho; have B4 := Lib.hid (Below.grown (HB2.out.trans ((BW.out w2).mono HB2.out.size)) hg (Below.size (HB2.out.trans ((BW.out w2).mono HB2.out.size))) (fun j hj => by cases hj; exact HB2.out.size)); have G4 := Lib.hid (Nat.le_trans HB2.out.size hb4); have Z4 := Lib.hid (Nat.le_trans (BW.out w2).size hg.size); have S1 := hx_; clear ho hg hx hb4 S0 hx_)))
    go_ret
    rw [RES.out]
    exact ⟨_, c5, by rw [List.length_append]; rfl, R5.out, B5.out⟩
  · skip
    obtain ⟨Q1, hQ1⟩ : ∃ Q, Q = P ++ closeL := ⟨_, rfl⟩
    have HQ1 := Lib.hid hQ1
    obtain ⟨Q2, hQ2⟩ : ∃ Q, Q = Q1 ++ [13, 10] := ⟨_, rfl⟩
    have HQ2 := Lib.hid hQ2
    have LQ : Hid (Q2.length + l.length ≤ 140737488355328) := by show _ ≤ _; have h_ := RL.out; rw [hQ2, hQ1]; simp [closeL]; omega
    have LP : Hid (P.length + 100 ≤ 140737488355328) := by show _ ≤ _; have h_ := HPL.out; omega
    have LP1 : Hid (Q1.length + 2 ≤ 140737488355328) := by show _ ≤ _; have h_ := HPL.out; rw [hQ1]; simp [closeL]; omega
    rw [← hQ1, ← hQ2] at RES
    clear hQ1 hQ2
    go_enter Tryd.func15, Tryd.ntmps15
    have S0 : Hid True := trivial
    go_wp2_with (first
      | (go_at_call 18; have hx_ := T0; go_must (rw [show (1000 + (n : Int)) = ((1000 + n : Nat) : Int) from by omega]; refine (itoa_any (1000 + n) (by omega) w HT.out).mono ?_; rintro e w1 ⟨rfl, hb⟩; rw [D3.out]; have HB1 := Lib.hid hb; clear hb T0 hx_))
      | (go_at_call 18; go_must (refine (itoa_any m (by omega) w3 (tab_below HT.out HB1.out)).mono ?_; rintro e w2 ⟨rfl, hb⟩; rw [← HDV.out]; have HB2 := Lib.hid (HB1.out.trans (hb.mono HB1.out.size)); clear hb))
      | (go_at_call 19; go_must (refine (reason_any st w1).mono ?_; rintro e w3 ⟨rfl, rfl⟩; rw [← HRV.out]))
      | (at_builtin; have hx_ := S2; go_must (refine appT (l := Q2) (news := l) (base := w2.heap.size) (B := w.heap.size) rfl rfl rfl rfl O5.out (HR.out.below B5.out) (by have h_ := LQ.out; have h2_ := HM.out; omega) Z5.out ?_; intro v6 w6 ho hg hx; obtain ⟨g6, c6, hv6, hb6, hr6⟩ := ho.reads; subst hv6; have R6 := Lib.hid hr6; have B6 := Lib.hid (Below.grown B5.out hg B5.out.size (fun j hj => by cases hj; exact G5.out)); clear ho hg hx hb6 hr6))
      | (at_builtin; have hx_ := S1; go_must (refine appTs (l := Q1) (news := [13, 10]) (base := w2.heap.size) rfl rfl rfl rfl O4.out (by have h_ := LP1.out; simpa using h_) Z4.out ?_; intro v5 w5 ho hg hx; rw [← HQ2.out] at ho; obtain ⟨g5, c5, hv5, hb5, _⟩ := ho.reads; subst hv5; have O5 := Lib.hid ho; have B5 := Lib.hid (Below.grown B4.out hg (Below.size B4.out) (fun j hj => by cases hj; exact G4.out)); have G5 := Lib.hid (Nat.le_trans HB2.out.size hb5); have Z5 := Lib.hid (Nat.le_trans Z4.out hg.size); have S2 := hx_; clear ho hg hx hb5 S1 hx_))
      | (at_builtin; have hx_ := S0; go_must (refine appTs (l := P) (news := closeL) (base := w2.heap.size) rfl rfl rfl rfl (OT.out w2) (by have h_ := LP.out; simp [closeL]; omega) (BW.out w2).size ?_; intro v4 w4 ho hg hx; rw [← HQ1.out] at ho; obtain ⟨g4, c4, hv4, hb4, _⟩ := ho.reads; subst hv4; have O4 := Lib.hid ho; have B4 := Lib.hid (Below.grown (HB2.out.trans ((BW.out w2).mono HB2.out.size)) hg (Below.size (HB2.out.trans ((BW.out w2).mono HB2.out.size))) (fun j hj => by cases hj; exact HB2.out.size)); have G4 := Lib.hid (Nat.le_trans HB2.out.size hb4); have Z4 := Lib.hid (Nat.le_trans (BW.out w2).size hg.size); have S1 := hx_; clear ho hg hx hb4 S0 hx_)))
    go_ret
    rw [RES.out]
    exact ⟨_, c6, by rw [List.length_append]; rfl, R6.out, B6.out⟩
end Go.Proofs.YtjichadkonlfpaaDoor
