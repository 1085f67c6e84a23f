/- Respond of the reference. Printed by wip/genHA6.py. No conditions. -/
import Derived.Test.YtjichadkonlfpaaDoorHA5
namespace Go.Proofs.YtjichadkonlfpaaDoor
open Go.RowKit
set_option maxRecDepth 100000 in
set_option maxHeartbeats 2000000 in
theorem rRespondPo (st : Int) (A : Option Addr) (c : Nat) (l : List UInt8) (w : World) (hr : Reads w w.heap.size 1 A l.length (bvs l)) (hl : l.length ≤ 140737488351232) (n : Nat) (hq : st.tmod 1000 = (n : Int)) (n1 : n < 1000) :
    Calls Tryd.prog 16 #[.int .i64 st, .slice A l.length c, .bool false] w (RPost (respP (codeN st) st l false) w) := by
  have hcn : codeN st = n := by unfold codeN; rw [hq]; omega
  obtain ⟨m, hm⟩ : ∃ m, m = l.length := ⟨_, rfl⟩
  have HR := Lib.hid hr
  have HL := Lib.hid hl
  have HM := Lib.hid hm
  rw [← hm] at hl HR ⊢
  have hlI : (m : Int) ≤ 140737488351232 := by omega
  have n0I : (0 : Int) ≤ (n : Int) := by omega
  have n1I : (n : Int) ≤ 999 := by omega
  obtain ⟨rv, hrv⟩ : ∃ rv : ByteArray, rv = ⟨(reasonP st).toArray⟩ := ⟨_, rfl⟩
  have hrs : rv.size = (reasonP st).length := by rw [hrv]; simp [ByteArray.size]
  have rs40 : rv.size ≤ 40 := by rw [hrs]; exact reasonP_len st
  have HRV := Lib.hid hrv
  obtain ⟨dv, hdv⟩ : ∃ dv : ByteArray, dv = ⟨(Lib.decDigits m).toArray⟩ := ⟨_, rfl⟩
  have hds : dv.size = (Lib.decDigits m).length := by rw [hdv]; simp [ByteArray.size]
  have ds20 : dv.size ≤ 20 := by rw [hds]; have := decDigits_len 15 m (by omega); omega
  have HDV := Lib.hid hdv
  obtain ⟨cv, hcv⟩ : ∃ cv : ByteArray, cv = ⟨(codeP n).toArray⟩ := ⟨_, rfl⟩
  have cs3 : cv.size ≤ 3 := by rw [hcv]; simp [ByteArray.size, codeP]
  have hrow : (bvs (codeP n)).toArray = #[.int .u8 (48 + (n : Int) / 100), .int .u8 (48 + (n : Int) / 10 % 10), .int .u8 (48 + (n : Int) % 10)] := by
    have e0 : ((UInt8.ofNat (48 + n / 100)).toNat : Int) = 48 + (n : Int) / 100 := by simp; omega
    have e1 : ((UInt8.ofNat (48 + n / 10 % 10)).toNat : Int) = 48 + (n : Int) / 10 % 10 := by simp; omega
    have e2 : ((UInt8.ofNat (48 + n % 10)).toNat : Int) = 48 + (n : Int) % 10 := by simp; omega
    simp only [codeP, bvs, bv, List.map_cons, List.map_nil, e0, e1, e2]
  have rs : (convert 24 9 (.slice (some ⟨w.heap.size, 0, none⟩) 3 3)).run Tryd.prog (w.alloc (.cells #[.int .u8 (48 + (n : Int) / 100), .int .u8 (48 + (n : Int) / 10 % 10), .int .u8 (48 + (n : Int) % 10)] 5)) = .ok (.string cv) (w.alloc (.cells #[.int .u8 (48 + (n : Int) / 100), .int .u8 (48 + (n : Int) / 10 % 10), .int .u8 (48 + (n : Int) % 10)] 5)) := by
    rw [hcv, ← hrow]
    exact run_str8 (reads_block (l := codeP n) (n := 3) (heap_alloc_new w _) rfl) 3
  have NB : Hid (Below w.heap.size w (w.alloc (.cells #[.int .u8 (48 + (n : Int) / 100), .int .u8 (48 + (n : Int) / 10 % 10), .int .u8 (48 + (n : Int) % 10)] 5))) := (Below.refl _ w).alloc (Nat.le_refl _) _
  have d0 : (0 : Int) ≤ (n : Int) / 100 := by omega
  have d1 : (n : Int) / 100 ≤ 9 := by omega
  have d2 : (0 : Int) ≤ (n : Int) / 10 % 10 := by omega
  have d3 : (n : Int) / 10 % 10 ≤ 9 := by omega
  have d4 : (0 : Int) ≤ (n : Int) % 10 := by omega
  have d5 : (n : Int) % 10 ≤ 9 := by omega
  have t1 : ¬ (9223372036854775807 < 9 + cv.size) := by omega
  have t2 : ¬ (9223372036854775807 < 9 + cv.size + 1) := by omega
  have t3 : ¬ (9223372036854775807 < 9 + cv.size + 1 + rv.size) := by omega
  have t4 : ¬ (9223372036854775807 < 9 + cv.size + 1 + rv.size + 18) := by omega
  have t5 : ¬ (9223372036854775807 < 9 + cv.size + 1 + rv.size + 18 + dv.size) := by omega
  have t6 : ¬ (9223372036854775807 < 9 + cv.size + 1 + rv.size + 18 + dv.size + 2) := by omega
  obtain ⟨sv, hS⟩ : ∃ sv : ByteArray, (⟨#[72, 84, 84, 80, 47, 49, 46, 49, 32]⟩ : ByteArray) ++ cv ++ ⟨#[32]⟩ ++ rv ++ ⟨#[13, 10, 99, 111, 110, 116, 101, 110, 116, 45, 108, 101, 110, 103, 116, 104, 58, 32]⟩ ++ dv ++ ⟨#[13, 10]⟩ = sv := ⟨_, rfl⟩
  obtain ⟨P, hP⟩ : ∃ P, P = preP n st m := ⟨_, rfl⟩
  have hSP : sv = ⟨P.toArray⟩ := by
    rw [← hS, hcv, hrv, hdv, hP]
    unfold preP
    rw [← bapp, ← bapp, ← bapp, ← bapp, ← bapp, ← bapp]
  have hPl : P.length ≤ 200 := by rw [hP, ← hcn]; exact preP_len st m hl
  have sv2 : sv.size ≤ 200 := by rw [hSP]; simpa [ByteArray.size] using hPl
  have t8 : ¬ (9223372036854775807 < sv.size + 2) := by omega
  obtain ⟨zv, hZ⟩ : ∃ zv : ByteArray, sv ++ ⟨#[13, 10]⟩ = zv := ⟨_, rfl⟩
  obtain ⟨Z, hZl⟩ : ∃ Z, Z = P ++ [13, 10] := ⟨_, rfl⟩
  have hZP : zv = ⟨Z.toArray⟩ := by
    rw [← hZ, hSP, hZl, ← bapp]
  have OT : Hid (∀ w2 : World, OwnT (Lib.bytesWorld w2 5 zv) w2.heap.size (.slice (some ⟨w2.heap.size, 0, none⟩) zv.size (grownCap w2 zv.size 0 5)) Z) := by
    intro w2
    rw [hZP]
    exact ownT_bytes w2 Z (by rw [hZl]; simp [maxLen]; omega)
  have BW : Hid (∀ w2 : World, Below w2.heap.size w2 (Lib.bytesWorld w2 5 zv)) := by
    intro w2
    refine ⟨?_, ?_, ?_, by rw [Lib.bytesWorld_size]; omega, fun k hk => Lib.bytesWorld_at_old w2 _ _ k hk⟩
    all_goals (unfold Lib.bytesWorld World.freeze; rw [if_neg (by decide)]; rfl)
  have hconv := fun w2 => Lib.run_convert_string_bytes (P := Tryd.prog) w2 9 24 5 zv (u := .string) Tryd.underlying9 Tryd.underlying24 Tryd.underlying5
  have hml : m = l.length := hm
  have RES : Hid (respP (codeN st) st l false = Z ++ l) := by show _ = _; rw [hZl, hP, hcn, hml]; unfold respP; simp
  have RL : Hid (Z.length + m ≤ 140737488355328) := by show _ ≤ _; rw [hZl]; simp; omega
  clear hr hcn n1 hm hrv hrs hdv hds hcv hrow hSP hP hPl hZP hZl hml
  have qn : decide ((n : Int) < 0) = false := by simp
  go_enter Tryd.func16, Tryd.ntmps16
  go_wp2_with (first
    | (go_at_call 20; go_must (refine (rReason_any st _).mono ?_; rintro e w3 ⟨rfl, rfl⟩; rw [← HRV.out]))
    | (go_at_call 11; go_must (refine (decimal_any m (by omega) _).mono ?_; rintro e w2 ⟨rfl, hb⟩; rw [← HDV.out]; have HB2 := Lib.hid (NB.out.trans (hb.mono NB.out.size)); have HB3 := Lib.hid (HB2.out.trans ((BW.out w2).mono HB2.out.size)); clear hb))
    | (at_builtin; go_must (refine appT (l := Z) (news := l) (base := w2.heap.size) (B := w.heap.size) rfl rfl rfl rfl (OT.out w2) (HR.out.below HB3.out) RL.out (BW.out w2).size ?_; intro v5 w5 ho hg hx; obtain ⟨g5, c5, hv5, hb5, hr5⟩ := ho.reads; subst hv5; have R5 := Lib.hid hr5; have B5 := Lib.hid (Below.grown HB3.out hg HB3.out.size (fun j hj => by cases hj; exact HB2.out.size)); clear ho hg hx hb5 hr5)))
  go_ret
  rw [RES.out]
  exact ⟨_, c5, by rw [List.length_append, ← HM.out]; rfl, R5.out, B5.out⟩
set_option maxRecDepth 100000 in
set_option maxHeartbeats 2000000 in
theorem rRespondPc (st : Int) (A : Option Addr) (c : Nat) (l : List UInt8) (w : World) (hr : Reads w w.heap.size 1 A l.length (bvs l)) (hl : l.length ≤ 140737488351232) (n : Nat) (hq : st.tmod 1000 = (n : Int)) (n1 : n < 1000) :
    Calls Tryd.prog 16 #[.int .i64 st, .slice A l.length c, .bool true] w (RPost (respP (codeN st) st l true) w) := by
  have hcn : codeN st = n := by unfold codeN; rw [hq]; omega
  obtain ⟨m, hm⟩ : ∃ m, m = l.length := ⟨_, rfl⟩
  have HR := Lib.hid hr
  have HL := Lib.hid hl
  have HM := Lib.hid hm
  rw [← hm] at hl HR ⊢
  have hlI : (m : Int) ≤ 140737488351232 := by omega
  have n0I : (0 : Int) ≤ (n : Int) := by omega
  have n1I : (n : Int) ≤ 999 := by omega
  obtain ⟨rv, hrv⟩ : ∃ rv : ByteArray, rv = ⟨(reasonP st).toArray⟩ := ⟨_, rfl⟩
  have hrs : rv.size = (reasonP st).length := by rw [hrv]; simp [ByteArray.size]
  have rs40 : rv.size ≤ 40 := by rw [hrs]; exact reasonP_len st
  have HRV := Lib.hid hrv
  obtain ⟨dv, hdv⟩ : ∃ dv : ByteArray, dv = ⟨(Lib.decDigits m).toArray⟩ := ⟨_, rfl⟩
  have hds : dv.size = (Lib.decDigits m).length := by rw [hdv]; simp [ByteArray.size]
  have ds20 : dv.size ≤ 20 := by rw [hds]; have := decDigits_len 15 m (by omega); omega
  have HDV := Lib.hid hdv
  obtain ⟨cv, hcv⟩ : ∃ cv : ByteArray, cv = ⟨(codeP n).toArray⟩ := ⟨_, rfl⟩
  have cs3 : cv.size ≤ 3 := by rw [hcv]; simp [ByteArray.size, codeP]
  have hrow : (bvs (codeP n)).toArray = #[.int .u8 (48 + (n : Int) / 100), .int .u8 (48 + (n : Int) / 10 % 10), .int .u8 (48 + (n : Int) % 10)] := by
    have e0 : ((UInt8.ofNat (48 + n / 100)).toNat : Int) = 48 + (n : Int) / 100 := by simp; omega
    have e1 : ((UInt8.ofNat (48 + n / 10 % 10)).toNat : Int) = 48 + (n : Int) / 10 % 10 := by simp; omega
    have e2 : ((UInt8.ofNat (48 + n % 10)).toNat : Int) = 48 + (n : Int) % 10 := by simp; omega
    simp only [codeP, bvs, bv, List.map_cons, List.map_nil, e0, e1, e2]
  have rs : (convert 24 9 (.slice (some ⟨w.heap.size, 0, none⟩) 3 3)).run Tryd.prog (w.alloc (.cells #[.int .u8 (48 + (n : Int) / 100), .int .u8 (48 + (n : Int) / 10 % 10), .int .u8 (48 + (n : Int) % 10)] 5)) = .ok (.string cv) (w.alloc (.cells #[.int .u8 (48 + (n : Int) / 100), .int .u8 (48 + (n : Int) / 10 % 10), .int .u8 (48 + (n : Int) % 10)] 5)) := by
    rw [hcv, ← hrow]
    exact run_str8 (reads_block (l := codeP n) (n := 3) (heap_alloc_new w _) rfl) 3
  have NB : Hid (Below w.heap.size w (w.alloc (.cells #[.int .u8 (48 + (n : Int) / 100), .int .u8 (48 + (n : Int) / 10 % 10), .int .u8 (48 + (n : Int) % 10)] 5))) := (Below.refl _ w).alloc (Nat.le_refl _) _
  have d0 : (0 : Int) ≤ (n : Int) / 100 := by omega
  have d1 : (n : Int) / 100 ≤ 9 := by omega
  have d2 : (0 : Int) ≤ (n : Int) / 10 % 10 := by omega
  have d3 : (n : Int) / 10 % 10 ≤ 9 := by omega
  have d4 : (0 : Int) ≤ (n : Int) % 10 := by omega
  have d5 : (n : Int) % 10 ≤ 9 := by omega
  have t1 : ¬ (9223372036854775807 < 9 + cv.size) := by omega
  have t2 : ¬ (9223372036854775807 < 9 + cv.size + 1) := by omega
  have t3 : ¬ (9223372036854775807 < 9 + cv.size + 1 + rv.size) := by omega
  have t4 : ¬ (9223372036854775807 < 9 + cv.size + 1 + rv.size + 18) := by omega
  have t5 : ¬ (9223372036854775807 < 9 + cv.size + 1 + rv.size + 18 + dv.size) := by omega
  have t6 : ¬ (9223372036854775807 < 9 + cv.size + 1 + rv.size + 18 + dv.size + 2) := by omega
  obtain ⟨sv, hS⟩ : ∃ sv : ByteArray, (⟨#[72, 84, 84, 80, 47, 49, 46, 49, 32]⟩ : ByteArray) ++ cv ++ ⟨#[32]⟩ ++ rv ++ ⟨#[13, 10, 99, 111, 110, 116, 101, 110, 116, 45, 108, 101, 110, 103, 116, 104, 58, 32]⟩ ++ dv ++ ⟨#[13, 10]⟩ = sv := ⟨_, rfl⟩
  obtain ⟨P, hP⟩ : ∃ P, P = preP n st m := ⟨_, rfl⟩
  have hSP : sv = ⟨P.toArray⟩ := by
    rw [← hS, hcv, hrv, hdv, hP]
    unfold preP
    rw [← bapp, ← bapp, ← bapp, ← bapp, ← bapp, ← bapp]
  have hPl : P.length ≤ 200 := by rw [hP, ← hcn]; exact preP_len st m hl
  have sv2 : sv.size ≤ 200 := by rw [hSP]; simpa [ByteArray.size] using hPl
  have t7 : ¬ (9223372036854775807 < sv.size + 19) := by omega
  have t8 : ¬ (9223372036854775807 < sv.size + 19 + 2) := by omega
  obtain ⟨zv, hZ⟩ : ∃ zv : ByteArray, sv ++ ⟨#[99, 111, 110, 110, 101, 99, 116, 105, 111, 110, 58, 32, 99, 108, 111, 115, 101, 13, 10]⟩ ++ ⟨#[13, 10]⟩ = zv := ⟨_, rfl⟩
  obtain ⟨Z, hZl⟩ : ∃ Z, Z = P ++ closeL ++ [13, 10] := ⟨_, rfl⟩
  have hZP : zv = ⟨Z.toArray⟩ := by
    rw [← hZ, hSP, hZl, ← bapp, ← bapp]
    rfl
  have OT : Hid (∀ w2 : World, OwnT (Lib.bytesWorld w2 5 zv) w2.heap.size (.slice (some ⟨w2.heap.size, 0, none⟩) zv.size (grownCap w2 zv.size 0 5)) Z) := by
    intro w2
    rw [hZP]
    exact ownT_bytes w2 Z (by rw [hZl]; simp [closeL, maxLen]; omega)
  have BW : Hid (∀ w2 : World, Below w2.heap.size w2 (Lib.bytesWorld w2 5 zv)) := by
    intro w2
    refine ⟨?_, ?_, ?_, by rw [Lib.bytesWorld_size]; omega, fun k hk => Lib.bytesWorld_at_old w2 _ _ k hk⟩
    all_goals (unfold Lib.bytesWorld World.freeze; rw [if_neg (by decide)]; rfl)
  have hconv := fun w2 => Lib.run_convert_string_bytes (P := Tryd.prog) w2 9 24 5 zv (u := .string) Tryd.underlying9 Tryd.underlying24 Tryd.underlying5
  have hml : m = l.length := hm
  have RES : Hid (respP (codeN st) st l true = Z ++ l) := by show _ = _; rw [hZl, hP, hcn, hml]; unfold respP; rfl
  have RL : Hid (Z.length + m ≤ 140737488355328) := by show _ ≤ _; rw [hZl]; simp [closeL]; omega
  clear hr hcn n1 hm hrv hrs hdv hds hcv hrow hSP hP hPl hZP hZl hml
  have qn : decide ((n : Int) < 0) = false := by simp
  go_enter Tryd.func16, Tryd.ntmps16
  go_wp2_with (first
    | (go_at_call 20; go_must (refine (rReason_any st _).mono ?_; rintro e w3 ⟨rfl, rfl⟩; rw [← HRV.out]))
    | (go_at_call 11; go_must (refine (decimal_any m (by omega) _).mono ?_; rintro e w2 ⟨rfl, hb⟩; rw [← HDV.out]; have HB2 := Lib.hid (NB.out.trans (hb.mono NB.out.size)); have HB3 := Lib.hid (HB2.out.trans ((BW.out w2).mono HB2.out.size)); clear hb))
    | (at_builtin; go_must (refine appT (l := Z) (news := l) (base := w2.heap.size) (B := w.heap.size) rfl rfl rfl rfl (OT.out w2) (HR.out.below HB3.out) RL.out (BW.out w2).size ?_; intro v5 w5 ho hg hx; obtain ⟨g5, c5, hv5, hb5, hr5⟩ := ho.reads; subst hv5; have R5 := Lib.hid hr5; have B5 := Lib.hid (Below.grown HB3.out hg HB3.out.size (fun j hj => by cases hj; exact HB2.out.size)); clear ho hg hx hb5 hr5)))
  go_ret
  rw [RES.out]
  exact ⟨_, c5, by rw [List.length_append, ← HM.out]; rfl, R5.out, B5.out⟩
set_option maxRecDepth 100000 in
set_option maxHeartbeats 2000000 in
theorem rRespondNo (st : Int) (A : Option Addr) (c : Nat) (l : List UInt8) (w : World) (hr : Reads w w.heap.size 1 A l.length (bvs l)) (hl : l.length ≤ 140737488351232) (n : Nat) (hq : st.tmod 1000 = -(n : Int)) (n1 : n < 1000) (n0 : 0 < n) :
    Calls Tryd.prog 16 #[.int .i64 st, .slice A l.length c, .bool false] w (RPost (respP (codeN st) st l false) w) := by
  have hcn : codeN st = n := by unfold codeN; rw [hq]; omega
  obtain ⟨m, hm⟩ : ∃ m, m = l.length := ⟨_, rfl⟩
  have HR := Lib.hid hr
  have HL := Lib.hid hl
  have HM := Lib.hid hm
  rw [← hm] at hl HR ⊢
  have hlI : (m : Int) ≤ 140737488351232 := by omega
  have n0I : (0 : Int) ≤ (n : Int) := by omega
  have n1I : (n : Int) ≤ 999 := by omega
  obtain ⟨rv, hrv⟩ : ∃ rv : ByteArray, rv = ⟨(reasonP st).toArray⟩ := ⟨_, rfl⟩
  have hrs : rv.size = (reasonP st).length := by rw [hrv]; simp [ByteArray.size]
  have rs40 : rv.size ≤ 40 := by rw [hrs]; exact reasonP_len st
  have HRV := Lib.hid hrv
  obtain ⟨dv, hdv⟩ : ∃ dv : ByteArray, dv = ⟨(Lib.decDigits m).toArray⟩ := ⟨_, rfl⟩
  have hds : dv.size = (Lib.decDigits m).length := by rw [hdv]; simp [ByteArray.size]
  have ds20 : dv.size ≤ 20 := by rw [hds]; have := decDigits_len 15 m (by omega); omega
  have HDV := Lib.hid hdv
  obtain ⟨cv, hcv⟩ : ∃ cv : ByteArray, cv = ⟨(codeP n).toArray⟩ := ⟨_, rfl⟩
  have cs3 : cv.size ≤ 3 := by rw [hcv]; simp [ByteArray.size, codeP]
  have hrow : (bvs (codeP n)).toArray = #[.int .u8 (48 + (n : Int) / 100), .int .u8 (48 + (n : Int) / 10 % 10), .int .u8 (48 + (n : Int) % 10)] := by
    have e0 : ((UInt8.ofNat (48 + n / 100)).toNat : Int) = 48 + (n : Int) / 100 := by simp; omega
    have e1 : ((UInt8.ofNat (48 + n / 10 % 10)).toNat : Int) = 48 + (n : Int) / 10 % 10 := by simp; omega
    have e2 : ((UInt8.ofNat (48 + n % 10)).toNat : Int) = 48 + (n : Int) % 10 := by simp; omega
    simp only [codeP, bvs, bv, List.map_cons, List.map_nil, e0, e1, e2]
  have rs : (convert 24 9 (.slice (some ⟨w.heap.size, 0, none⟩) 3 3)).run Tryd.prog (w.alloc (.cells #[.int .u8 (48 + (n : Int) / 100), .int .u8 (48 + (n : Int) / 10 % 10), .int .u8 (48 + (n : Int) % 10)] 5)) = .ok (.string cv) (w.alloc (.cells #[.int .u8 (48 + (n : Int) / 100), .int .u8 (48 + (n : Int) / 10 % 10), .int .u8 (48 + (n : Int) % 10)] 5)) := by
    rw [hcv, ← hrow]
    exact run_str8 (reads_block (l := codeP n) (n := 3) (heap_alloc_new w _) rfl) 3
  have NB : Hid (Below w.heap.size w (w.alloc (.cells #[.int .u8 (48 + (n : Int) / 100), .int .u8 (48 + (n : Int) / 10 % 10), .int .u8 (48 + (n : Int) % 10)] 5))) := (Below.refl _ w).alloc (Nat.le_refl _) _
  have d0 : (0 : Int) ≤ (n : Int) / 100 := by omega
  have d1 : (n : Int) / 100 ≤ 9 := by omega
  have d2 : (0 : Int) ≤ (n : Int) / 10 % 10 := by omega
  have d3 : (n : Int) / 10 % 10 ≤ 9 := by omega
  have d4 : (0 : Int) ≤ (n : Int) % 10 := by omega
  have d5 : (n : Int) % 10 ≤ 9 := by omega
  have t1 : ¬ (9223372036854775807 < 9 + cv.size) := by omega
  have t2 : ¬ (9223372036854775807 < 9 + cv.size + 1) := by omega
  have t3 : ¬ (9223372036854775807 < 9 + cv.size + 1 + rv.size) := by omega
  have t4 : ¬ (9223372036854775807 < 9 + cv.size + 1 + rv.size + 18) := by omega
  have t5 : ¬ (9223372036854775807 < 9 + cv.size + 1 + rv.size + 18 + dv.size) := by omega
  have t6 : ¬ (9223372036854775807 < 9 + cv.size + 1 + rv.size + 18 + dv.size + 2) := by omega
  obtain ⟨sv, hS⟩ : ∃ sv : ByteArray, (⟨#[72, 84, 84, 80, 47, 49, 46, 49, 32]⟩ : ByteArray) ++ cv ++ ⟨#[32]⟩ ++ rv ++ ⟨#[13, 10, 99, 111, 110, 116, 101, 110, 116, 45, 108, 101, 110, 103, 116, 104, 58, 32]⟩ ++ dv ++ ⟨#[13, 10]⟩ = sv := ⟨_, rfl⟩
  obtain ⟨P, hP⟩ : ∃ P, P = preP n st m := ⟨_, rfl⟩
  have hSP : sv = ⟨P.toArray⟩ := by
    rw [← hS, hcv, hrv, hdv, hP]
    unfold preP
    rw [← bapp, ← bapp, ← bapp, ← bapp, ← bapp, ← bapp]
  have hPl : P.length ≤ 200 := by rw [hP, ← hcn]; exact preP_len st m hl
  have sv2 : sv.size ≤ 200 := by rw [hSP]; simpa [ByteArray.size] using hPl
  have t8 : ¬ (9223372036854775807 < sv.size + 2) := by omega
  obtain ⟨zv, hZ⟩ : ∃ zv : ByteArray, sv ++ ⟨#[13, 10]⟩ = zv := ⟨_, rfl⟩
  obtain ⟨Z, hZl⟩ : ∃ Z, Z = P ++ [13, 10] := ⟨_, rfl⟩
  have hZP : zv = ⟨Z.toArray⟩ := by
    rw [← hZ, hSP, hZl, ← bapp]
  have OT : Hid (∀ w2 : World, OwnT (Lib.bytesWorld w2 5 zv) w2.heap.size (.slice (some ⟨w2.heap.size, 0, none⟩) zv.size (grownCap w2 zv.size 0 5)) Z) := by
    intro w2
    rw [hZP]
    exact ownT_bytes w2 Z (by rw [hZl]; simp [maxLen]; omega)
  have BW : Hid (∀ w2 : World, Below w2.heap.size w2 (Lib.bytesWorld w2 5 zv)) := by
    intro w2
    refine ⟨?_, ?_, ?_, by rw [Lib.bytesWorld_size]; omega, fun k hk => Lib.bytesWorld_at_old w2 _ _ k hk⟩
    all_goals (unfold Lib.bytesWorld World.freeze; rw [if_neg (by decide)]; rfl)
  have hconv := fun w2 => Lib.run_convert_string_bytes (P := Tryd.prog) w2 9 24 5 zv (u := .string) Tryd.underlying9 Tryd.underlying24 Tryd.underlying5
  have hml : m = l.length := hm
  have RES : Hid (respP (codeN st) st l false = Z ++ l) := by show _ = _; rw [hZl, hP, hcn, hml]; unfold respP; simp
  have RL : Hid (Z.length + m ≤ 140737488355328) := by show _ ≤ _; rw [hZl]; simp; omega
  clear hr hcn n1 hm hrv hrs hdv hds hcv hrow hSP hP hPl hZP hZl hml 
  have qn : decide (-(n : Int) < 0) = true := by simp; omega
  have qm : decide ((0 : Int) < (n : Int)) = true := by simp; omega
  go_enter Tryd.func16, Tryd.ntmps16
  go_wp2_with (first
    | (go_at_call 20; go_must (refine (rReason_any st _).mono ?_; rintro e w3 ⟨rfl, rfl⟩; rw [← HRV.out]))
    | (go_at_call 11; go_must (refine (decimal_any m (by omega) _).mono ?_; rintro e w2 ⟨rfl, hb⟩; rw [← HDV.out]; have HB2 := Lib.hid (NB.out.trans (hb.mono NB.out.size)); have HB3 := Lib.hid (HB2.out.trans ((BW.out w2).mono HB2.out.size)); clear hb))
    | (at_builtin; go_must (refine appT (l := Z) (news := l) (base := w2.heap.size) (B := w.heap.size) rfl rfl rfl rfl (OT.out w2) (HR.out.below HB3.out) RL.out (BW.out w2).size ?_; intro v5 w5 ho hg hx; obtain ⟨g5, c5, hv5, hb5, hr5⟩ := ho.reads; subst hv5; have R5 := Lib.hid hr5; have B5 := Lib.hid (Below.grown HB3.out hg HB3.out.size (fun j hj => by cases hj; exact HB2.out.size)); clear ho hg hx hb5 hr5)))
  go_ret
  rw [RES.out]
  exact ⟨_, c5, by rw [List.length_append, ← HM.out]; rfl, R5.out, B5.out⟩
set_option maxRecDepth 100000 in
set_option maxHeartbeats 2000000 in
theorem rRespondNc (st : Int) (A : Option Addr) (c : Nat) (l : List UInt8) (w : World) (hr : Reads w w.heap.size 1 A l.length (bvs l)) (hl : l.length ≤ 140737488351232) (n : Nat) (hq : st.tmod 1000 = -(n : Int)) (n1 : n < 1000) (n0 : 0 < n) :
    Calls Tryd.prog 16 #[.int .i64 st, .slice A l.length c, .bool true] w (RPost (respP (codeN st) st l true) w) := by
  have hcn : codeN st = n := by unfold codeN; rw [hq]; omega
  obtain ⟨m, hm⟩ : ∃ m, m = l.length := ⟨_, rfl⟩
  have HR := Lib.hid hr
  have HL := Lib.hid hl
  have HM := Lib.hid hm
  rw [← hm] at hl HR ⊢
  have hlI : (m : Int) ≤ 140737488351232 := by omega
  have n0I : (0 : Int) ≤ (n : Int) := by omega
  have n1I : (n : Int) ≤ 999 := by omega
  obtain ⟨rv, hrv⟩ : ∃ rv : ByteArray, rv = ⟨(reasonP st).toArray⟩ := ⟨_, rfl⟩
  have hrs : rv.size = (reasonP st).length := by rw [hrv]; simp [ByteArray.size]
  have rs40 : rv.size ≤ 40 := by rw [hrs]; exact reasonP_len st
  have HRV := Lib.hid hrv
  obtain ⟨dv, hdv⟩ : ∃ dv : ByteArray, dv = ⟨(Lib.decDigits m).toArray⟩ := ⟨_, rfl⟩
  have hds : dv.size = (Lib.decDigits m).length := by rw [hdv]; simp [ByteArray.size]
  have ds20 : dv.size ≤ 20 := by rw [hds]; have := decDigits_len 15 m (by omega); omega
  have HDV := Lib.hid hdv
  obtain ⟨cv, hcv⟩ : ∃ cv : ByteArray, cv = ⟨(codeP n).toArray⟩ := ⟨_, rfl⟩
  have cs3 : cv.size ≤ 3 := by rw [hcv]; simp [ByteArray.size, codeP]
  have hrow : (bvs (codeP n)).toArray = #[.int .u8 (48 + (n : Int) / 100), .int .u8 (48 + (n : Int) / 10 % 10), .int .u8 (48 + (n : Int) % 10)] := by
    have e0 : ((UInt8.ofNat (48 + n / 100)).toNat : Int) = 48 + (n : Int) / 100 := by simp; omega
    have e1 : ((UInt8.ofNat (48 + n / 10 % 10)).toNat : Int) = 48 + (n : Int) / 10 % 10 := by simp; omega
    have e2 : ((UInt8.ofNat (48 + n % 10)).toNat : Int) = 48 + (n : Int) % 10 := by simp; omega
    simp only [codeP, bvs, bv, List.map_cons, List.map_nil, e0, e1, e2]
  have rs : (convert 24 9 (.slice (some ⟨w.heap.size, 0, none⟩) 3 3)).run Tryd.prog (w.alloc (.cells #[.int .u8 (48 + (n : Int) / 100), .int .u8 (48 + (n : Int) / 10 % 10), .int .u8 (48 + (n : Int) % 10)] 5)) = .ok (.string cv) (w.alloc (.cells #[.int .u8 (48 + (n : Int) / 100), .int .u8 (48 + (n : Int) / 10 % 10), .int .u8 (48 + (n : Int) % 10)] 5)) := by
    rw [hcv, ← hrow]
    exact run_str8 (reads_block (l := codeP n) (n := 3) (heap_alloc_new w _) rfl) 3
  have NB : Hid (Below w.heap.size w (w.alloc (.cells #[.int .u8 (48 + (n : Int) / 100), .int .u8 (48 + (n : Int) / 10 % 10), .int .u8 (48 + (n : Int) % 10)] 5))) := (Below.refl _ w).alloc (Nat.le_refl _) _
  have d0 : (0 : Int) ≤ (n : Int) / 100 := by omega
  have d1 : (n : Int) / 100 ≤ 9 := by omega
  have d2 : (0 : Int) ≤ (n : Int) / 10 % 10 := by omega
  have d3 : (n : Int) / 10 % 10 ≤ 9 := by omega
  have d4 : (0 : Int) ≤ (n : Int) % 10 := by omega
  have d5 : (n : Int) % 10 ≤ 9 := by omega
  have t1 : ¬ (9223372036854775807 < 9 + cv.size) := by omega
  have t2 : ¬ (9223372036854775807 < 9 + cv.size + 1) := by omega
  have t3 : ¬ (9223372036854775807 < 9 + cv.size + 1 + rv.size) := by omega
  have t4 : ¬ (9223372036854775807 < 9 + cv.size + 1 + rv.size + 18) := by omega
  have t5 : ¬ (9223372036854775807 < 9 + cv.size + 1 + rv.size + 18 + dv.size) := by omega
  have t6 : ¬ (9223372036854775807 < 9 + cv.size + 1 + rv.size + 18 + dv.size + 2) := by omega
  obtain ⟨sv, hS⟩ : ∃ sv : ByteArray, (⟨#[72, 84, 84, 80, 47, 49, 46, 49, 32]⟩ : ByteArray) ++ cv ++ ⟨#[32]⟩ ++ rv ++ ⟨#[13, 10, 99, 111, 110, 116, 101, 110, 116, 45, 108, 101, 110, 103, 116, 104, 58, 32]⟩ ++ dv ++ ⟨#[13, 10]⟩ = sv := ⟨_, rfl⟩
  obtain ⟨P, hP⟩ : ∃ P, P = preP n st m := ⟨_, rfl⟩
  have hSP : sv = ⟨P.toArray⟩ := by
    rw [← hS, hcv, hrv, hdv, hP]
    unfold preP
    rw [← bapp, ← bapp, ← bapp, ← bapp, ← bapp, ← bapp]
  have hPl : P.length ≤ 200 := by rw [hP, ← hcn]; exact preP_len st m hl
  have sv2 : sv.size ≤ 200 := by rw [hSP]; simpa [ByteArray.size] using hPl
  have t7 : ¬ (9223372036854775807 < sv.size + 19) := by omega
  have t8 : ¬ (9223372036854775807 < sv.size + 19 + 2) := by omega
  obtain ⟨zv, hZ⟩ : ∃ zv : ByteArray, sv ++ ⟨#[99, 111, 110, 110, 101, 99, 116, 105, 111, 110, 58, 32, 99, 108, 111, 115, 101, 13, 10]⟩ ++ ⟨#[13, 10]⟩ = zv := ⟨_, rfl⟩
  obtain ⟨Z, hZl⟩ : ∃ Z, Z = P ++ closeL ++ [13, 10] := ⟨_, rfl⟩
  have hZP : zv = ⟨Z.toArray⟩ := by
    rw [← hZ, hSP, hZl, ← bapp, ← bapp]
    rfl
  have OT : Hid (∀ w2 : World, OwnT (Lib.bytesWorld w2 5 zv) w2.heap.size (.slice (some ⟨w2.heap.size, 0, none⟩) zv.size (grownCap w2 zv.size 0 5)) Z) := by
    intro w2
    rw [hZP]
    exact ownT_bytes w2 Z (by rw [hZl]; simp [closeL, maxLen]; omega)
  have BW : Hid (∀ w2 : World, Below w2.heap.size w2 (Lib.bytesWorld w2 5 zv)) := by
    intro w2
    refine ⟨?_, ?_, ?_, by rw [Lib.bytesWorld_size]; omega, fun k hk => Lib.bytesWorld_at_old w2 _ _ k hk⟩
    all_goals (unfold Lib.bytesWorld World.freeze; rw [if_neg (by decide)]; rfl)
  have hconv := fun w2 => Lib.run_convert_string_bytes (P := Tryd.prog) w2 9 24 5 zv (u := .string) Tryd.underlying9 Tryd.underlying24 Tryd.underlying5
  have hml : m = l.length := hm
  have RES : Hid (respP (codeN st) st l true = Z ++ l) := by show _ = _; rw [hZl, hP, hcn, hml]; unfold respP; rfl
  have RL : Hid (Z.length + m ≤ 140737488355328) := by show _ ≤ _; rw [hZl]; simp [closeL]; omega
  clear hr hcn n1 hm hrv hrs hdv hds hcv hrow hSP hP hPl hZP hZl hml 
  have qn : decide (-(n : Int) < 0) = true := by simp; omega
  have qm : decide ((0 : Int) < (n : Int)) = true := by simp; omega
  go_enter Tryd.func16, Tryd.ntmps16
  go_wp2_with (first
    | (go_at_call 20; go_must (refine (rReason_any st _).mono ?_; rintro e w3 ⟨rfl, rfl⟩; rw [← HRV.out]))
    | (go_at_call 11; go_must (refine (decimal_any m (by omega) _).mono ?_; rintro e w2 ⟨rfl, hb⟩; rw [← HDV.out]; have HB2 := Lib.hid (NB.out.trans (hb.mono NB.out.size)); have HB3 := Lib.hid (HB2.out.trans ((BW.out w2).mono HB2.out.size)); clear hb))
    | (at_builtin; go_must (refine appT (l := Z) (news := l) (base := w2.heap.size) (B := w.heap.size) rfl rfl rfl rfl (OT.out w2) (HR.out.below HB3.out) RL.out (BW.out w2).size ?_; intro v5 w5 ho hg hx; obtain ⟨g5, c5, hv5, hb5, hr5⟩ := ho.reads; subst hv5; have R5 := Lib.hid hr5; have B5 := Lib.hid (Below.grown HB3.out hg HB3.out.size (fun j hj => by cases hj; exact HB2.out.size)); clear ho hg hx hb5 hr5)))
  go_ret
  rw [RES.out]
  exact ⟨_, c5, by rw [List.length_append, ← HM.out]; rfl, R5.out, B5.out⟩
theorem rRespond_any (st : Int) (A : Option Addr) (c : Nat) (l : List UInt8) (cl : Bool) (w : World) (hr : Reads w w.heap.size 1 A l.length (bvs l)) (hl : l.length ≤ 140737488351232) :
    Calls Tryd.prog 16 #[.int .i64 st, .slice A l.length c, .bool cl] w (RPost (respP (codeN st) st l cl) w) := by
  have h1 := Int.lt_tmod_of_pos st (b := 1000) (by decide)
  have h2 := Int.tmod_lt_of_pos st (b := 1000) (by decide)
  by_cases h : 0 ≤ st.tmod 1000
  · obtain ⟨n, hn⟩ : ∃ n : Nat, st.tmod 1000 = (n : Int) := ⟨(st.tmod 1000).toNat, by omega⟩
    cases cl
    · exact rRespondPo st A c l w hr hl n hn (by omega)
    · exact rRespondPc st A c l w hr hl n hn (by omega)
  · obtain ⟨n, hn⟩ : ∃ n : Nat, st.tmod 1000 = -(n : Int) := ⟨(-(st.tmod 1000)).toNat, by omega⟩
    cases cl
    · exact rRespondNo st A c l w hr hl n hn (by omega) (by omega)
    · exact rRespondNc st A c l w hr hl n hn (by omega) (by omega)
end Go.Proofs.YtjichadkonlfpaaDoor
