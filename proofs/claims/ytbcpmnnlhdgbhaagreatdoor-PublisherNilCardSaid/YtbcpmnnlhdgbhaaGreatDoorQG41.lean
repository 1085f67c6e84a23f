/- The texts PL1 of this work, merged by wip/merge.py. No conditions. -/
import Derived.Test.YtbcpmnnlhdgbhaaGreatDoorQG40
namespace Go.Proofs.YtbcpmnnlhdgbhaaGreatDoor
open Go.RowKit Go.Lib
set_option maxRecDepth 100000 in
set_option maxHeartbeats 4000000 in
theorem publisherNil_walk (n : Int) (s : ByteArray) (w : World) (hw : NW w kR256 kR512) : Calls Tryz.prog 3 #[.int .i64 n, .string s] w (fun e w' => e = .returned (.bool true) ∧ Below w.heap.size w w') := by
  have F0 := Lib.hid (BK.start w)
  have T0 : Hid True := trivial
  obtain ⟨z32, hz⟩ : ∃ z, z = List.replicate 32 (0 : UInt8) := ⟨_, rfl⟩
  have B32 : Hid ((Tryz.prog).built 31 [] = some (bvs z32).toArray) := by show _ = _; rw [hz]; kernel_rfl
  obtain ⟨kz, hkz⟩ : ∃ z, z = keyZ := ⟨_, rfl⟩
  obtain ⟨rz, hrz⟩ : ∃ z, z = rootZ0 := ⟨_, rfl⟩
  have OR : rootZ0.ok := ⟨by decide, by decide, by decide, by decide, by decide, by decide, by decide⟩
  have BKZ : Hid ((Tryz.prog).built 38 [] = some kz.cs) := by rw [hkz]; exact built_keys0
  have BRZ : Hid ((Tryz.prog).built 34 [] = some rz.cs) := by rw [hrz]; exact built_rootZ
  have XK : Hid (∀ w, (binOp .eql 38 (.agg kz.cs) (.agg kz.cs)).run Tryz.prog w = .ok (.bool true) w) := fun w => by rw [hkz]; exact bin_keys keyZ_ok w
  have XR : Hid (∀ w, (binOp .eql 34 (.agg rz.cs) (.agg rz.cs)).run Tryz.prog w = .ok (.bool true) w) := fun w => by rw [hrz]; exact bin_root OR w
  have CK : Hid (∀ w, Calls Tryz.prog 17 #[.pointer none] w (KRet kz w)) := fun w => by rw [hkz]; exact PFirst_nil w
  have CR : Hid (∀ w, Calls Tryz.prog 14 #[.pointer none] w (RootRet rz w)) := fun w => by rw [hrz]; exact PRoot_nil w
  have BU : Hid ((Tryz.prog).built 29 [(0, .string s)] = some #[.string s, .slice none 0 0]) := built_updS s
  have CA : Hid (Calls Tryz.prog 4 #[] w (fun e w' => e = .returned (.bool true) ∧ Below w.heap.size w w')) := awake_any kR256 kR512 w hw
  clear hw hz hkz hrz OR
  go_enter Tryz.func3, Tryz.ntmps3
  go_wp2_with (first
    | (go_at_call 4; have hx_ := T0; refine (CA.out).mono ?_; clear hx_ T0; rintro e w1 ⟨rfl, hb⟩; have F1 := Lib.hid (F0.out.later hb); clear hb F0 CA; have T1 : Hid True := trivial)
    | (have hx_ := T1; refine s_build rfl rfl (ps := [(0, .string s)]) rfl BU.out ?_; clear hx_ T1; have T2 : Hid True := trivial)
    | (go_at_call 5; have hx_ := T2; refine (PSubmit_nil s _).mono ?_; clear hx_ T2; rintro e w2 ⟨rfl, hb⟩; have F2 := Lib.hid (F1.out.later hb); clear hb F1; have T3 : Hid True := trivial)
    | (go_at_call 6; have hx_ := T3; refine (PTick_nil n _).mono ?_; clear hx_ T3; rintro e w3 ⟨Z3, hZ, he, hb⟩; have F3 := Lib.hid (F2.out.later hb); clear hb F2; have he' : e = .returned (.tuple #[.agg Z3, .bool false, .int .i64 1]) := he; subst he'; clear he; have Z1_3 := Lib.hid hZ.1; have I1_3 := Lib.hid hZ.2.2.1; have O1_3 := Lib.hid hZ.2.2.2; clear hZ; have T4 : Hid True := trivial)
    | (have hx_ := T4; refine s_alloc F3.out rfl rfl Z1_3.out rfl ?_; clear hx_ T4; intro w4 b1 h1 _; have F4 := Lib.hid h1; clear h1 F3 Z1_3; have T5 : Hid True := trivial)
    | (have hx_ := T5; refine s_store F4.out rfl rfl 0 rfl rfl Z3 rfl rfl I1_3.out O1_3.out ?_; clear hx_ T5; intro w5 h1; have F5 := Lib.hid h1; clear h1 F4 I1_3 O1_3; have T6 : Hid True := trivial)
    | (have hx_ := T6; refine s_build rfl (parts := []) rfl (ps := []) rfl B32.out ?_; clear hx_ T6; have T7 : Hid True := trivial)
    | (go_at_call 7; have hx_ := T7; refine (PRotate_nil z32 _).mono ?_; clear hx_ T7; rintro e w6 ⟨Z6, hZ, he, hb⟩; have F6 := Lib.hid (F5.out.later hb); clear hb F5; have he' : e = .returned (.tuple #[.agg Z6, .int .i64 1]) := he; subst he'; clear he; have Z1_6 := Lib.hid hZ.1; have I1_6 := Lib.hid hZ.2.2.1; have O1_6 := Lib.hid hZ.2.2.2; clear hZ; have T8 : Hid True := trivial)
    | (have hx_ := T8; refine s_alloc F6.out rfl rfl Z1_6.out rfl ?_; clear hx_ T8; intro w7 b2 h1 _; have F7 := Lib.hid h1; clear h1 F6 Z1_6; have T9 : Hid True := trivial)
    | (have hx_ := T9; refine s_store F7.out rfl rfl 0 rfl rfl Z6 rfl rfl I1_6.out O1_6.out ?_; clear hx_ T9; intro w8 h1; have F8 := Lib.hid h1; clear h1 F7 I1_6 O1_6; have T10 : Hid True := trivial)
    | (go_at_call 8; have hx_ := T10; refine (PLookup_nil s _).mono ?_; clear hx_ T10; rintro e w9 ⟨Z9, hZ, he, hb⟩; have F9 := Lib.hid (F8.out.later hb); clear hb F8; have he' : e = .returned (.tuple #[.agg Z9, .int .i64 1]) := he; subst he'; clear he; have Z1_9 := Lib.hid hZ.1; have I1_9 := Lib.hid hZ.2.2.1; have O1_9 := Lib.hid hZ.2.2.2; clear hZ; have T11 : Hid True := trivial)
    | (have hx_ := T11; refine s_alloc F9.out rfl rfl Z1_9.out rfl ?_; clear hx_ T11; intro w10 b3 h1 _; have F10 := Lib.hid h1; clear h1 F9 Z1_9; have T12 : Hid True := trivial)
    | (have hx_ := T12; refine s_store F10.out rfl rfl 0 rfl rfl Z9 rfl rfl I1_9.out O1_9.out ?_; clear hx_ T12; intro w11 h1; have F11 := Lib.hid h1; clear h1 F10 I1_9 O1_9; have T13 : Hid True := trivial)
    | (go_at_call 9; have hx_ := T13; refine (PHistory_nil s _).mono ?_; clear hx_ T13; rintro e w12 ⟨Z12, hZ, he, hb⟩; have F12 := Lib.hid (F11.out.later hb); clear hb F11; have he' : e = .returned (.tuple #[.agg Z12, .int .i64 1]) := he; subst he'; clear he; have Z1_12 := Lib.hid hZ.1; have I1_12 := Lib.hid hZ.2.2.1; have O1_12 := Lib.hid hZ.2.2.2; clear hZ; have T14 : Hid True := trivial)
    | (have hx_ := T14; refine s_alloc F12.out rfl rfl Z1_12.out rfl ?_; clear hx_ T14; intro w13 b4 h1 _; have F13 := Lib.hid h1; clear h1 F12 Z1_12; have T15 : Hid True := trivial)
    | (have hx_ := T15; refine s_store F13.out rfl rfl 0 rfl rfl Z12 rfl rfl I1_12.out O1_12.out ?_; clear hx_ T15; intro w14 h1; have F14 := Lib.hid h1; clear h1 F13 I1_12 O1_12; have T16 : Hid True := trivial)
    | (go_at_call 10; have hx_ := T16; refine (PStep_nil _ _).mono ?_; clear hx_ T16; rintro e w15 ⟨Z15, hZ, he, hb⟩; have F15 := Lib.hid (F14.out.later hb); clear hb F14; have he' : e = .returned (.tuple #[.agg Z15, .int .i64 1]) := he; subst he'; clear he; have Z1_15 := Lib.hid hZ.1; have I1_15 := Lib.hid hZ.2.2.1; have O1_15 := Lib.hid hZ.2.2.2; clear hZ; have T17 : Hid True := trivial)
    | (have hx_ := T17; refine s_alloc F15.out rfl rfl Z1_15.out rfl ?_; clear hx_ T17; intro w16 b5 h1 _; have F16 := Lib.hid h1; clear h1 F15 Z1_15; have T18 : Hid True := trivial)
    | (have hx_ := T18; refine s_store F16.out rfl rfl 0 rfl rfl Z15 rfl rfl I1_15.out O1_15.out ?_; clear hx_ T18; intro w17 h1; have F17 := Lib.hid h1; clear h1 F16 I1_15 O1_15; have T19 : Hid True := trivial)
    | (go_at_call 11; have hx_ := T19; refine (PDevices_nil s _).mono ?_; clear hx_ T19; rintro e w18 ⟨rfl, he⟩; subst he; have T20 : Hid True := trivial)
    | (have hx_ := T20; refine s_build rfl (parts := []) rfl (ps := []) rfl B32.out ?_; clear hx_ T20; have T21 : Hid True := trivial)
    | (go_at_call 12; have hx_ := T21; refine (POpen_nil z32 _).mono ?_; clear hx_ T21; rintro e w19 ⟨rfl, hb⟩; have F18 := Lib.hid (F17.out.later hb); clear hb F17; have T22 : Hid True := trivial)
    | (go_at_call 13; have hx_ := T22; refine (PQueue_nil _).mono ?_; clear hx_ T22; rintro e w20 ⟨rfl, he⟩; subst he; have T23 : Hid True := trivial)
    | (go_at_call 14; have hx_ := T23; refine (CR.out _).mono ?_; clear hx_ T23; rintro e w21 ⟨rfl, hb⟩; have F19 := Lib.hid (F18.out.later hb); clear hb F18; have T24 : Hid True := trivial)
    | (have hx_ := T24; refine s_buildW rfl (parts := []) rfl (ps := []) rfl BRZ.out ?_; clear hx_ T24; have T25 : Hid True := trivial)
    | (have hx_ := T25; refine s_sameW rfl rfl rz.cs rfl rfl (by kernel_rfl) (XR.out _) ?_; clear hx_ T25; have T26 : Hid True := trivial)
    | (go_at_call 15; have hx_ := T26; refine (PMoving_nil _).mono ?_; clear hx_ T26; rintro e w22 ⟨rfl, he⟩; subst he; have T27 : Hid True := trivial)
    | (go_at_call 16; have hx_ := T27; refine (PCerts_nil _).mono ?_; clear hx_ T27; rintro e w23 ⟨rfl, he⟩; subst he; have T28 : Hid True := trivial)
    | (go_at_call 17; have hx_ := T28; refine (CK.out _).mono ?_; clear hx_ T28; rintro e w24 ⟨rfl, hb⟩; have F20 := Lib.hid (F19.out.later hb); clear hb F19; have T29 : Hid True := trivial)
    | (have hx_ := T29; refine s_buildW rfl (parts := []) rfl (ps := []) rfl BKZ.out ?_; clear hx_ T29; have T30 : Hid True := trivial)
    | (have hx_ := T30; refine s_sameW rfl rfl kz.cs rfl rfl (by kernel_rfl) (XK.out _) ?_; clear hx_ T30; have T31 : Hid True := trivial))
  exact bodyPost_ret (v := .bool true) (by simp [results, Tryz.results3]) rfl ⟨rfl, F20.out.below⟩
end Go.Proofs.YtbcpmnnlhdgbhaaGreatDoor
