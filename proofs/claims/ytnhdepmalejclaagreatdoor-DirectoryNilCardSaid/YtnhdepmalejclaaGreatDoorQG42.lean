/- The texts LN0 LN1 of this work, merged by wip/merge.py. No conditions. -/
import Derived.Test.YtnhdepmalejclaaGreatDoorQG41
namespace Go.Proofs.YtnhdepmalejclaaGreatDoor
open Go.RowKit Go.Lib
section
variable {ops : Array Oper} {rest : List Oper} {o : Oper} {a : Act} {w : World} {Q : Exit → Act → World → Prop}
theorem wpList_want {P : Program} (hw : Region.wanted o (yielded ops a.tmps) = true)
    (h : ∀ K : Act → World → Prop, (∀ a w, wpList P ops Q rest a w → K a w) → o.wp P a w K Q) : wpList P ops Q (o :: rest) a w := by
  unfold wpList
  rw [if_pos hw]
  exact .inl (h _ fun _ _ h => h)
theorem s_buildW (hw : Region.wanted o (yielded ops a.tmps) = true) {t : TypeId} {parts : List (Nat × Operand)} (ho : o.op = .build t parts.toArray) {ps : List (Nat × Value)} (hx : parts.map (fun p => (p.1, a.eval p.2)) = ps) {cells : Array Value} (hb : (Tryz.prog).built t ps = some cells)
    (h : wpList Tryz.prog ops Q rest (a.put o.dst (.agg cells)) w) : wpList Tryz.prog ops Q (o :: rest) a w := by
  have e : (parts.toArray.map fun x => match x with | (i, x) => (i, a.eval x)).toList = ps := by rw [List.map_toArray, ← hx]
  refine wpList_want hw fun K hK => wp_build _ _ ho (by rw [e, hb]; rfl) ?_
  rw [e, hb]
  exact hK _ _ h
theorem s_sameW (hw : Region.wanted o (yielded ops a.tmps) = true) {t t2 : TypeId} {x y : Operand} (ho : o.op = .binOp .eql t x y t2) (cs : Array Value) (hx : a.eval x = .agg cs) (hy : a.eval y = .agg cs)
    (hgt : (Tryz.prog).eqGuardType (Tryz.prog).depth t = false) (he : (binOp .eql t (.agg cs) (.agg cs)).run Tryz.prog w = .ok (.bool true) w) (h : wpList Tryz.prog ops Q rest (a.put o.dst (.bool true)) w) : wpList Tryz.prog ops Q (o :: rest) a w := by
  refine wpList_want hw fun _ hK => ?_
  have h2 := hK _ _ h
  unfold Oper.wp execOp
  simp only [ho, hx, hy, Sem.run_bind, run_eqGuard_agg w _ t x y cs cs hgt, Result.andThen_ok, he]
  exact h2
theorem s_unlike (hw : Region.wanted o (yielded ops a.tmps) = true) {t t2 : TypeId} {x y : Operand} (ho : o.op = .binOp .neq t x y t2) (cs ds : Array Value) (hx : a.eval x = .agg cs) (hy : a.eval y = .agg ds)
    (hgt : (Tryz.prog).eqGuardType (Tryz.prog).depth t = false) (he : (binOp .neq t (.agg cs) (.agg ds)).run Tryz.prog w = .ok (.bool true) w) (h : wpList Tryz.prog ops Q rest (a.put o.dst (.bool true)) w) : wpList Tryz.prog ops Q (o :: rest) a w := by
  refine wpList_want hw fun _ hK => ?_
  have h2 := hK _ _ h
  unfold Oper.wp execOp
  simp only [ho, hx, hy, Sem.run_bind, run_eqGuard_agg w _ t x y cs ds hgt, Result.andThen_ok, he]
  exact h2
end
theorem field_sig (cs : Array Value) (w : World) : (Instr.field 28 (.agg cs) 6).run Tryz.prog w = .ok (.agg (cs.extract 99 (99 + 64))) w := by kernel_rfl
set_option maxRecDepth 100000 in
set_option maxHeartbeats 2000000 in
theorem awake_any (w : World) (hw : NW w kR256 kR512) : Calls Tryz.prog 4 #[] w (fun e w' => e = .returned (.bool true) ∧ Below w.heap.size w w') := by
  have F0 := Lib.hid (Below.refl w.heap.size w)
  have T0 : Hid True := trivial
  obtain ⟨sec, hsec⟩ : ∃ z, z = sec1 := ⟨_, rfl⟩
  have LS : sec.length = 32 := by rw [hsec]; exact sec1_len
  have BS : Hid ((Tryz.prog).built 25 [(0, .int .u8 1)] = some (bvs sec).toArray) := by rw [hsec]; exact built_sec1
  obtain ⟨ks, hks⟩ : ∃ z, z = keysF kR256 kR512 sec 0 := ⟨_, rfl⟩
  have OK : Hid ks.ok := by show ks.ok; rw [hks]; exact keysF_ok _ _ _ _
  obtain ⟨r, hr⟩ : ∃ z, z = newRoot kR256 kR512 sec := ⟨_, rfl⟩
  have OR : Hid r.ok := by show r.ok; rw [hr]; exact newRoot_ok _ _ _
  obtain ⟨z64, hz⟩ : ∃ z, z = List.replicate 64 (0 : UInt8) := ⟨_, rfl⟩
  have LZ : z64.length = 64 := by rw [hz]; exact List.length_replicate ..
  have NZ : (r.s == z64) = false := by rw [hr, hz, hsec]; exact beq_false_of_ne ev_zero
  have BZ : Hid ((Tryz.prog).built 26 [] = some (bvs z64).toArray) := by rw [hz]; exact built_sig0
  have XN : Hid (∀ w, (binOp .neq 26 (.agg (bvs r.s).toArray) (.agg (bvs z64).toArray)).run Tryz.prog w = .ok (.bool true) w) := fun w => by rw [bin64n _ _ OR.out.s LZ w, NZ]; rfl
  have XF : Hid (∀ w, (Instr.field 28 (.agg r.cs) 6).run Tryz.prog w = .ok (.agg (bvs r.s).toArray) w) := fun w => by rw [field_sig, sig_at OR.out]
  have XK : Hid (∀ w, (binOp .eql 33 (.agg ks.cs) (.agg ks.cs)).run Tryz.prog w = .ok (.bool true) w) := fun w => bin_keys OK.out w
  have CN : Hid (Calls Tryz.prog 16 #[.agg (bvs sec).toArray] w (fun e w' => ∃ g gs gn gl gm v, e = .returned (.pointer (some ⟨g, 0, none⟩)) ∧ Dir0 w' w.heap.size g gs gn gl gm ks r sec v ∧ Below w.heap.size w w')) := by
    refine (DNew_any kR256 kR512 sec LS w hw).mono ?_
    rintro e w' ⟨g, gs, gn, gl, gm, he, hd, hb⟩
    rw [hks, hr]
    exact ⟨g, gs, gn, gl, gm, _, he, hd, hb⟩
  have CP : Hid (∀ w, Calls Tryz.prog 17 #[.agg (bvs sec).toArray, .int .u64 0] w (KRet ks w)) := fun w => by
    have h := rPublic_any sec LS 0 w
    have e : keysR sec 0 = ks := by rw [hks, hsec]; exact ev_same.symm
    rw [e] at h
    exact h
  clear hw hsec LS hks hr hz LZ NZ
  go_enter Tryz.func4, Tryz.ntmps4
  go_wp2_with (first
    | (have hx_ := T0; refine s_build rfl (parts := [(0, .const (.int .u8 1))]) rfl (ps := [(0, .int .u8 1)]) rfl BS.out ?_; clear hx_ T0; have T1 : Hid True := trivial)
    | (go_at_call 16; have hx_ := T1; refine CN.out.mono ?_; clear hx_ T1; rintro e w1 ⟨g, gs, gn, gl, gm, v, rfl, hd, hb⟩; have D1 := Lib.hid hd; have F1 := Lib.hid hb; clear hd hb CN F0; have T2 : Hid True := trivial)
    | (go_at_call 14; have hx_ := T2; refine (DRoot_any OK.out OR.out _ D1.out).mono ?_; clear hx_ T2; rintro e w2 ⟨rfl, hb⟩; have D2 := Lib.hid (D1.out.below hb); have F2 := Lib.hid (F1.out.trans (hb.mono F1.out.size)); clear D1 F1 hb; have T3 : Hid True := trivial)
    | (have hx_ := T3; refine s_field rfl rfl rfl (.agg (bvs r.s).toArray) XF.out ?_; clear hx_ T3; have T4 : Hid True := trivial)
    | (have hx_ := T4; refine s_build rfl (parts := []) rfl (ps := []) rfl BZ.out ?_; clear hx_ T4; have T5 : Hid True := trivial)
    | (have hx_ := T5; refine s_unlike rfl rfl (bvs r.s).toArray (bvs z64).toArray rfl rfl (by kernel_rfl) (XN.out _) ?_; clear hx_ T5; have T6 : Hid True := trivial)
    | (go_at_call 12; have hx_ := T6; refine (DFirst_any OK.out _ D2.out).mono ?_; clear hx_ T6; rintro e w3 ⟨rfl, hb⟩; have F3 := Lib.hid (F2.out.trans (hb.mono F2.out.size)); clear D2 F2 hb; have T7 : Hid True := trivial)
    | (have hx_ := T7; refine s_buildW rfl (parts := [(0, .const (.int .u8 1))]) rfl (ps := [(0, .int .u8 1)]) rfl BS.out ?_; clear hx_ T7; have T8 : Hid True := trivial)
    | (go_at_call 17; have hx_ := T8; refine (CP.out _).mono ?_; clear hx_ T8; rintro e w4 ⟨rfl, hb⟩; have F4 := Lib.hid (F3.out.trans (hb.mono F3.out.size)); clear F3 hb; have T9 : Hid True := trivial)
    | (have hx_ := T9; refine s_sameW rfl rfl ks.cs rfl rfl (by kernel_rfl) (XK.out _) ?_; clear hx_ T9; have T10 : Hid True := trivial))
  exact bodyPost_ret (v := .bool true) (by simp [results, Tryz.results4]) rfl ⟨rfl, F4.out⟩
end Go.Proofs.YtnhdepmalejclaaGreatDoor

namespace Go.Proofs.YtnhdepmalejclaaGreatDoor
open Go.RowKit Go.Lib
set_option maxRecDepth 100000 in
set_option maxHeartbeats 4000000 in
theorem directoryNil_walk (n : Int) (s : ByteArray) (w : World) (hw : NW w kR256 kR512) : Calls Tryz.prog 3 #[.int .i64 n, .string s] w (fun e w' => e = .returned (.bool true) ∧ Below w.heap.size w w') := by
  have F0 := Lib.hid (BK.start w)
  have T0 : Hid True := trivial
  obtain ⟨z32, hz⟩ : ∃ z, z = List.replicate 32 (0 : UInt8) := ⟨_, rfl⟩
  have B32 : Hid ((Tryz.prog).built 25 [] = some (bvs z32).toArray) := by show _ = _; rw [hz]; kernel_rfl
  obtain ⟨kz, hkz⟩ : ∃ z, z = keyZ := ⟨_, rfl⟩
  obtain ⟨rz, hrz⟩ : ∃ z, z = rootZ0 := ⟨_, rfl⟩
  have OR : rootZ0.ok := ⟨by decide, by decide, by decide, by decide, by decide, by decide, by decide⟩
  have BKZ : Hid ((Tryz.prog).built 33 [] = some kz.cs) := by rw [hkz]; exact built_keys0
  have BRZ : Hid ((Tryz.prog).built 28 [] = some rz.cs) := by rw [hrz]; exact built_rootZ
  have XK : Hid (∀ w, (binOp .eql 33 (.agg kz.cs) (.agg kz.cs)).run Tryz.prog w = .ok (.bool true) w) := fun w => by rw [hkz]; exact bin_keys keyZ_ok w
  have XR : Hid (∀ w, (binOp .eql 28 (.agg rz.cs) (.agg rz.cs)).run Tryz.prog w = .ok (.bool true) w) := fun w => by rw [hrz]; exact bin_root OR w
  have CK : Hid (∀ w, Calls Tryz.prog 12 #[.pointer none] w (KRet kz w)) := fun w => by rw [hkz]; exact DFirst_nil w
  have CR : Hid (∀ w, Calls Tryz.prog 14 #[.pointer none] w (RootRet rz w)) := fun w => by rw [hrz]; exact DRoot_nil w
  have CA : Hid (Calls Tryz.prog 4 #[] w (fun e w' => e = .returned (.bool true) ∧ Below w.heap.size w w')) := awake_any w hw
  clear hw hz hkz hrz OR
  go_enter Tryz.func3, Tryz.ntmps3
  go_wp2_with (first
    | (go_at_call 4; have hx_ := T0; refine (CA.out).mono ?_; clear hx_ T0; rintro e w1 ⟨rfl, hb⟩; have F1 := Lib.hid (F0.out.later hb); clear hb F0 CA; have T1 : Hid True := trivial)
    | (go_at_call 5; have hx_ := T1; refine (DPublish_nil _).mono ?_; clear hx_ T1; rintro e w2 ⟨Z2, hZ, he, hb⟩; have F2 := Lib.hid (F1.out.later hb); clear hb F1; have he' : e = .returned (.tuple #[.agg Z2, .int .i64 1]) := he; subst he'; clear he; have Z1_2 := Lib.hid hZ.1; have I1_2 := Lib.hid hZ.2.2.1; have O1_2 := Lib.hid hZ.2.2.2; clear hZ; have T2 : Hid True := trivial)
    | (have hx_ := T2; refine s_alloc F2.out rfl rfl Z1_2.out rfl ?_; clear hx_ T2; intro w3 b1 h1 _; have F3 := Lib.hid h1; clear h1 F2 Z1_2; have T3 : Hid True := trivial)
    | (have hx_ := T3; refine s_store F3.out rfl rfl 0 rfl rfl Z2 rfl rfl I1_2.out O1_2.out ?_; clear hx_ T3; intro w4 h1; have F4 := Lib.hid h1; clear h1 F3 I1_2 O1_2; have T4 : Hid True := trivial)
    | (have hx_ := T4; refine s_build rfl (parts := []) rfl (ps := []) rfl B32.out ?_; clear hx_ T4; have T5 : Hid True := trivial)
    | (go_at_call 6; have hx_ := T5; refine (DRotate_nil z32 _).mono ?_; clear hx_ T5; rintro e w5 ⟨Z5, hZ, he, hb⟩; have F5 := Lib.hid (F4.out.later hb); clear hb F4; have he' : e = .returned (.tuple #[.agg Z5, .int .i64 1]) := he; subst he'; clear he; have Z1_5 := Lib.hid hZ.1; have I1_5 := Lib.hid hZ.2.2.1; have O1_5 := Lib.hid hZ.2.2.2; clear hZ; have T6 : Hid True := trivial)
    | (have hx_ := T6; refine s_alloc F5.out rfl rfl Z1_5.out rfl ?_; clear hx_ T6; intro w6 b2 h1 _; have F6 := Lib.hid h1; clear h1 F5 Z1_5; have T7 : Hid True := trivial)
    | (have hx_ := T7; refine s_store F6.out rfl rfl 0 rfl rfl Z5 rfl rfl I1_5.out O1_5.out ?_; clear hx_ T7; intro w7 h1; have F7 := Lib.hid h1; clear h1 F6 I1_5 O1_5; have T8 : Hid True := trivial)
    | (go_at_call 7; have hx_ := T8; refine (DMove_nil n _).mono ?_; clear hx_ T8; rintro e w8 ⟨Z8, hZ, he, hb⟩; have F8 := Lib.hid (F7.out.later hb); clear hb F7; have he' : e = .returned (.tuple #[.agg Z8, .bool false, .int .i64 1]) := he; subst he'; clear he; have Z1_8 := Lib.hid hZ.1; have I1_8 := Lib.hid hZ.2.2.1; have O1_8 := Lib.hid hZ.2.2.2; clear hZ; have T9 : Hid True := trivial)
    | (have hx_ := T9; refine s_alloc F8.out rfl rfl Z1_8.out rfl ?_; clear hx_ T9; intro w9 b3 h1 _; have F9 := Lib.hid h1; clear h1 F8 Z1_8; have T10 : Hid True := trivial)
    | (have hx_ := T10; refine s_store F9.out rfl rfl 0 rfl rfl Z8 rfl rfl I1_8.out O1_8.out ?_; clear hx_ T10; intro w10 h1; have F10 := Lib.hid h1; clear h1 F9 I1_8 O1_8; have T11 : Hid True := trivial)
    | (go_at_call 8; have hx_ := T11; refine (DLookup_nil s _).mono ?_; clear hx_ T11; rintro e w11 ⟨Z11, hZ, he, hb⟩; have F11 := Lib.hid (F10.out.later hb); clear hb F10; have he' : e = .returned (.tuple #[.agg Z11, .int .i64 1]) := he; subst he'; clear he; have Z1_11 := Lib.hid hZ.1; have I1_11 := Lib.hid hZ.2.2.1; have O1_11 := Lib.hid hZ.2.2.2; clear hZ; have T12 : Hid True := trivial)
    | (have hx_ := T12; refine s_alloc F11.out rfl rfl Z1_11.out rfl ?_; clear hx_ T12; intro w12 b4 h1 _; have F12 := Lib.hid h1; clear h1 F11 Z1_11; have T13 : Hid True := trivial)
    | (have hx_ := T13; refine s_store F12.out rfl rfl 0 rfl rfl Z11 rfl rfl I1_11.out O1_11.out ?_; clear hx_ T13; intro w13 h1; have F13 := Lib.hid h1; clear h1 F12 I1_11 O1_11; have T14 : Hid True := trivial)
    | (go_at_call 9; have hx_ := T14; refine (DHistory_nil s _).mono ?_; clear hx_ T14; rintro e w14 ⟨Z14, hZ, he, hb⟩; have F14 := Lib.hid (F13.out.later hb); clear hb F13; have he' : e = .returned (.tuple #[.agg Z14, .int .i64 1]) := he; subst he'; clear he; have Z1_14 := Lib.hid hZ.1; have I1_14 := Lib.hid hZ.2.2.1; have O1_14 := Lib.hid hZ.2.2.2; clear hZ; have T15 : Hid True := trivial)
    | (have hx_ := T15; refine s_alloc F14.out rfl rfl Z1_14.out rfl ?_; clear hx_ T15; intro w15 b5 h1 _; have F15 := Lib.hid h1; clear h1 F14 Z1_14; have T16 : Hid True := trivial)
    | (have hx_ := T16; refine s_store F15.out rfl rfl 0 rfl rfl Z14 rfl rfl I1_14.out O1_14.out ?_; clear hx_ T16; intro w16 h1; have F16 := Lib.hid h1; clear h1 F15 I1_14 O1_14; have T17 : Hid True := trivial)
    | (go_at_call 10; have hx_ := T17; refine (DStep_nil _ _).mono ?_; clear hx_ T17; rintro e w17 ⟨Z17, hZ, he, hb⟩; have F17 := Lib.hid (F16.out.later hb); clear hb F16; have he' : e = .returned (.tuple #[.agg Z17, .int .i64 1]) := he; subst he'; clear he; have Z1_17 := Lib.hid hZ.1; have I1_17 := Lib.hid hZ.2.2.1; have O1_17 := Lib.hid hZ.2.2.2; clear hZ; have T18 : Hid True := trivial)
    | (have hx_ := T18; refine s_alloc F17.out rfl rfl Z1_17.out rfl ?_; clear hx_ T18; intro w18 b6 h1 _; have F18 := Lib.hid h1; clear h1 F17 Z1_17; have T19 : Hid True := trivial)
    | (have hx_ := T19; refine s_store F18.out rfl rfl 0 rfl rfl Z17 rfl rfl I1_17.out O1_17.out ?_; clear hx_ T19; intro w19 h1; have F19 := Lib.hid h1; clear h1 F18 I1_17 O1_17; have T20 : Hid True := trivial)
    | (go_at_call 11; have hx_ := T20; refine (DDevices_nil s _).mono ?_; clear hx_ T20; rintro e w20 ⟨rfl, he⟩; subst he; have T21 : Hid True := trivial)
    | (go_at_call 12; have hx_ := T21; refine (CK.out _).mono ?_; clear hx_ T21; rintro e w21 ⟨rfl, hb⟩; have F20 := Lib.hid (F19.out.later hb); clear hb F19; have T22 : Hid True := trivial)
    | (have hx_ := T22; refine s_buildW rfl (parts := []) rfl (ps := []) rfl BKZ.out ?_; clear hx_ T22; have T23 : Hid True := trivial)
    | (have hx_ := T23; refine s_sameW rfl rfl kz.cs rfl rfl (by kernel_rfl) (XK.out _) ?_; clear hx_ T23; have T24 : Hid True := trivial)
    | (go_at_call 13; have hx_ := T24; refine (DCerts_nil _).mono ?_; clear hx_ T24; rintro e w22 ⟨rfl, he⟩; subst he; have T25 : Hid True := trivial)
    | (go_at_call 14; have hx_ := T25; refine (CR.out _).mono ?_; clear hx_ T25; rintro e w23 ⟨rfl, hb⟩; have F21 := Lib.hid (F20.out.later hb); clear hb F20; have T26 : Hid True := trivial)
    | (have hx_ := T26; refine s_buildW rfl (parts := []) rfl (ps := []) rfl BRZ.out ?_; clear hx_ T26; have T27 : Hid True := trivial)
    | (have hx_ := T27; refine s_sameW rfl rfl rz.cs rfl rfl (by kernel_rfl) (XR.out _) ?_; clear hx_ T27; have T28 : Hid True := trivial)
    | (go_at_call 15; have hx_ := T28; refine (DMoving_nil _).mono ?_; clear hx_ T28; rintro e w24 ⟨rfl, he⟩; subst he; have T29 : Hid True := trivial))
  exact bodyPost_ret (v := .bool true) (by simp [results, Tryz.results3]) rfl ⟨rfl, F21.out.below⟩
end Go.Proofs.YtnhdepmalejclaaGreatDoor
