/- The texts PT5 of this work, merged by wip/merge.py. No conditions. -/
import Derived.Test.YtnhdepmalejclaaGreatDoorQG38
namespace Go.Proofs.YtnhdepmalejclaaGreatDoor
open Go.RowKit Go.Lib
/-- What region 7 of Decode leaves. -/
def DecR (w0 : World) (l : Nat) (A : Nat → Act) (bs : List (Nat × Array Value × TypeId)) (a : Act) (w : World) : Prop := ∃ b, BK w0 w ((b, nc l, 181) :: bs) ∧ a = A b
set_option maxRecDepth 100000 in
set_option maxHeartbeats 4000000 in
theorem Decode_gen (w : World) : Calls Tryz.prog 96 #[.agg (bvs genB).toArray] w (fun e w' => e = .returned (.tuple #[.agg genP.cs, .bool true]) ∧ Below w.heap.size w w') := by
  have F0 := Lib.hid (BK.start w)
  have T0 : Hid True := trivial
  obtain ⟨v, hv⟩ : ∃ v, v = genR := ⟨_, rfl⟩
  have Ov : Hid (v < 115792089237316195423570985008687907853269984665640564039457584007913129639936) := by show v < _; rw [hv]; decide
  have Cc : Hid (∀ w, Calls Tryz.prog 141 #[.agg (bvs genB).toArray] w (fun e w' => e = .returned (.bool true) ∧ Below w.heap.size w w')) := fun w => by
    have h := canonicalR_any genB genB_len w
    rw [ofL_gen, show decide (genR < pR) = true from by decide] at h
    exact h
  have Cf : Hid (∀ w, Calls Tryz.prog 142 #[.agg (bvs genB).toArray] w (fun e w' => e = .returned (.agg (nc v)) ∧ Below w.heap.size w w')) := fun w => by
    have h := fromR_any genB genB_len w
    rw [ofL_gen, ← hv] at h
    exact h
  have HY : Hid ((bvs genB).toArray[31]? = some (.int .u8 102)) := by show _ = _; kernel_rfl
  have HS : Hid ((bvs genB).toArray.setIfInBounds 31 (.int .u8 102) = (bvs genB).toArray) := by show _ = _; kernel_rfl
  obtain ⟨l0, hl0⟩ : ∃ l, l = genB := ⟨_, rfl⟩
  have Hl0 : Hid (l0.length = 32) := by show _ = _; rw [hl0]; rfl
  rw [← hl0] at Cc Cf HY HS ⊢
  obtain ⟨yy, hyy⟩ : ∃ y, y = timesR v v := ⟨_, rfl⟩
  have Oyy : Hid (yy < 115792089237316195423570985008687907853269984665640564039457584007913129639936) := by show yy < _; rw [hyy]; exact timesR_lt Ov.out Ov.out
  have Cyy : Hid (∀ w, Calls Tryz.prog 143 #[.agg (nc v), .agg (nc v)] w (fun e w' => e = .returned (.agg (nc yy)) ∧ Below w.heap.size w w')) := fun w => by rw [hyy]; exact timesR_any v v Ov.out Ov.out w
  obtain ⟨o, ho⟩ : ∃ o, o = 1 := ⟨_, rfl⟩
  have Oo : Hid (o < 115792089237316195423570985008687907853269984665640564039457584007913129639936) := by show o < _; rw [ho]; decide
  have Co : Hid (∀ w, Calls Tryz.prog 146 #[.int .u64 1] w (fun e w' => e = .returned (.agg (nc o)) ∧ Below w.heap.size w w')) := fun w => by rw [ho]; exact Small_any 1 (by decide) w
  obtain ⟨z, hz⟩ : ∃ z, z = 0 := ⟨_, rfl⟩
  have Oz : Hid (z < 115792089237316195423570985008687907853269984665640564039457584007913129639936) := by show z < _; rw [hz]; decide
  have Cz : Hid (∀ w, Calls Tryz.prog 146 #[.int .u64 0] w (fun e w' => e = .returned (.agg (nc z)) ∧ Below w.heap.size w w')) := fun w => by rw [hz]; exact Small_any 0 (by decide) w
  obtain ⟨d, hd⟩ : ∃ d, d = dR := ⟨_, rfl⟩
  have Od : Hid (d < 115792089237316195423570985008687907853269984665640564039457584007913129639936) := by show d < _; rw [hd]; exact dR_lt
  have Cd : Hid (∀ w, Calls Tryz.prog 149 #[] w (fun e w' => e = .returned (.agg (nc d)) ∧ Below w.heap.size w w')) := fun w => by rw [hd]; exact dR_any w
  obtain ⟨n1, hn1⟩ : ∃ n, n = minusR yy o := ⟨_, rfl⟩
  have On1 : Hid (n1 < 115792089237316195423570985008687907853269984665640564039457584007913129639936) := by show n1 < _; rw [hn1]; exact minusR_lt Oyy.out
  have Cn1 : Hid (∀ w, Calls Tryz.prog 145 #[.agg (nc yy), .agg (nc o)] w (fun e w' => e = .returned (.agg (nc n1)) ∧ Below w.heap.size w w')) := fun w => by rw [hn1]; exact minusR_any yy o Oyy.out Oo.out w
  obtain ⟨dy, hdy⟩ : ∃ n, n = timesR d yy := ⟨_, rfl⟩
  have Ody : Hid (dy < 115792089237316195423570985008687907853269984665640564039457584007913129639936) := by show dy < _; rw [hdy]; exact timesR_lt Od.out Oyy.out
  have Cdy : Hid (∀ w, Calls Tryz.prog 143 #[.agg (nc d), .agg (nc yy)] w (fun e w' => e = .returned (.agg (nc dy)) ∧ Below w.heap.size w w')) := fun w => by rw [hdy]; exact timesR_any d yy Od.out Oyy.out w
  obtain ⟨d1, hd1⟩ : ∃ n, n = plusR dy o := ⟨_, rfl⟩
  have Od1 : Hid (d1 < 115792089237316195423570985008687907853269984665640564039457584007913129639936) := by show d1 < _; rw [hd1]; exact plusR_lt Ody.out Oo.out
  have Cd1 : Hid (∀ w, Calls Tryz.prog 148 #[.agg (nc dy), .agg (nc o)] w (fun e w' => e = .returned (.agg (nc d1)) ∧ Below w.heap.size w w')) := fun w => by rw [hd1]; exact plusR_any dy o Ody.out Oo.out w
  obtain ⟨iv, hiv⟩ : ∃ n, n = invR d1 := ⟨_, rfl⟩
  have Oiv : Hid (iv < 115792089237316195423570985008687907853269984665640564039457584007913129639936) := by show iv < _; rw [hiv]; exact invR_lt Od1.out
  have Civ : Hid (∀ w, Calls Tryz.prog 147 #[.agg (nc d1)] w (fun e w' => e = .returned (.agg (nc iv)) ∧ Below w.heap.size w w')) := fun w => by rw [hiv]; exact invR_any d1 Od1.out w
  obtain ⟨a, ha⟩ : ∃ n, n = timesR n1 iv := ⟨_, rfl⟩
  have Oa : Hid (a < 115792089237316195423570985008687907853269984665640564039457584007913129639936) := by show a < _; rw [ha]; exact timesR_lt On1.out Oiv.out
  have Ca : Hid (∀ w, Calls Tryz.prog 143 #[.agg (nc n1), .agg (nc iv)] w (fun e w' => e = .returned (.agg (nc a)) ∧ Below w.heap.size w w')) := fun w => by rw [ha]; exact timesR_any n1 iv On1.out Oiv.out w
  have eiv : iv = ivG := by rw [hiv, hd1, hdy, hd, hyy, ho, hv]; exact iv_eq
  have ea : a = aG := by rw [ha, hn1, eiv, hyy, ho, hv]; exact a_eq
  obtain ⟨l, hl⟩ : ∃ n, n = lG := ⟨_, rfl⟩
  have Ol : Hid (l < 115792089237316195423570985008687907853269984665640564039457584007913129639936) := by show l < _; rw [hl]; decide
  have Cl : Hid (∀ w, Calls Tryz.prog 144 #[.agg (nc a)] w (fun e w' => e = .returned (.tuple #[.agg (nc l), .bool true]) ∧ Below w.heap.size w w')) := fun w => by
    have h := rootR_any a Oa.out w
    rw [ea, root_eq, ← hl] at h
    rw [ea]
    exact h
  have Hq : Hid (∀ w, (Op.equalIn 10000 181 (.agg (nc l)) (.agg (nc z))).run Tryz.prog w = .ok false w) := fun w => by
    have h := eqN 9998 Ol.out Oz.out w
    rw [show decide (l = z) = false from by rw [hl, hz]; decide] at h
    exact h
  have HL0 : Hid (∀ (w : World) (b : Nat) (t : TypeId), w.heap[b]? = some (.cells (nc l) t (0, 0)) → w.cell? ⟨b, 0, none⟩ = some (.int .u64 3938910931347188435)) := fun w b t h => by
    rw [cell_of_row w b 0 _ _ _ h, nc_at l (k := 0) (by decide), hl]
    rfl
  obtain ⟨m, hm⟩ : ∃ n, n = minusR z l := ⟨_, rfl⟩
  have Om : Hid (m < 115792089237316195423570985008687907853269984665640564039457584007913129639936) := by show m < _; rw [hm]; exact minusR_lt Oz.out
  have Cm : Hid (∀ w, Calls Tryz.prog 145 #[.agg (nc z), .agg (nc l)] w (fun e w' => e = .returned (.agg (nc m)) ∧ Below w.heap.size w w')) := fun w => by rw [hm]; exact minusR_any z l Oz.out Ol.out w
  obtain ⟨n, hn⟩ : ∃ n, n = m % pR := ⟨_, rfl⟩
  have On : Hid (n < 115792089237316195423570985008687907853269984665640564039457584007913129639936) := by show n < _; rw [hn]; exact mod_lt_R m
  have Cn : Hid (∀ w, Calls Tryz.prog 150 #[.agg (nc m)] w (fun e w' => e = .returned (.agg (nc n)) ∧ Below w.heap.size w w')) := fun w => by rw [hn]; exact leastR_any m Om.out w
  obtain ⟨t, ht⟩ : ∃ n', n' = timesR n v := ⟨_, rfl⟩
  have Ct : Hid (∀ w, Calls Tryz.prog 143 #[.agg (nc n), .agg (nc v)] w (fun e w' => e = .returned (.agg (nc t)) ∧ Below w.heap.size w w')) := fun w => by rw [ht]; exact timesR_any n v On.out Ov.out w
  have en : n = nG := by rw [hn, hm, hl, hz]; exact n_eq
  have HR : Hid (Rt.mk n v o t = genP) := by show _ = _; rw [ht, en, hv, ho, t_eq]; rfl
  rw [← HR.out]
  clear HR en ht hn hm hz ea eiv ha hiv hd1 hdy hd hn1 ho hyy hl0 hv hl
  have hy := HY.out
  go_enter Tryz.func96, Tryz.ntmps96
  go_wp2_with (first
    | (have hx_ := T0; refine s_box F0.out rfl rfl rfl rfl ?_; clear hx_ T0; intro w1 b1 h1 _; have F1 := Lib.hid h1; clear h1 F0; have T1 : Hid True := trivial)
    | (have hx_ := T1; refine s_alloc F1.out rfl rfl zeroR rfl ?_; clear hx_ T1; intro w2 b2 h1 _; have cy := (h1.cell 1 rfl 31).trans hy; have F2 := Lib.hid h1; clear h1 F1; have T2 : Hid True := trivial)
    | (have hx_ := T2; refine s_set8 F2.out rfl rfl 1 rfl 31 (by rw [bvs_size, Hl0.out]; decide) rfl _ rfl ?_; clear hx_ T2 cy; intro w3 h1; simp only [List.set_cons_succ, List.set_cons_zero] at h1; rw [show bits BinOp.and IntKind.u8 102 127 = 102 from by decide, HS.out] at h1; have F3 := Lib.hid h1; clear h1 F2; have T3 : Hid True := trivial)
    | (have hx_ := T3; refine s_load_b rfl rfl l0 Hl0.out rfl (F3.out.lb 1 rfl) ?_; clear hx_ T3; have T4 : Hid True := trivial)
    | (go_at_call 141; have hx_ := T4; refine (Cc.out _).mono ?_; clear hx_ T4; rintro e w4 ⟨rfl, hb⟩; have F4 := Lib.hid (F3.out.later hb); clear hb F3; have T5 : Hid True := trivial)
    | (have hx_ := T5; refine s_load_b rfl rfl l0 Hl0.out rfl (F4.out.lb 1 rfl) ?_; clear hx_ T5; have T6 : Hid True := trivial)
    | (go_at_call 142; have hx_ := T6; refine (Cf.out _).mono ?_; clear hx_ T6; rintro e w5 ⟨rfl, hb⟩; have F5 := Lib.hid (F4.out.later hb); clear hb F4; have T7 : Hid True := trivial)
    | (have hx_ := T7; refine s_alloc F5.out rfl rfl zeroN rfl ?_; clear hx_ T7; intro w6 b3 h1 _; have F6 := Lib.hid h1; clear h1 F5; have T8 : Hid True := trivial)
    | (have hx_ := T8; refine s_store F6.out rfl rfl 0 rfl rfl (nc v) rfl rfl (by kernel_rfl) (nc_cells _) ?_; clear hx_ T8; intro w7 h1; have F7 := Lib.hid h1; clear h1 F6; have T9 : Hid True := trivial)
    | (have hx_ := T9; refine s_load_n rfl rfl v rfl (F7.out.ln 0 rfl) ?_; clear hx_ T9; have T10 : Hid True := trivial)
    | (have hx_ := T10; refine s_load_n rfl rfl v rfl (F7.out.ln 0 rfl) ?_; clear hx_ T10; have T11 : Hid True := trivial)
    | (go_at_call 143; have hx_ := T11; refine (Cyy.out _).mono ?_; clear hx_ T11; rintro e w8 ⟨rfl, hb⟩; have F8 := Lib.hid (F7.out.later hb); clear hb F7; have T12 : Hid True := trivial)
    | (have hx_ := T12; refine s_alloc F8.out rfl rfl zeroN rfl ?_; clear hx_ T12; intro w9 b4 h1 _; have F9 := Lib.hid h1; clear h1 F8; have T13 : Hid True := trivial)
    | (have hx_ := T13; refine s_store F9.out rfl rfl 0 rfl rfl (nc yy) rfl rfl (by kernel_rfl) (nc_cells _) ?_; clear hx_ T13; intro w10 h1; have F10 := Lib.hid h1; clear h1 F9))
  refine AnyC.startR (fun w' => w'.rangeAt b4 0 (nc yy).toList) (DecR w l (fun b5 => { tmps := #[.agg (bvs l0).toArray, .pointer (some ⟨b1, 0, none⟩), .pointer (some ⟨b2, 0, none⟩), .bool false, .int .u8 0, .pointer (some ⟨b3, 0, none⟩), .pointer (some ⟨b4, 0, none⟩), .pointer (some ⟨b5, 0, none⟩), .bool true, .pointer (some ⟨b1, 31, none⟩), .int .u8 102, .int .u8 0, .pointer (some ⟨b1, 31, none⟩), .int .u8 102, .int .u8 (bits BinOp.and IntKind.u8 102 127), .pointer (some ⟨b1, 31, none⟩), .agg (bvs l0).toArray, .bool true, .bool false, undef, .agg (bvs l0).toArray, .agg (nc v), .agg (nc v), .agg (nc v), .agg (nc yy), .tuple #[.agg (nc l), .bool true], .agg (nc yy), .agg (nc o), .agg (nc n1), .agg (nc d), .agg (nc yy), .agg (nc dy), .agg (nc o), .agg (nc d1), .agg (nc iv), .agg (nc a), .tuple #[.agg (nc l), .bool true], .agg (nc l), .bool true, undef, undef, undef, undef, undef, undef, undef, undef, undef, undef, undef, undef, undef, undef, undef, undef, undef, undef, undef, undef, undef, undef, undef, undef, undef, undef, undef, undef], defers := [] }) [(b4, nc yy, 181), (b3, nc v, 181), (b2, nilR.cs, 183), (b1, (bvs l0).toArray, 25)]) (by kernel_rfl) rfl ?h1 ?hK1
  case h1 =>
    have F11 := Lib.hid (F10.out.drew)
    apply AnyC.take (i := 0) rfl (by kernel_rfl) rfl
    · intro w' hC K hK
      refine wpList_load_arr rfl 181 _ rfl b4 0 rfl (nc yy) _ hC Tryz.underlying181 rfl (by kernel_rfl) ?_
      go_wp2
      exact hK
    · rfl
    apply AnyC.take (i := 4) rfl (by kernel_rfl) rfl
    · intro w' hC K hK
      refine wpList_load_arr rfl 181 _ rfl b4 0 rfl (nc yy) _ hC Tryz.underlying181 rfl (by kernel_rfl) ?_
      go_wp2
      exact hK
    · rfl
    apply AnyC.two (i := 1) (j := 14) rfl rfl (by kernel_rfl) (F11.out.ln 0 rfl _ (Below.refl _ _))
    · skip
      go_wp2_with (go_at_call 146; refine (Co.out _).mono ?_; rintro e wx21 ⟨rfl, hb⟩; have F21 := Lib.hid (F11.out.later hb); clear hb)
      refine ⟨rfl, ?_⟩
      apply AnyC.two (i := 2) (j := 14) rfl rfl (by kernel_rfl) (F21.out.ln 0 rfl _ (Below.refl _ _))
      · skip
        go_wp2_with (go_at_call 145; refine (Cn1.out _).mono ?_; rintro e wx22 ⟨rfl, hb⟩; have F22 := Lib.hid (F21.out.later hb); clear hb)
        refine ⟨rfl, ?_⟩
        apply AnyC.two (i := 3) (j := 14) rfl rfl (by kernel_rfl) (F22.out.ln 0 rfl _ (Below.refl _ _))
        · skip
          go_wp2_with (go_at_call 149; refine (Cd.out _).mono ?_; rintro e wx23 ⟨rfl, hb⟩; have F23 := Lib.hid (F22.out.later hb); clear hb)
          refine ⟨rfl, ?_⟩
          apply AnyC.two (i := 5) (j := 14) rfl rfl (by kernel_rfl) (F23.out.ln 0 rfl _ (Below.refl _ _))
          · skip
            go_wp2_with (go_at_call 143; refine (Cdy.out _).mono ?_; rintro e wx24 ⟨rfl, hb⟩; have F24 := Lib.hid (F23.out.later hb); clear hb)
            refine ⟨rfl, ?_⟩
            apply AnyC.two (i := 6) (j := 14) rfl rfl (by kernel_rfl) (F24.out.ln 0 rfl _ (Below.refl _ _))
            · skip
              go_wp2_with (go_at_call 146; refine (Co.out _).mono ?_; rintro e wx25 ⟨rfl, hb⟩; have F25 := Lib.hid (F24.out.later hb); clear hb)
              refine ⟨rfl, ?_⟩
              apply AnyC.two (i := 7) (j := 14) rfl rfl (by kernel_rfl) (F25.out.ln 0 rfl _ (Below.refl _ _))
              · skip
                go_wp2_with (go_at_call 148; refine (Cd1.out _).mono ?_; rintro e wx26 ⟨rfl, hb⟩; have F26 := Lib.hid (F25.out.later hb); clear hb)
                refine ⟨rfl, ?_⟩
                apply AnyC.two (i := 8) (j := 14) rfl rfl (by kernel_rfl) (F26.out.ln 0 rfl _ (Below.refl _ _))
                · skip
                  go_wp2_with (go_at_call 147; refine (Civ.out _).mono ?_; rintro e wx27 ⟨rfl, hb⟩; have F27 := Lib.hid (F26.out.later hb); clear hb)
                  refine ⟨rfl, ?_⟩
                  apply AnyC.two (i := 9) (j := 14) rfl rfl (by kernel_rfl) (F27.out.ln 0 rfl _ (Below.refl _ _))
                  · skip
                    go_wp2_with (go_at_call 143; refine (Ca.out _).mono ?_; rintro e wx28 ⟨rfl, hb⟩; have F28 := Lib.hid (F27.out.later hb); clear hb)
                    refine ⟨rfl, ?_⟩
                    apply AnyC.two (i := 10) (j := 14) rfl rfl (by kernel_rfl) (F28.out.ln 0 rfl _ (Below.refl _ _))
                    · skip
                      go_wp2_with (go_at_call 144; refine (Cl.out _).mono ?_; rintro e wx29 ⟨rfl, hb⟩; have F29 := Lib.hid (F28.out.later hb); clear hb)
                      refine ⟨rfl, ?_⟩
                      apply AnyC.take (i := 11) rfl (by kernel_rfl) rfl
                      · intro w' hC K hK
                        go_wp2
                        exact hK
                      · rfl
                      apply AnyC.take (i := 12) rfl (by kernel_rfl) rfl
                      · intro w' hC K hK
                        go_wp2
                        exact hK
                      · rfl
                      apply AnyC.take (i := 13) rfl (by kernel_rfl) rfl
                      · intro w' hC K hK
                        go_wp2
                        exact hK
                      · rfl
                      apply AnyC.solo (i := 14) rfl (by kernel_rfl) (F29.out.ln 0 rfl _ (Below.refl _ _))
                      go_wp2_with (refine s_alloc F29.out rfl rfl zeroN rfl ?_; intro wx30 b5 h1 _; have F30 := Lib.hid h1; clear h1)
                      refine ⟨rfl, ?_⟩
                      apply AnyC.solo (i := 15) rfl (by kernel_rfl) (F30.out.ln 1 rfl _ (Below.refl _ _))
                      go_wp2_with (refine s_store F30.out rfl rfl 0 rfl rfl (nc l) rfl rfl (by kernel_rfl) (nc_cells _) ?_; intro wx31 h1; have F31 := Lib.hid h1; clear h1)
                      refine ⟨rfl, ?_⟩
                      apply AnyC.take (i := 16) rfl (by kernel_rfl) rfl
                      · intro w' hC K hK
                        go_wp2
                        exact hK
                      · rfl
                      refine AnyC.done (F31.out.ln 1 rfl _ (Below.refl _ _)) (by kernel_rfl) ?_
                      exact ⟨b5, F31.out, rfl⟩
                    · skip
                      go_wp2_with (refine s_alloc F28.out rfl rfl zeroN rfl ?_; intro wx32 b5 h1 _; have F32 := Lib.hid h1; clear h1)
                      refine ⟨rfl, ?_⟩
                      apply AnyC.solo (i := 10) rfl (by kernel_rfl) (F32.out.ln 1 rfl _ (Below.refl _ _))
                      go_wp2_with (go_at_call 144; refine (Cl.out _).mono ?_; rintro e wx33 ⟨rfl, hb⟩; have F33 := Lib.hid (F32.out.later hb); clear hb)
                      refine ⟨rfl, ?_⟩
                      apply AnyC.take (i := 11) rfl (by kernel_rfl) rfl
                      · intro w' hC K hK
                        go_wp2
                        exact hK
                      · rfl
                      apply AnyC.take (i := 12) rfl (by kernel_rfl) rfl
                      · intro w' hC K hK
                        go_wp2
                        exact hK
                      · rfl
                      apply AnyC.take (i := 13) rfl (by kernel_rfl) rfl
                      · intro w' hC K hK
                        go_wp2
                        exact hK
                      · rfl
                      apply AnyC.solo (i := 15) rfl (by kernel_rfl) (F33.out.ln 1 rfl _ (Below.refl _ _))
                      go_wp2_with (refine s_store F33.out rfl rfl 0 rfl rfl (nc l) rfl rfl (by kernel_rfl) (nc_cells _) ?_; intro wx34 h1; have F34 := Lib.hid h1; clear h1)
                      refine ⟨rfl, ?_⟩
                      apply AnyC.take (i := 16) rfl (by kernel_rfl) rfl
                      · intro w' hC K hK
                        go_wp2
                        exact hK
                      · rfl
                      refine AnyC.done (F34.out.ln 1 rfl _ (Below.refl _ _)) (by kernel_rfl) ?_
                      exact ⟨b5, F34.out, rfl⟩
                  · skip
                    go_wp2_with (refine s_alloc F27.out rfl rfl zeroN rfl ?_; intro wx35 b5 h1 _; have F35 := Lib.hid h1; clear h1)
                    refine ⟨rfl, ?_⟩
                    apply AnyC.solo (i := 9) rfl (by kernel_rfl) (F35.out.ln 1 rfl _ (Below.refl _ _))
                    go_wp2_with (go_at_call 143; refine (Ca.out _).mono ?_; rintro e wx36 ⟨rfl, hb⟩; have F36 := Lib.hid (F35.out.later hb); clear hb)
                    refine ⟨rfl, ?_⟩
                    apply AnyC.solo (i := 10) rfl (by kernel_rfl) (F36.out.ln 1 rfl _ (Below.refl _ _))
                    go_wp2_with (go_at_call 144; refine (Cl.out _).mono ?_; rintro e wx37 ⟨rfl, hb⟩; have F37 := Lib.hid (F36.out.later hb); clear hb)
                    refine ⟨rfl, ?_⟩
                    apply AnyC.take (i := 11) rfl (by kernel_rfl) rfl
                    · intro w' hC K hK
                      go_wp2
                      exact hK
                    · rfl
                    apply AnyC.take (i := 12) rfl (by kernel_rfl) rfl
                    · intro w' hC K hK
                      go_wp2
                      exact hK
                    · rfl
                    apply AnyC.take (i := 13) rfl (by kernel_rfl) rfl
                    · intro w' hC K hK
                      go_wp2
                      exact hK
                    · rfl
                    apply AnyC.solo (i := 15) rfl (by kernel_rfl) (F37.out.ln 1 rfl _ (Below.refl _ _))
                    go_wp2_with (refine s_store F37.out rfl rfl 0 rfl rfl (nc l) rfl rfl (by kernel_rfl) (nc_cells _) ?_; intro wx38 h1; have F38 := Lib.hid h1; clear h1)
                    refine ⟨rfl, ?_⟩
                    apply AnyC.take (i := 16) rfl (by kernel_rfl) rfl
                    · intro w' hC K hK
                      go_wp2
                      exact hK
                    · rfl
                    refine AnyC.done (F38.out.ln 1 rfl _ (Below.refl _ _)) (by kernel_rfl) ?_
                    exact ⟨b5, F38.out, rfl⟩
                · skip
                  go_wp2_with (refine s_alloc F26.out rfl rfl zeroN rfl ?_; intro wx39 b5 h1 _; have F39 := Lib.hid h1; clear h1)
                  refine ⟨rfl, ?_⟩
                  apply AnyC.solo (i := 8) rfl (by kernel_rfl) (F39.out.ln 1 rfl _ (Below.refl _ _))
                  go_wp2_with (go_at_call 147; refine (Civ.out _).mono ?_; rintro e wx40 ⟨rfl, hb⟩; have F40 := Lib.hid (F39.out.later hb); clear hb)
                  refine ⟨rfl, ?_⟩
                  apply AnyC.solo (i := 9) rfl (by kernel_rfl) (F40.out.ln 1 rfl _ (Below.refl _ _))
                  go_wp2_with (go_at_call 143; refine (Ca.out _).mono ?_; rintro e wx41 ⟨rfl, hb⟩; have F41 := Lib.hid (F40.out.later hb); clear hb)
                  refine ⟨rfl, ?_⟩
                  apply AnyC.solo (i := 10) rfl (by kernel_rfl) (F41.out.ln 1 rfl _ (Below.refl _ _))
                  go_wp2_with (go_at_call 144; refine (Cl.out _).mono ?_; rintro e wx42 ⟨rfl, hb⟩; have F42 := Lib.hid (F41.out.later hb); clear hb)
                  refine ⟨rfl, ?_⟩
                  apply AnyC.take (i := 11) rfl (by kernel_rfl) rfl
                  · intro w' hC K hK
                    go_wp2
                    exact hK
                  · rfl
                  apply AnyC.take (i := 12) rfl (by kernel_rfl) rfl
                  · intro w' hC K hK
                    go_wp2
                    exact hK
                  · rfl
                  apply AnyC.take (i := 13) rfl (by kernel_rfl) rfl
                  · intro w' hC K hK
                    go_wp2
                    exact hK
                  · rfl
                  apply AnyC.solo (i := 15) rfl (by kernel_rfl) (F42.out.ln 1 rfl _ (Below.refl _ _))
                  go_wp2_with (refine s_store F42.out rfl rfl 0 rfl rfl (nc l) rfl rfl (by kernel_rfl) (nc_cells _) ?_; intro wx43 h1; have F43 := Lib.hid h1; clear h1)
                  refine ⟨rfl, ?_⟩
                  apply AnyC.take (i := 16) rfl (by kernel_rfl) rfl
                  · intro w' hC K hK
                    go_wp2
                    exact hK
                  · rfl
                  refine AnyC.done (F43.out.ln 1 rfl _ (Below.refl _ _)) (by kernel_rfl) ?_
                  exact ⟨b5, F43.out, rfl⟩
              · skip
                go_wp2_with (refine s_alloc F25.out rfl rfl zeroN rfl ?_; intro wx44 b5 h1 _; have F44 := Lib.hid h1; clear h1)
                refine ⟨rfl, ?_⟩
                apply AnyC.solo (i := 7) rfl (by kernel_rfl) (F44.out.ln 1 rfl _ (Below.refl _ _))
                go_wp2_with (go_at_call 148; refine (Cd1.out _).mono ?_; rintro e wx45 ⟨rfl, hb⟩; have F45 := Lib.hid (F44.out.later hb); clear hb)
                refine ⟨rfl, ?_⟩
                apply AnyC.solo (i := 8) rfl (by kernel_rfl) (F45.out.ln 1 rfl _ (Below.refl _ _))
                go_wp2_with (go_at_call 147; refine (Civ.out _).mono ?_; rintro e wx46 ⟨rfl, hb⟩; have F46 := Lib.hid (F45.out.later hb); clear hb)
                refine ⟨rfl, ?_⟩
                apply AnyC.solo (i := 9) rfl (by kernel_rfl) (F46.out.ln 1 rfl _ (Below.refl _ _))
                go_wp2_with (go_at_call 143; refine (Ca.out _).mono ?_; rintro e wx47 ⟨rfl, hb⟩; have F47 := Lib.hid (F46.out.later hb); clear hb)
                refine ⟨rfl, ?_⟩
                apply AnyC.solo (i := 10) rfl (by kernel_rfl) (F47.out.ln 1 rfl _ (Below.refl _ _))
                go_wp2_with (go_at_call 144; refine (Cl.out _).mono ?_; rintro e wx48 ⟨rfl, hb⟩; have F48 := Lib.hid (F47.out.later hb); clear hb)
                refine ⟨rfl, ?_⟩
                apply AnyC.take (i := 11) rfl (by kernel_rfl) rfl
                · intro w' hC K hK
                  go_wp2
                  exact hK
                · rfl
                apply AnyC.take (i := 12) rfl (by kernel_rfl) rfl
                · intro w' hC K hK
                  go_wp2
                  exact hK
                · rfl
                apply AnyC.take (i := 13) rfl (by kernel_rfl) rfl
                · intro w' hC K hK
                  go_wp2
                  exact hK
                · rfl
                apply AnyC.solo (i := 15) rfl (by kernel_rfl) (F48.out.ln 1 rfl _ (Below.refl _ _))
                go_wp2_with (refine s_store F48.out rfl rfl 0 rfl rfl (nc l) rfl rfl (by kernel_rfl) (nc_cells _) ?_; intro wx49 h1; have F49 := Lib.hid h1; clear h1)
                refine ⟨rfl, ?_⟩
                apply AnyC.take (i := 16) rfl (by kernel_rfl) rfl
                · intro w' hC K hK
                  go_wp2
                  exact hK
                · rfl
                refine AnyC.done (F49.out.ln 1 rfl _ (Below.refl _ _)) (by kernel_rfl) ?_
                exact ⟨b5, F49.out, rfl⟩
            · skip
              go_wp2_with (refine s_alloc F24.out rfl rfl zeroN rfl ?_; intro wx50 b5 h1 _; have F50 := Lib.hid h1; clear h1)
              refine ⟨rfl, ?_⟩
              apply AnyC.solo (i := 6) rfl (by kernel_rfl) (F50.out.ln 1 rfl _ (Below.refl _ _))
              go_wp2_with (go_at_call 146; refine (Co.out _).mono ?_; rintro e wx51 ⟨rfl, hb⟩; have F51 := Lib.hid (F50.out.later hb); clear hb)
              refine ⟨rfl, ?_⟩
              apply AnyC.solo (i := 7) rfl (by kernel_rfl) (F51.out.ln 1 rfl _ (Below.refl _ _))
              go_wp2_with (go_at_call 148; refine (Cd1.out _).mono ?_; rintro e wx52 ⟨rfl, hb⟩; have F52 := Lib.hid (F51.out.later hb); clear hb)
              refine ⟨rfl, ?_⟩
              apply AnyC.solo (i := 8) rfl (by kernel_rfl) (F52.out.ln 1 rfl _ (Below.refl _ _))
              go_wp2_with (go_at_call 147; refine (Civ.out _).mono ?_; rintro e wx53 ⟨rfl, hb⟩; have F53 := Lib.hid (F52.out.later hb); clear hb)
              refine ⟨rfl, ?_⟩
              apply AnyC.solo (i := 9) rfl (by kernel_rfl) (F53.out.ln 1 rfl _ (Below.refl _ _))
              go_wp2_with (go_at_call 143; refine (Ca.out _).mono ?_; rintro e wx54 ⟨rfl, hb⟩; have F54 := Lib.hid (F53.out.later hb); clear hb)
              refine ⟨rfl, ?_⟩
              apply AnyC.solo (i := 10) rfl (by kernel_rfl) (F54.out.ln 1 rfl _ (Below.refl _ _))
              go_wp2_with (go_at_call 144; refine (Cl.out _).mono ?_; rintro e wx55 ⟨rfl, hb⟩; have F55 := Lib.hid (F54.out.later hb); clear hb)
              refine ⟨rfl, ?_⟩
              apply AnyC.take (i := 11) rfl (by kernel_rfl) rfl
              · intro w' hC K hK
                go_wp2
                exact hK
              · rfl
              apply AnyC.take (i := 12) rfl (by kernel_rfl) rfl
              · intro w' hC K hK
                go_wp2
                exact hK
              · rfl
              apply AnyC.take (i := 13) rfl (by kernel_rfl) rfl
              · intro w' hC K hK
                go_wp2
                exact hK
              · rfl
              apply AnyC.solo (i := 15) rfl (by kernel_rfl) (F55.out.ln 1 rfl _ (Below.refl _ _))
              go_wp2_with (refine s_store F55.out rfl rfl 0 rfl rfl (nc l) rfl rfl (by kernel_rfl) (nc_cells _) ?_; intro wx56 h1; have F56 := Lib.hid h1; clear h1)
              refine ⟨rfl, ?_⟩
              apply AnyC.take (i := 16) rfl (by kernel_rfl) rfl
              · intro w' hC K hK
                go_wp2
                exact hK
              · rfl
              refine AnyC.done (F56.out.ln 1 rfl _ (Below.refl _ _)) (by kernel_rfl) ?_
              exact ⟨b5, F56.out, rfl⟩
          · skip
            go_wp2_with (refine s_alloc F23.out rfl rfl zeroN rfl ?_; intro wx57 b5 h1 _; have F57 := Lib.hid h1; clear h1)
            refine ⟨rfl, ?_⟩
            apply AnyC.solo (i := 5) rfl (by kernel_rfl) (F57.out.ln 1 rfl _ (Below.refl _ _))
            go_wp2_with (go_at_call 143; refine (Cdy.out _).mono ?_; rintro e wx58 ⟨rfl, hb⟩; have F58 := Lib.hid (F57.out.later hb); clear hb)
            refine ⟨rfl, ?_⟩
            apply AnyC.solo (i := 6) rfl (by kernel_rfl) (F58.out.ln 1 rfl _ (Below.refl _ _))
            go_wp2_with (go_at_call 146; refine (Co.out _).mono ?_; rintro e wx59 ⟨rfl, hb⟩; have F59 := Lib.hid (F58.out.later hb); clear hb)
            refine ⟨rfl, ?_⟩
            apply AnyC.solo (i := 7) rfl (by kernel_rfl) (F59.out.ln 1 rfl _ (Below.refl _ _))
            go_wp2_with (go_at_call 148; refine (Cd1.out _).mono ?_; rintro e wx60 ⟨rfl, hb⟩; have F60 := Lib.hid (F59.out.later hb); clear hb)
            refine ⟨rfl, ?_⟩
            apply AnyC.solo (i := 8) rfl (by kernel_rfl) (F60.out.ln 1 rfl _ (Below.refl _ _))
            go_wp2_with (go_at_call 147; refine (Civ.out _).mono ?_; rintro e wx61 ⟨rfl, hb⟩; have F61 := Lib.hid (F60.out.later hb); clear hb)
            refine ⟨rfl, ?_⟩
            apply AnyC.solo (i := 9) rfl (by kernel_rfl) (F61.out.ln 1 rfl _ (Below.refl _ _))
            go_wp2_with (go_at_call 143; refine (Ca.out _).mono ?_; rintro e wx62 ⟨rfl, hb⟩; have F62 := Lib.hid (F61.out.later hb); clear hb)
            refine ⟨rfl, ?_⟩
            apply AnyC.solo (i := 10) rfl (by kernel_rfl) (F62.out.ln 1 rfl _ (Below.refl _ _))
            go_wp2_with (go_at_call 144; refine (Cl.out _).mono ?_; rintro e wx63 ⟨rfl, hb⟩; have F63 := Lib.hid (F62.out.later hb); clear hb)
            refine ⟨rfl, ?_⟩
            apply AnyC.take (i := 11) rfl (by kernel_rfl) rfl
            · intro w' hC K hK
              go_wp2
              exact hK
            · rfl
            apply AnyC.take (i := 12) rfl (by kernel_rfl) rfl
            · intro w' hC K hK
              go_wp2
              exact hK
            · rfl
            apply AnyC.take (i := 13) rfl (by kernel_rfl) rfl
            · intro w' hC K hK
              go_wp2
              exact hK
            · rfl
            apply AnyC.solo (i := 15) rfl (by kernel_rfl) (F63.out.ln 1 rfl _ (Below.refl _ _))
            go_wp2_with (refine s_store F63.out rfl rfl 0 rfl rfl (nc l) rfl rfl (by kernel_rfl) (nc_cells _) ?_; intro wx64 h1; have F64 := Lib.hid h1; clear h1)
            refine ⟨rfl, ?_⟩
            apply AnyC.take (i := 16) rfl (by kernel_rfl) rfl
            · intro w' hC K hK
              go_wp2
              exact hK
            · rfl
            refine AnyC.done (F64.out.ln 1 rfl _ (Below.refl _ _)) (by kernel_rfl) ?_
            exact ⟨b5, F64.out, rfl⟩
        · skip
          go_wp2_with (refine s_alloc F22.out rfl rfl zeroN rfl ?_; intro wx65 b5 h1 _; have F65 := Lib.hid h1; clear h1)
          refine ⟨rfl, ?_⟩
          apply AnyC.solo (i := 3) rfl (by kernel_rfl) (F65.out.ln 1 rfl _ (Below.refl _ _))
          go_wp2_with (go_at_call 149; refine (Cd.out _).mono ?_; rintro e wx66 ⟨rfl, hb⟩; have F66 := Lib.hid (F65.out.later hb); clear hb)
          refine ⟨rfl, ?_⟩
          apply AnyC.solo (i := 5) rfl (by kernel_rfl) (F66.out.ln 1 rfl _ (Below.refl _ _))
          go_wp2_with (go_at_call 143; refine (Cdy.out _).mono ?_; rintro e wx67 ⟨rfl, hb⟩; have F67 := Lib.hid (F66.out.later hb); clear hb)
          refine ⟨rfl, ?_⟩
          apply AnyC.solo (i := 6) rfl (by kernel_rfl) (F67.out.ln 1 rfl _ (Below.refl _ _))
          go_wp2_with (go_at_call 146; refine (Co.out _).mono ?_; rintro e wx68 ⟨rfl, hb⟩; have F68 := Lib.hid (F67.out.later hb); clear hb)
          refine ⟨rfl, ?_⟩
          apply AnyC.solo (i := 7) rfl (by kernel_rfl) (F68.out.ln 1 rfl _ (Below.refl _ _))
          go_wp2_with (go_at_call 148; refine (Cd1.out _).mono ?_; rintro e wx69 ⟨rfl, hb⟩; have F69 := Lib.hid (F68.out.later hb); clear hb)
          refine ⟨rfl, ?_⟩
          apply AnyC.solo (i := 8) rfl (by kernel_rfl) (F69.out.ln 1 rfl _ (Below.refl _ _))
          go_wp2_with (go_at_call 147; refine (Civ.out _).mono ?_; rintro e wx70 ⟨rfl, hb⟩; have F70 := Lib.hid (F69.out.later hb); clear hb)
          refine ⟨rfl, ?_⟩
          apply AnyC.solo (i := 9) rfl (by kernel_rfl) (F70.out.ln 1 rfl _ (Below.refl _ _))
          go_wp2_with (go_at_call 143; refine (Ca.out _).mono ?_; rintro e wx71 ⟨rfl, hb⟩; have F71 := Lib.hid (F70.out.later hb); clear hb)
          refine ⟨rfl, ?_⟩
          apply AnyC.solo (i := 10) rfl (by kernel_rfl) (F71.out.ln 1 rfl _ (Below.refl _ _))
          go_wp2_with (go_at_call 144; refine (Cl.out _).mono ?_; rintro e wx72 ⟨rfl, hb⟩; have F72 := Lib.hid (F71.out.later hb); clear hb)
          refine ⟨rfl, ?_⟩
          apply AnyC.take (i := 11) rfl (by kernel_rfl) rfl
          · intro w' hC K hK
            go_wp2
            exact hK
          · rfl
          apply AnyC.take (i := 12) rfl (by kernel_rfl) rfl
          · intro w' hC K hK
            go_wp2
            exact hK
          · rfl
          apply AnyC.take (i := 13) rfl (by kernel_rfl) rfl
          · intro w' hC K hK
            go_wp2
            exact hK
          · rfl
          apply AnyC.solo (i := 15) rfl (by kernel_rfl) (F72.out.ln 1 rfl _ (Below.refl _ _))
          go_wp2_with (refine s_store F72.out rfl rfl 0 rfl rfl (nc l) rfl rfl (by kernel_rfl) (nc_cells _) ?_; intro wx73 h1; have F73 := Lib.hid h1; clear h1)
          refine ⟨rfl, ?_⟩
          apply AnyC.take (i := 16) rfl (by kernel_rfl) rfl
          · intro w' hC K hK
            go_wp2
            exact hK
          · rfl
          refine AnyC.done (F73.out.ln 1 rfl _ (Below.refl _ _)) (by kernel_rfl) ?_
          exact ⟨b5, F73.out, rfl⟩
      · skip
        go_wp2_with (refine s_alloc F21.out rfl rfl zeroN rfl ?_; intro wx74 b5 h1 _; have F74 := Lib.hid h1; clear h1)
        refine ⟨rfl, ?_⟩
        apply AnyC.solo (i := 2) rfl (by kernel_rfl) (F74.out.ln 1 rfl _ (Below.refl _ _))
        go_wp2_with (go_at_call 145; refine (Cn1.out _).mono ?_; rintro e wx75 ⟨rfl, hb⟩; have F75 := Lib.hid (F74.out.later hb); clear hb)
        refine ⟨rfl, ?_⟩
        apply AnyC.solo (i := 3) rfl (by kernel_rfl) (F75.out.ln 1 rfl _ (Below.refl _ _))
        go_wp2_with (go_at_call 149; refine (Cd.out _).mono ?_; rintro e wx76 ⟨rfl, hb⟩; have F76 := Lib.hid (F75.out.later hb); clear hb)
        refine ⟨rfl, ?_⟩
        apply AnyC.solo (i := 5) rfl (by kernel_rfl) (F76.out.ln 1 rfl _ (Below.refl _ _))
        go_wp2_with (go_at_call 143; refine (Cdy.out _).mono ?_; rintro e wx77 ⟨rfl, hb⟩; have F77 := Lib.hid (F76.out.later hb); clear hb)
        refine ⟨rfl, ?_⟩
        apply AnyC.solo (i := 6) rfl (by kernel_rfl) (F77.out.ln 1 rfl _ (Below.refl _ _))
        go_wp2_with (go_at_call 146; refine (Co.out _).mono ?_; rintro e wx78 ⟨rfl, hb⟩; have F78 := Lib.hid (F77.out.later hb); clear hb)
        refine ⟨rfl, ?_⟩
        apply AnyC.solo (i := 7) rfl (by kernel_rfl) (F78.out.ln 1 rfl _ (Below.refl _ _))
        go_wp2_with (go_at_call 148; refine (Cd1.out _).mono ?_; rintro e wx79 ⟨rfl, hb⟩; have F79 := Lib.hid (F78.out.later hb); clear hb)
        refine ⟨rfl, ?_⟩
        apply AnyC.solo (i := 8) rfl (by kernel_rfl) (F79.out.ln 1 rfl _ (Below.refl _ _))
        go_wp2_with (go_at_call 147; refine (Civ.out _).mono ?_; rintro e wx80 ⟨rfl, hb⟩; have F80 := Lib.hid (F79.out.later hb); clear hb)
        refine ⟨rfl, ?_⟩
        apply AnyC.solo (i := 9) rfl (by kernel_rfl) (F80.out.ln 1 rfl _ (Below.refl _ _))
        go_wp2_with (go_at_call 143; refine (Ca.out _).mono ?_; rintro e wx81 ⟨rfl, hb⟩; have F81 := Lib.hid (F80.out.later hb); clear hb)
        refine ⟨rfl, ?_⟩
        apply AnyC.solo (i := 10) rfl (by kernel_rfl) (F81.out.ln 1 rfl _ (Below.refl _ _))
        go_wp2_with (go_at_call 144; refine (Cl.out _).mono ?_; rintro e wx82 ⟨rfl, hb⟩; have F82 := Lib.hid (F81.out.later hb); clear hb)
        refine ⟨rfl, ?_⟩
        apply AnyC.take (i := 11) rfl (by kernel_rfl) rfl
        · intro w' hC K hK
          go_wp2
          exact hK
        · rfl
        apply AnyC.take (i := 12) rfl (by kernel_rfl) rfl
        · intro w' hC K hK
          go_wp2
          exact hK
        · rfl
        apply AnyC.take (i := 13) rfl (by kernel_rfl) rfl
        · intro w' hC K hK
          go_wp2
          exact hK
        · rfl
        apply AnyC.solo (i := 15) rfl (by kernel_rfl) (F82.out.ln 1 rfl _ (Below.refl _ _))
        go_wp2_with (refine s_store F82.out rfl rfl 0 rfl rfl (nc l) rfl rfl (by kernel_rfl) (nc_cells _) ?_; intro wx83 h1; have F83 := Lib.hid h1; clear h1)
        refine ⟨rfl, ?_⟩
        apply AnyC.take (i := 16) rfl (by kernel_rfl) rfl
        · intro w' hC K hK
          go_wp2
          exact hK
        · rfl
        refine AnyC.done (F83.out.ln 1 rfl _ (Below.refl _ _)) (by kernel_rfl) ?_
        exact ⟨b5, F83.out, rfl⟩
    · skip
      go_wp2_with (refine s_alloc F11.out rfl rfl zeroN rfl ?_; intro wx84 b5 h1 _; have F84 := Lib.hid h1; clear h1)
      refine ⟨rfl, ?_⟩
      apply AnyC.solo (i := 1) rfl (by kernel_rfl) (F84.out.ln 1 rfl _ (Below.refl _ _))
      go_wp2_with (go_at_call 146; refine (Co.out _).mono ?_; rintro e wx85 ⟨rfl, hb⟩; have F85 := Lib.hid (F84.out.later hb); clear hb)
      refine ⟨rfl, ?_⟩
      apply AnyC.solo (i := 2) rfl (by kernel_rfl) (F85.out.ln 1 rfl _ (Below.refl _ _))
      go_wp2_with (go_at_call 145; refine (Cn1.out _).mono ?_; rintro e wx86 ⟨rfl, hb⟩; have F86 := Lib.hid (F85.out.later hb); clear hb)
      refine ⟨rfl, ?_⟩
      apply AnyC.solo (i := 3) rfl (by kernel_rfl) (F86.out.ln 1 rfl _ (Below.refl _ _))
      go_wp2_with (go_at_call 149; refine (Cd.out _).mono ?_; rintro e wx87 ⟨rfl, hb⟩; have F87 := Lib.hid (F86.out.later hb); clear hb)
      refine ⟨rfl, ?_⟩
      apply AnyC.solo (i := 5) rfl (by kernel_rfl) (F87.out.ln 1 rfl _ (Below.refl _ _))
      go_wp2_with (go_at_call 143; refine (Cdy.out _).mono ?_; rintro e wx88 ⟨rfl, hb⟩; have F88 := Lib.hid (F87.out.later hb); clear hb)
      refine ⟨rfl, ?_⟩
      apply AnyC.solo (i := 6) rfl (by kernel_rfl) (F88.out.ln 1 rfl _ (Below.refl _ _))
      go_wp2_with (go_at_call 146; refine (Co.out _).mono ?_; rintro e wx89 ⟨rfl, hb⟩; have F89 := Lib.hid (F88.out.later hb); clear hb)
      refine ⟨rfl, ?_⟩
      apply AnyC.solo (i := 7) rfl (by kernel_rfl) (F89.out.ln 1 rfl _ (Below.refl _ _))
      go_wp2_with (go_at_call 148; refine (Cd1.out _).mono ?_; rintro e wx90 ⟨rfl, hb⟩; have F90 := Lib.hid (F89.out.later hb); clear hb)
      refine ⟨rfl, ?_⟩
      apply AnyC.solo (i := 8) rfl (by kernel_rfl) (F90.out.ln 1 rfl _ (Below.refl _ _))
      go_wp2_with (go_at_call 147; refine (Civ.out _).mono ?_; rintro e wx91 ⟨rfl, hb⟩; have F91 := Lib.hid (F90.out.later hb); clear hb)
      refine ⟨rfl, ?_⟩
      apply AnyC.solo (i := 9) rfl (by kernel_rfl) (F91.out.ln 1 rfl _ (Below.refl _ _))
      go_wp2_with (go_at_call 143; refine (Ca.out _).mono ?_; rintro e wx92 ⟨rfl, hb⟩; have F92 := Lib.hid (F91.out.later hb); clear hb)
      refine ⟨rfl, ?_⟩
      apply AnyC.solo (i := 10) rfl (by kernel_rfl) (F92.out.ln 1 rfl _ (Below.refl _ _))
      go_wp2_with (go_at_call 144; refine (Cl.out _).mono ?_; rintro e wx93 ⟨rfl, hb⟩; have F93 := Lib.hid (F92.out.later hb); clear hb)
      refine ⟨rfl, ?_⟩
      apply AnyC.take (i := 11) rfl (by kernel_rfl) rfl
      · intro w' hC K hK
        go_wp2
        exact hK
      · rfl
      apply AnyC.take (i := 12) rfl (by kernel_rfl) rfl
      · intro w' hC K hK
        go_wp2
        exact hK
      · rfl
      apply AnyC.take (i := 13) rfl (by kernel_rfl) rfl
      · intro w' hC K hK
        go_wp2
        exact hK
      · rfl
      apply AnyC.solo (i := 15) rfl (by kernel_rfl) (F93.out.ln 1 rfl _ (Below.refl _ _))
      go_wp2_with (refine s_store F93.out rfl rfl 0 rfl rfl (nc l) rfl rfl (by kernel_rfl) (nc_cells _) ?_; intro wx94 h1; have F94 := Lib.hid h1; clear h1)
      refine ⟨rfl, ?_⟩
      apply AnyC.take (i := 16) rfl (by kernel_rfl) rfl
      · intro w' hC K hK
        go_wp2
        exact hK
      · rfl
      refine AnyC.done (F94.out.ln 1 rfl _ (Below.refl _ _)) (by kernel_rfl) ?_
      exact ⟨b5, F94.out, rfl⟩
  case hK1 =>
    rintro a12 w12 ⟨b5, h12, rfl⟩
    have F12 := Lib.hid h12
    clear h12
    go_wp2
    refine AnyC.startB (fun w' => w'.rangeAt b5 0 (nc l).toList) (by kernel_rfl) rfl ?_
    intro wd hbd _
    have F13 := Lib.hid (F12.out.later hbd)
    clear hbd F12
    apply AnyC.take (i := 0) rfl (by kernel_rfl) rfl
    · intro w' hC K hK
      refine wpList_load_arr rfl 181 _ rfl b5 0 rfl (nc l) _ hC Tryz.underlying181 rfl (by kernel_rfl) ?_
      go_wp2
      exact hK
    · rfl
    apply AnyC.solo (i := 1) rfl (by kernel_rfl) (F13.out.ln 0 rfl _ (Below.refl _ _))
    go_wp2_with (go_at_call 146; refine (Cz.out _).mono ?_; rintro e w14 ⟨rfl, hb⟩; have F14 := Lib.hid (F13.out.later hb); clear hb)
    refine ⟨rfl, ?_⟩
    apply AnyC.take (i := 2) rfl (by kernel_rfl) rfl
    · intro w' hC K hK
      have hq := Hq.out w'
      go_wp2
      exact hK
    · rfl
    apply AnyC.take (i := 3) rfl (by kernel_rfl) rfl
    · intro w' hC K hK
      go_wp2
      exact hK
    · rfl
    apply AnyC.take (i := 4) rfl (by kernel_rfl) rfl
    · intro w' hC K hK
      go_wp2
      exact hK
    · rfl
    apply AnyC.take (i := 5) rfl (by kernel_rfl) rfl
    · intro w' hC K hK
      go_wp2
      exact hK
    · rfl
    apply AnyC.take (i := 6) rfl (by kernel_rfl) rfl
    · intro w' hC K hK
      go_wp2
      exact hK
    · rfl
    refine AnyC.done (F14.out.ln 0 rfl _ (Below.refl _ _)) (by kernel_rfl) ?_
    have c0 := HL0.out _ _ _ (F14.out.mem (i := 0) rfl)
    clear F13
    go_wp2
    refine wp_region_walk 4 [] (by kernel_rfl) (by kernel_rfl) (allocs_ok (by kernel_rfl) (fun x hx => (List.not_mem_nil hx).elim)) ?Af2 ?h2 ?hK2
    case h2 =>
      intro F hF hNe
      try simp only [Act.put]
      try simp only [List.setIfInBounds_toArray, List.set_cons_succ, List.set_cons_zero]
      try simp only [List.append_eq]
      try simp only [List.cons_append, List.nil_append]
      simp only [List.take_succ_cons, List.take_zero]
      go_big_quiet_step (exact fs_call hF (Cz.out _))
      go_big_quiet_want
      refine q_load_n rfl l rfl (F14.out.ln 0 rfl) ?_
      go_big_quiet_on
      simp only [Act.put, List.setIfInBounds_toArray, List.set_cons_succ, List.set_cons_zero]
      go_big_quiet_step (exact fs_call hF (Cm.out _))
      go_big_quiet_step (exact fs_call hF (Cn.out _))
      refine wpQuiet_nil ?_
      exact rfl
    case hK2 =>
      intro w15 hb
      have F15 := Lib.hid (F14.out.later hb)
      clear hb
      simp only [freshQ]
      try simp only [Act.put]
      try simp only [List.setIfInBounds_toArray, List.set_cons_succ, List.set_cons_zero]
      try simp only [List.append_eq]
      try simp only [List.cons_append, List.nil_append]
      simp only [List.length_nil, Nat.reduceAdd, List.drop_succ_cons, List.drop_zero]
      have T0 : Hid True := trivial
      go_wp2_with (have hx_ := T0; refine s_store F15.out rfl rfl 0 rfl rfl (nc n) rfl rfl (by kernel_rfl) (nc_cells _) ?_; clear hx_ T0; intro w16 h1; have F16 := Lib.hid h1; clear h1 F15)
      refine wp_region_walk 7 [] (by kernel_rfl) (by kernel_rfl) (allocs_ok (by kernel_rfl) (fun x hx => (List.not_mem_nil hx).elim)) ?Af3 ?h3 ?hK3
      case h3 =>
        intro F hF hNe
        try simp only [Act.put]
        try simp only [List.setIfInBounds_toArray, List.set_cons_succ, List.set_cons_zero]
        try simp only [List.append_eq]
        try simp only [List.cons_append, List.nil_append]
        simp only [List.take_succ_cons, List.take_zero]
        go_big_quiet_want
        refine q_load_n rfl n rfl (F16.out.ln 0 rfl) ?_
        go_big_quiet_on
        simp only [Act.put, List.setIfInBounds_toArray, List.set_cons_succ, List.set_cons_zero]
        go_big_quiet_want
        refine q_load_n rfl v rfl (F16.out.ln 2 rfl) ?_
        go_big_quiet_on
        simp only [Act.put, List.setIfInBounds_toArray, List.set_cons_succ, List.set_cons_zero]
        go_big_quiet_step (exact fs_call hF (Co.out _))
        go_big_quiet_want
        refine q_load_n rfl n rfl (F16.out.ln 0 rfl) ?_
        go_big_quiet_on
        simp only [Act.put, List.setIfInBounds_toArray, List.set_cons_succ, List.set_cons_zero]
        go_big_quiet_want
        refine q_load_n rfl v rfl (F16.out.ln 2 rfl) ?_
        go_big_quiet_on
        simp only [Act.put, List.setIfInBounds_toArray, List.set_cons_succ, List.set_cons_zero]
        go_big_quiet_step (exact fs_call hF (Ct.out _))
        go_big_quiet_want
        refine q_build_r rfl n v o t rfl rfl rfl rfl ?_
        go_big_quiet_on
        simp only [Act.put, List.setIfInBounds_toArray, List.set_cons_succ, List.set_cons_zero]
        refine wpQuiet_nil ?_
        exact rfl
      case hK3 =>
        intro w17 hb
        have F17 := Lib.hid (F16.out.later hb)
        clear hb
        simp only [freshQ]
        try simp only [Act.put]
        try simp only [List.setIfInBounds_toArray, List.set_cons_succ, List.set_cons_zero]
        try simp only [List.append_eq]
        try simp only [List.cons_append, List.nil_append]
        simp only [List.length_nil, Nat.reduceAdd, List.drop_succ_cons, List.drop_zero]
        have T0 : Hid True := trivial
        go_wp2_with (have hx_ := T0; refine s_store F17.out rfl rfl 3 rfl rfl (Rt.mk n v o t).cs rfl rfl (by kernel_rfl) (Rt.cells _) ?_; clear hx_ T0; intro w18 h1; have F18 := Lib.hid h1; clear h1 F17)
        exact bodyPost_ret (v := .tuple #[.agg (Rt.mk n v o t).cs, .bool true]) (by simp [results, Tryz.results96, asAddr, retR (F18.out.mem (i := 3) rfl)]) rfl ⟨rfl, F18.out.below⟩
end Go.Proofs.YtnhdepmalejclaaGreatDoor
