/- HttpAnswers: the walk. No conditions. -/
import Derived.Test.YtjichadkonlfpaaDoorH14
import Derived.Test.YtjichadkonlfpaaDoorHA6
import Derived.Test.YtjichadkonlfpaaDoorArgInt
import Derived.Test.YtjichadkonlfpaaDoorArgBool
import Derived.Test.YtjichadkonlfpaaDoorArgBytes
namespace Go.Proofs.YtjichadkonlfpaaDoor
open Go.RowKit
theorem own8_empty (w : World) : Own8 (w.alloc (.cells #[] 5)) w.heap.size (.slice (some ⟨w.heap.size, 0, none⟩) 0 0) [] := by
  refine ⟨by simp [bvs], .inr ⟨w.heap.size, 0, #[], rfl, Nat.le_refl _, heap_alloc_new w _, Nat.le_refl _, Nat.zero_le _, rfl, by simp [bvs]⟩⟩
set_option maxRecDepth 100000 in
set_option maxHeartbeats 1000000 in
theorem answers_walk (v0 v1 v2 : Value) (st : Int) (l : List UInt8) (cl : Bool) (w : World) (a0 : ArgI v0 st) (a1 : ArgB w v1 l) (a2 : ArgBl v2 cl) (htab : Pow10 w) :
    Calls Tryd.prog 6 #[v0, v1, v2] w fun e w' => e = .returned (.bool true) ∧ Below w.heap.size w w' := by
  obtain ⟨rfl, s0, s1⟩ := a0
  obtain ⟨A, c, rfl, _, hr, hl⟩ := a1
  have a2' : v2 = .bool cl := a2
  subst a2'
  have hl2 : l.length ≤ 140737488351232 := by have := hl; unfold reachBytes at this; omega
  have HR := Lib.hid hr
  have HT := Lib.hid htab
  obtain ⟨m, hm⟩ : ∃ m, m = l.length := ⟨_, rfl⟩
  have HM := Lib.hid hm
  rw [← hm] at hl2 HR ⊢
  have hlI : (m : Int) ≤ 140737488351232 := by omega
  have HL := Lib.hid hl2
  have S0 := Lib.hid s0
  have S1 := Lib.hid s1
  clear hr htab hl hm a2 s0 s1
  have T0 : Hid True := trivial
  obtain ⟨Q, hQ⟩ : ∃ Q, Q = l ++ [77] := ⟨_, rfl⟩
  have HQ := Lib.hid hQ
  have hQl : Q.length = m + 1 := by rw [hQ, HM.out]; simp
  have HQL := Lib.hid hQl
  clear hQ hQl
  go_enter Tryd.func6, Tryd.ntmps6
  go_wp2_with (first
    | (go_at_call 7; go_must (refine (awake_any w).mono ?_; rintro e w1 ⟨rfl, hb⟩; have HB1 := Lib.hid hb; clear hb))
    | (at_builtin; have hx_ := T0; go_must (refine app8 (l := []) (news := l) (base := w1.heap.size) (B := w.heap.size) rfl rfl rfl rfl (own8_empty w1) (HR.out.below (HB1.out.alloc HB1.out.size _)) (by have h_ := HL.out; simp; omega) (by simp) ?_; intro v2 w2 ho hg hx; obtain ⟨A2, c2, hv2, _, _⟩ := own8_form' (n := m) ho (by rw [HM.out]; simp); subst hv2; have O2 : Hid (Own8 w2 w1.heap.size (.slice A2 m c2) l) := ho; have B2 := Lib.hid (Below.grown (HB1.out.alloc HB1.out.size (.cells #[] 5)) hg (HB1.out.alloc HB1.out.size _).size (fun j hj => by cases hj; exact HB1.out.size)); have Z2 := Lib.hid (Nat.le_trans (by simp) hg.size : w1.heap.size ≤ w2.heap.size); clear ho hg hx T0 hx_))
    | (at_builtin; go_must (refine app8 (l := l) (news := [77]) (base := w1.heap.size) rfl rfl rfl rfl (O2.out.alloc _) (reads_block (l := [77]) (n := 1) (heap_alloc_new w2 _) rfl) (by have h_ := HL.out; have h2_ := HM.out; omega) (Nat.le_trans Z2.out (by simp)) ?_; intro v3 w3 ho hg hx; rw [← HQ.out] at ho; have hlt3 := own8_lt ho; obtain ⟨A3, c3, hv3, hc3, hr3⟩ := own8_form' (n := m + 1) ho HQL.out; subst hv3; have O3 := Lib.hid ho; have B3 := Lib.hid (Below.grown (B2.out.alloc B2.out.size (.cells #[.int .u8 77] 5)) hg (B2.out.alloc B2.out.size _).size (fun j hj => Nat.le_trans HB1.out.size (own8_lt O2.out j hj).1)); have R3 := Lib.hid hr3; have hc3I : (m : Int) + 1 ≤ (c3 : Int) := (by omega); have hc3N : m ≤ c3 := (by omega); clear ho hg hx hr3 hlt3 hc3))
    | (go_at_call 15; go_must (have h_ := R3.out.take (k := m) (by omega); rw [Nat.mul_one, HQ.out, show (bvs (l ++ [77])).take m = bvs l from by rw [bvs_append, HM.out, ← bvs_length l, List.take_left]] at h_; rw [HM.out] at h_ ⊢; refine (respond_any st S0.out S1.out _ _ l cl w3 h_ (by rw [← HM.out]; exact HL.out) (tab_below HT.out B3.out)).mono ?_; rintro e w4 ⟨A4, c4, rfl, hr4, hb4⟩; have R4 := Lib.hid hr4; have HB4 := Lib.hid hb4; clear hr4 hb4 h_)))
  obtain ⟨RS, hRS⟩ : ∃ RS, RS = respP (codeN st) st l cl := ⟨_, rfl⟩
  rw [← hRS] at R4 ⊢
  have HRS := Lib.hid hRS
  obtain ⟨b3, o3, hA3, hb3, hc3⟩ := R3.out.bytes (by omega)
  subst hA3
  have c3c := hc3 m (by omega)
  have hg : (l ++ [(77 : UInt8)]).getD m 0 = 77 := by rw [HM.out]; simp
  rw [HQ.out, hg] at c3c
  have C3 : Hid (∀ w', Below w4.heap.size w4 w' → w'.cell? ⟨b3, o3 + l.length, none⟩ = some (.int .u8 77)) := by
    intro w' hb
    rw [← HM.out]
    refine (hb.cell (p := ⟨b3, o3 + m, none⟩) (Nat.lt_of_lt_of_le hb3 HB4.out.size)).trans ?_
    exact (HB4.out.cell (p := ⟨b3, o3 + m, none⟩) hb3).trans c3c
  have HB44 := Lib.hid (B3.out.trans (HB4.out.mono B3.out.size))
  have lI : (l.length : Int) ≤ 140737488351232 := by rw [← HM.out]; exact hlI
  have lI0 : (0 : Int) ≤ (l.length : Int) := by omega
  clear hRS hc3 c3c hb3 hlI
  refine AnyC.startB (fun w' => Below w4.heap.size w4 w') (by kernel_rfl) rfl ?_
  intro w5 hb5 _
  have HB5 := Lib.hid hb5
  clear hb5
  apply AnyC.take (i := 0) rfl (by kernel_rfl) rfl
  · intro w' hC K hK
    go_wp2
    exact hK
  · rfl
  apply AnyC.take (i := 1) rfl (by kernel_rfl) rfl
  · intro w' hC K hK
    have cc := run_str8 (R4.out.below hC) c4
    go_wp2
    exact hK
  · rfl
  apply AnyC.take (i := 2) rfl (by kernel_rfl) rfl
  · intro w' hC K hK
    go_wp2
    exact hK
  · rfl
  apply AnyC.take (i := 3) rfl (by kernel_rfl) rfl
  · intro w' hC K hK
    go_wp2
    exact hK
  · rfl
  apply AnyC.take (i := 4) rfl (by kernel_rfl) rfl
  · intro w' hC K hK
    go_wp2
    exact hK
  · rfl
  apply AnyC.solo (i := 5) rfl (by kernel_rfl) HB5.out
  go_wp2_with (go_at_call 16; go_must (refine (rRespond_any st A c l cl w5 (by rw [← HM.out]; exact HR.out.bel (HB44.out.trans (HB5.out.mono HB44.out.size)) (Nat.le_trans HB44.out.size HB5.out.size)) (by rw [← HM.out]; exact HL.out)).mono ?_; rintro e w6 ⟨A6, c6, rfl, hr6, hb6⟩; rw [← HRS.out] at hr6; rw [← HRS.out]; have R6 := Lib.hid hr6; have HB6 := Lib.hid (HB5.out.trans (hb6.mono HB5.out.size)); clear hr6 hb6))
  refine ⟨rfl, ?_⟩
  have cc6 := run_str8 R6.out c6
  apply AnyC.solo (i := 6) rfl (by kernel_rfl) HB6.out
  go_wp2
  refine ⟨rfl, ?_⟩
  clear cc6
  apply AnyC.take (i := 7) rfl (by kernel_rfl) rfl
  · intro w' hC K hK
    go_wp2
    exact hK
  · rfl
  apply AnyC.take (i := 8) rfl (by kernel_rfl) rfl
  · intro w' hC K hK
    go_wp2
    exact hK
  · rfl
  apply AnyC.take (i := 9) rfl (by kernel_rfl) rfl
  · intro w' hC K hK
    go_wp2
    exact hK
  · rfl
  apply AnyC.take (i := 10) rfl (by kernel_rfl) rfl
  · intro w' hC K hK
    go_wp2
    exact hK
  · rfl
  apply AnyC.take (i := 11) rfl (by kernel_rfl) rfl
  · intro w' hC K hK
    go_wp2
    exact hK
  · rfl
  apply AnyC.take (i := 12) rfl (by kernel_rfl) rfl
  · intro w' hC K hK
    go_wp2
    exact hK
  · rfl
  apply AnyC.take (i := 13) rfl (by kernel_rfl) rfl
  · intro w' hC K hK
    have cc := C3.out w' hC
    go_wp2
    exact hK
  · rfl
  apply AnyC.take (i := 14) rfl (by kernel_rfl) rfl
  · intro w' hC K hK
    go_wp2
    exact hK
  · rfl
  apply AnyC.take (i := 15) rfl (by kernel_rfl) rfl
  · intro w' hC K hK
    go_wp2
    exact hK
  · rfl
  apply AnyC.take (i := 16) rfl (by kernel_rfl) rfl
  · intro w' hC K hK
    go_wp2
    exact hK
  · rfl
  refine AnyC.done HB6.out (by kernel_rfl) ?_
  go_wp2
  go_ret
  exact ⟨rfl, HB44.out.trans (HB6.out.mono HB44.out.size)⟩
end Go.Proofs.YtjichadkonlfpaaDoor
