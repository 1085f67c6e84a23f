/- The texts PE12 PE13 of this work, merged by wip/merge.py. No conditions. -/
import Derived.Test.YtbcpmnnlhdgbhaaGreatDoorQG14
namespace Go.Proofs.YtbcpmnnlhdgbhaaGreatDoor
open Go.RowKit Go.Lib
theorem zeroT : ∀ w, (zeroValue 313).run Tryz.prog w = .ok (.agg (tabC fun _ => nilP)) w := fun w => by kernel_rfl
theorem built_T (p q : Pt) : Tryz.prog.built 313 [(0, .agg p.cs), (1, .agg q.cs)] = some (tabC (updP (updP (fun _ => nilP) 0 p) 1 q)) := by kernel_rfl
theorem q_build_t {o : Oper} {a : Act} {C : World → Prop} {K : Act → Prop} {x0 x1 : Operand} (ho : o.op = .build 313 #[(0, x0), (1, x1)]) (p : Pt) (h0 : a.eval x0 = .agg originP.cs) (h1 : a.eval x1 = .agg p.cs) (hk : K (a.put o.dst (.agg (tabC (tabF p 2))))) : o.quiet Tryz.prog a C K := by
  rw [← tabF_two] at hk
  refine ⟨_, fun w _ => ?_, hk⟩
  have e : (#[(0, x0), (1, x1)].map fun (i, x) => (i, a.eval x)) = #[(0, .agg originP.cs), (1, .agg p.cs)] := by simp [h0, h1]
  unfold Oper.quietAt execOp
  simp only [ho, e, run_build w _ _ _ (built_T originP p), Sem.run_bind, Sem.run_pure, Result.andThen_ok]
  exact ⟨rfl, rfl⟩
theorem tabC_cells (f : Nat → Pt) : ((tabC f).all fun v => v.oneCell') = true := by
  refine all_oneCell_toArray ?_
  have key : ∀ (n s : Nat), ∀ v ∈ tabR f s n, v.oneCell' = true := by
    intro n
    induction n with
    | zero => exact fun s v hv => (List.not_mem_nil hv).elim
    | succ n ih =>
      intro s v hv
      rcases List.mem_append.1 hv with hv | hv
      · have := (f s).cells
        rw [Array.all_eq_true_iff_forall_mem] at this
        exact this v (by simpa using hv)
      · exact ih _ v hv
  exact key 16 0
theorem and15 : ∀ b : UInt8, bits BinOp.and IntKind.u8 (b.toNat : Int) 15 = ((b.toNat % 16 : Nat) : Int) := by
  have h : ∀ n : Fin 256, bits BinOp.and IntKind.u8 ((UInt8.ofNat n.val).toNat : Int) 15 = (((UInt8.ofNat n.val).toNat % 16 : Nat) : Int) := by decide +kernel
  intro b
  have := h ⟨b.toNat, b.toNat_lt⟩
  simpa using this
theorem run_index2 (d1 d2 t : Nat) (ht : t < 2) (w : World) : (Instr.index 303 (.agg #[.int .u8 (d1 : Int), .int .u8 (d2 : Int)]) (.int .i64 (t : Int))).run Tryz.prog w = .ok (.int .u8 ((if t = 0 then d1 else d2 : Nat) : Int)) w := by
  obtain rfl | rfl : t = 0 ∨ t = 1 := by omega
  all_goals (change _ = _; kernel_rfl)
def twoP (p q : Pt) (d1 d2 : Nat) : Nat → Pt
  | 0 => q
  | 1 => stepP p q d1
  | _ => stepP p (stepP p q d1) d2
theorem twoP_succ (p q : Pt) (d1 d2 : Nat) {t : Nat} (ht : t < 2) : twoP p q d1 d2 (t + 1) = stepP p (twoP p q d1 d2 t) (if t = 0 then d1 else d2) := by
  obtain rfl | rfl : t = 0 ∨ t = 1 := by omega
  all_goals rfl
set_option maxRecDepth 100000 in
set_option maxHeartbeats 2000000 in
theorem timesP_any (p : Pt) (hp : p.ok) (n : List UInt8) (hn : n.length = 32) (w : World) : Calls Tryz.prog 152 #[.agg p.cs, .agg (bvs n).toArray] w (PRet (timesP p n) w) := by
  have HP := Lib.hid hp
  have HN := Lib.hid hn
  clear hp hn
  have F0 := Lib.hid (BK.start w)
  have T0 : Hid True := trivial
  go_enter Tryz.func152, Tryz.ntmps152
  go_wp2_with (first
    | (have hx_ := T0; refine s_box F0.out rfl rfl rfl rfl ?_; clear hx_ T0; intro w1 b1 h1 _; have F1 := Lib.hid h1; clear h1 F0; have T1 : Hid True := trivial)
    | (have hx_ := T1; refine s_box F1.out rfl rfl rfl rfl ?_; clear hx_ T1; intro w2 b2 h1 _; have F2 := Lib.hid h1; clear h1 F1; have T2 : Hid True := trivial)
    | (have hx_ := T2; refine s_alloc F2.out rfl rfl zeroP rfl ?_; clear hx_ T2; intro w3 b3 h1 _; have F3 := Lib.hid h1; clear h1 F2))
  refine wp_region_walk 3 [(5, tabC fun _ => nilP, 313)] (by kernel_rfl) (by kernel_rfl) (allocs_ok (by kernel_rfl) (fun x hx => by rw [List.mem_singleton.1 hx]; exact zeroT)) ?Af1 ?h1 ?hK1
  case h1 =>
    intro F hF hNe
    try simp only [Act.put]
    try simp only [List.setIfInBounds_toArray, List.set_cons_succ, List.set_cons_zero]
    try simp only [List.append_eq]
    try simp only [List.cons_append, List.nil_append]
    simp only [List.take_succ_cons, List.take_zero]
    go_big_quiet_step (exact fs_call hF (Origin_any _))
    go_big_quiet_want
    refine q_load_p rfl p rfl (F3.out.lp 2 rfl) ?_
    go_big_quiet_on
    simp only [Act.put, List.setIfInBounds_toArray, List.set_cons_succ, List.set_cons_zero]
    go_big_quiet_want
    refine q_build_t rfl p rfl rfl ?_
    go_big_quiet_on
    simp only [Act.put, List.setIfInBounds_toArray, List.set_cons_succ, List.set_cons_zero]
    refine wpQuiet_nil ?_
    exact rfl
  case hK1 =>
    intro w4 hb b5 hB5 hu5 hr5
    have F4 := Lib.hid (F3.out.found hb hB5 hr5)
    clear hb hB5 hu5 hr5
    simp only [freshQ]
    try simp only [Act.put]
    try simp only [List.setIfInBounds_toArray, List.set_cons_succ, List.set_cons_zero]
    simp only [List.length_cons, List.length_nil, Nat.reduceAdd, List.drop_succ_cons, List.drop_zero]
    go_wp2_with (refine s_store F4.out rfl rfl 0 rfl rfl (tabC (tabF p 2)) rfl (by rw [tabC_size, tabC_size]) (by rw [tabC_size]; kernel_rfl) (tabC_cells _) ?_; intro w5 h1; have F5 := Lib.hid h1; clear h1 F4)
    go_loopw [6] (fun iv wr => ∃ k : Nat, 2 ≤ k ∧ k ≤ 16 ∧ iv = .int .i64 (k : Int) ∧ Hid (BK w wr [(b5, tabC (tabF p k), 313), (b3, nilP.cs, 262), (b2, (bvs n).toArray, 31), (b1, p.cs, 262)])) (fun i _ => 16 - (intOf i).toNat)
    case atStart => exact ⟨2, by decide, by decide, rfl, F5.out⟩
    case round =>
      obtain ⟨k, hk2, hk, rfl, hF5⟩ := hrel
      clear F5
      by_cases hlt : k < 16
      · have hlt' : (k : Int) < 16 := by omega
        have hk0 : (0 : Int) ≤ (k : Int) := by omega
        have hk1 : (0 : Int) ≤ (k : Int) - 1 := by omega
        have hk3 : (k : Int) - 1 < 16 := by omega
        go_wp2
        obtain ⟨m, rfl⟩ : ∃ m, k = m + 1 := ⟨k - 1, by omega⟩
        have e1 : ((m + 1 : Nat) : Int) - 1 = (m : Int) := by omega
        refine wp_region_walk 8 [] (by kernel_rfl) (by kernel_rfl) (allocs_ok (by kernel_rfl) (fun x hx => (List.not_mem_nil hx).elim)) ?Af2 ?h2 ?hK2
        case h2 =>
          intro F hF hNe
          try simp only [Act.put]
          try simp only [List.setIfInBounds_toArray, List.set_cons_succ, List.set_cons_zero]
          try simp only [List.append_eq]
          try simp only [List.cons_append, List.nil_append]
          simp only [List.take_succ_cons, List.take_zero]
          iterate 4 (go_big_quiet_step (fail))
          go_big_quiet_want
          refine q_load_p rfl (tabP p m) rfl (by have h := hF5.out.lt16 0 rfl m (by omega); rw [show tabF p (m + 1) m = tabP p m from if_pos (by omega)] at h; exact h) ?_
          go_big_quiet_on
          simp only [Act.put, List.setIfInBounds_toArray, List.set_cons_succ, List.set_cons_zero]
          go_big_quiet_want
          refine q_load_p rfl p rfl (hF5.out.lp 3 rfl) ?_
          go_big_quiet_on
          simp only [Act.put, List.setIfInBounds_toArray, List.set_cons_succ, List.set_cons_zero]
          have C1 : ∀ w, Calls Tryz.prog 203 #[.agg (tabP p m).cs, .agg p.cs] w (fun e w' => e = .returned (.agg (tabP p (m + 1)).cs) ∧ Below w.heap.size w w') := fun w => by rw [tabP_succ p hk2]; exact plusP_any (tabP p m) p (tabP_ok HP.out m) HP.out w
          go_big_quiet_step (exact fs_call hF (C1 _))
          go_big_quiet_step (fail)
          refine wpQuiet_nil ?_
          exact rfl
        case hK2 =>
          intro w6 hb
          have F6 := Lib.hid (hF5.out.later hb)
          clear hb
          simp only [freshQ]
          try simp only [Act.put]
          simp only [List.length_nil, Nat.reduceAdd, List.drop_succ_cons, List.drop_zero]
          have HL := Lib.hid hlt
          clear hlt hk hk2
          go_wp2_with (refine s_store_t F6.out rfl rfl 0 rfl (m + 1) HL.out rfl (tabP p (m + 1)) rfl ?_; intro w7 h7; simp only [List.set_cons_zero] at h7; rw [tabF_upd] at h7; have F7 := Lib.hid h7; clear h7 F6)
          go_roundw
          case rel => exact ⟨m + 2, by omega, HL.out, by go_num, F7.out⟩
          case measure => simp [intOf]; have := HL.out; omega
      · obtain rfl : k = 16 := by omega
        have hd : decide (((16 : Nat) : Int) < 16) = false := by decide
        have T0 : Hid True := trivial
        go_wp2_with (first
          | (go_at_call 202; have hx_ := T0; refine (Origin_any _).mono ?_; clear hx_ T0; rintro e w6 ⟨rfl, hb⟩; have F6 := Lib.hid (hF5.out.later hb); clear hb hF5; have T1 : Hid True := trivial)
          | (have hx_ := T1; refine s_alloc F6.out rfl rfl zeroP rfl ?_; clear hx_ T1; intro w7 b7 h1 _; have F7 := Lib.hid h1; clear h1 F6; have T2 : Hid True := trivial)
          | (have hx_ := T2; refine s_store F7.out rfl rfl 0 rfl rfl originP.cs rfl rfl (by kernel_rfl) (Pt.cells _) ?_; clear hx_ T2; intro w8 h1; have F8 := Lib.hid h1; clear h1 F7))
        go_loopw [8] (fun iv wr => ∃ j : Nat, j ≤ 32 ∧ iv = .int .i64 ((j : Int) - 1) ∧ Hid (BK w wr [(b7, (accP p n j).cs, 262), (b5, tabC (tabF p 16), 313), (b3, nilP.cs, 262), (b2, (bvs n).toArray, 31), (b1, p.cs, 262)])) (fun i _ => (intOf i + 1).toNat)
        case atStart => exact ⟨32, by decide, by go_num, by show BK _ _ _; rw [accP_end p HN.out]; exact F8.out⟩
        case round =>
          obtain ⟨j, hj, rfl, hG⟩ := hrel
          clear F8
          cases j with
          | zero =>
            have e : ((0 : Nat) : Int) - 1 = -1 := rfl
            rw [e]
            obtain ⟨r, hr⟩ : ∃ r, r = accP p n 0 := ⟨_, rfl⟩
            rw [← hr] at hG
            have HR : Hid (r = timesP p n) := by show _ = _; rw [hr]; exact accP_zero p n
            clear hr
            go_wp2_with (first
              | (refine s_load_p rfl rfl r rfl (hG.out.lp 0 rfl) ?_)
              | (refine s_store hG.out rfl rfl 2 rfl rfl r.cs rfl rfl (by kernel_rfl) (Pt.cells _) ?_; intro w9 h1; have F9 := Lib.hid h1; clear h1 hG))
            exact bodyPost_ret (v := .agg r.cs) (by simp [results, Tryz.results152, asAddr]; exact retP (F9.out.mem (i := 2) rfl)) rfl ⟨by rw [HR.out], F9.out.below⟩
          | succ m =>
            have e : ((m + 1 : Nat) : Int) - 1 = (m : Int) := by omega
            rw [e]
            have hm32 : m < 32 := by omega
            have hlt' : (m : Int) < 32 := by omega
            have hm0 : (0 : Int) ≤ (m : Int) := by omega
            clear e hj
            obtain ⟨bt, hbt⟩ : ∃ b, b = n.getD m 0 := ⟨_, rfl⟩
            have cc := hG.out.cell 3 rfl m
            rw [show (bvs n).toArray[m]? = some (.int .u8 (bt.toNat : Int)) from by rw [hbt]; have := HN.out; simp [bvs, bv, this, hm32]] at cc
            have HA := Lib.hid (accP_step p (n := n) (j := m) (by rw [HN.out]; exact hm32))
            rw [← hbt] at HA
            obtain ⟨q, hq⟩ : ∃ q, q = accP p n (m + 1) := ⟨_, rfl⟩
            have Hq : Hid q.ok := by show q.ok; rw [hq]; exact accP_ok p
            rw [← hq] at hG HA
            clear hbt hq
            have h15 := and15 bt
            have h16 : (bt.toNat : Int) / 16 = ((bt.toNat / 16 : Nat) : Int) := by omega
            have H1 : Hid (bt.toNat / 16 < 16) := by show _ < _; have := bt.toNat_lt; omega
            have H2 : Hid (bt.toNat % 16 < 16) := by show _ < _; omega
            obtain ⟨d1, hd1⟩ : ∃ d, d = bt.toNat / 16 := ⟨_, rfl⟩
            obtain ⟨d2, hd2⟩ : ∃ d, d = bt.toNat % 16 := ⟨_, rfl⟩
            rw [← hd1] at h16 H1 HA
            rw [← hd2] at h15 H2 HA
            have HM := Lib.hid hm32
            clear hd1 hd2 hm32
            go_wp2
            go_quiet (fail)
            have G2 : Hid (BK w (wr.drewN nq) [(b7, (twoP p q d1 d2 0).cs, 262), (b5, tabC (tabF p 16), 313), (b3, nilP.cs, 262), (b2, (bvs n).toArray, 31), (b1, p.cs, 262)]) := hG.out.later ⟨rfl, rfl, rfl, Nat.le_refl _, fun _ _ => rfl⟩
            generalize wr.drewN nq = wd at G2 ⊢
            clear hG cc
            go_wp2
            go_loopw [40] (fun tv wr => ∃ t : Nat, t ≤ 2 ∧ tv = .int .i64 (t : Int) ∧ Hid (BK w wr [(b7, (twoP p q d1 d2 t).cs, 262), (b5, tabC (tabF p 16), 313), (b3, nilP.cs, 262), (b2, (bvs n).toArray, 31), (b1, p.cs, 262)])) (fun t _ => 2 - (intOf t).toNat)
            case atStart => exact ⟨0, Nat.zero_le _, rfl, G2.out⟩
            case round =>
              obtain ⟨t, ht, rfl, hH⟩ := hrel
              clear G2
              by_cases htl : t < 2
              · have ht2 : (t : Int) < 2 := by omega
                have ht0 : (0 : Int) ≤ (t : Int) := by omega
                have hidx := run_index2 d1 d2 t htl
                have HT := Lib.hid htl
                have HS := Lib.hid (twoP_succ p q d1 d2 htl)
                obtain ⟨d, hd⟩ : ∃ d, d = if t = 0 then d1 else d2 := ⟨_, rfl⟩
                have HD : Hid (d < 16) := by show d < 16; rw [hd]; split; exact H1.out; exact H2.out
                obtain ⟨u, hu⟩ : ∃ u, u = twoP p q d1 d2 t := ⟨_, rfl⟩
                have Hu : Hid u.ok := by
                  show u.ok
                  rw [hu]
                  obtain rfl | rfl : t = 0 ∨ t = 1 := by omega
                  · exact Hq.out
                  · exact stepP_ok _ _ _
                rw [← hd] at hidx HS
                rw [← hu] at HS hH
                clear hd hu htl ht
                obtain ⟨v1, hv1⟩ : ∃ v, v = doubleP u := ⟨_, rfl⟩
                obtain ⟨v2, hv2⟩ : ∃ v, v = doubleP v1 := ⟨_, rfl⟩
                obtain ⟨v3, hv3⟩ : ∃ v, v = doubleP v2 := ⟨_, rfl⟩
                obtain ⟨v4, hv4⟩ : ∃ v, v = doubleP v3 := ⟨_, rfl⟩
                obtain ⟨tb, htb⟩ : ∃ v, v = tabP p d := ⟨_, rfl⟩
                obtain ⟨r, hr⟩ : ∃ v, v = plusP v4 tb := ⟨_, rfl⟩
                have C1 : Hid (∀ w, Calls Tryz.prog 204 #[.agg u.cs] w (fun e w' => e = .returned (.agg v1.cs) ∧ Below w.heap.size w w')) := fun w => by rw [hv1]; exact doubleP_any u Hu.out w
                have C2 : Hid (∀ w, Calls Tryz.prog 204 #[.agg v1.cs] w (fun e w' => e = .returned (.agg v2.cs) ∧ Below w.heap.size w w')) := fun w => by rw [hv2, hv1]; exact doubleP_any _ (doubleP_ok _) w
                have C3 : Hid (∀ w, Calls Tryz.prog 204 #[.agg v2.cs] w (fun e w' => e = .returned (.agg v3.cs) ∧ Below w.heap.size w w')) := fun w => by rw [hv3, hv2]; exact doubleP_any _ (doubleP_ok _) w
                have C4 : Hid (∀ w, Calls Tryz.prog 204 #[.agg v3.cs] w (fun e w' => e = .returned (.agg v4.cs) ∧ Below w.heap.size w w')) := fun w => by rw [hv4, hv3]; exact doubleP_any _ (doubleP_ok _) w
                have C5 : Hid (∀ w, Calls Tryz.prog 203 #[.agg v4.cs, .agg tb.cs] w (fun e w' => e = .returned (.agg r.cs) ∧ Below w.heap.size w w')) := fun w => by rw [hr, htb, hv4]; exact plusP_any _ _ (doubleP_ok _) (tabP_ok HP.out d) w
                have HB : Hid (∀ w', Below wr.heap.size wr w' → w'.rangeAt b5 (d * 20) tb.cs.toList) := by
                  have h := hH.out.lt16 1 rfl d HD.out
                  rw [show tabF p 16 d = tb from by rw [htb]; exact if_pos HD.out] at h
                  exact h
                have HR : Hid (stepP p u d = r) := by show _ = _; rw [hr, hv4, hv3, hv2, hv1, htb]; rfl
                rw [HR.out] at HS
                clear hv1 hv2 hv3 hv4 htb hr HR
                have hdI : (d : Int) < 16 := by have := HD.out; omega
                have hd0 : (0 : Int) ≤ (d : Int) := by omega
                go_wp2
                refine wp_region_walk 9 [] (by kernel_rfl) (by kernel_rfl) (allocs_ok (by kernel_rfl) (fun x hx => (List.not_mem_nil hx).elim)) ?Af3 ?h3 ?hK3
                case h3 =>
                  intro F hF hNe
                  try simp only [Act.put]
                  try simp only [List.setIfInBounds_toArray, List.set_cons_succ, List.set_cons_zero]
                  try simp only [List.append_eq]
                  try simp only [List.cons_append, List.nil_append]
                  simp only [List.take_succ_cons, List.take_zero]
                  go_big_quiet_want
                  refine q_load_p rfl u rfl (hH.out.lp 0 rfl) ?_
                  go_big_quiet_on
                  simp only [Act.put, List.setIfInBounds_toArray, List.set_cons_succ, List.set_cons_zero]
                  go_big_quiet_step (exact fs_call hF (C1.out _))
                  go_big_quiet_step (exact fs_call hF (C2.out _))
                  go_big_quiet_step (exact fs_call hF (C3.out _))
                  go_big_quiet_step (exact fs_call hF (C4.out _))
                  iterate 2 (go_big_quiet_step (fail))
                  go_big_quiet_want
                  refine q_load_p rfl tb rfl HB.out ?_
                  go_big_quiet_on
                  simp only [Act.put, List.setIfInBounds_toArray, List.set_cons_succ, List.set_cons_zero]
                  go_big_quiet_step (exact fs_call hF (C5.out _))
                  refine wpQuiet_nil ?_
                  exact rfl
                case hK3 =>
                  intro w6 hb
                  have F6 := Lib.hid (hH.out.later hb)
                  clear hb
                  simp only [freshQ]
                  try simp only [Act.put]
                  simp only [List.length_nil, Nat.reduceAdd, List.drop_succ_cons, List.drop_zero]
                  go_wp2_with (refine s_store F6.out rfl rfl 0 rfl rfl r.cs rfl rfl (by kernel_rfl) (Pt.cells _) ?_; intro w7 h7; have F7 := Lib.hid h7; clear h7 F6)
                  go_roundw
                  case rel => exact ⟨t + 1, HT.out, by go_num, by show BK _ _ _; rw [HS.out]; exact F7.out⟩
                  case measure => simp [intOf]; have := HT.out; omega
              · obtain rfl : t = 2 := by omega
                have hdt : decide (((2 : Nat) : Int) < 2) = false := by decide
                go_wp2
                go_roundw
                case rel => exact ⟨m, by have := HM.out; omega, by go_num, by show BK _ _ _; rw [HA.out]; exact hH.out⟩
                case measure => simp [intOf]
end Go.Proofs.YtbcpmnnlhdgbhaaGreatDoor

namespace Go.Proofs.YtbcpmnnlhdgbhaaGreatDoor
open Go.RowKit Go.Lib
theorem bytesP_len (p : Pt) : (bytesP p).length = 32 := by
  unfold bytesP
  simp only
  split
  · rw [List.length_set]; exact bytesE_len _
  · exact bytesE_len _
theorem baseF_len (n : List UInt8) : (baseF n).length = 32 := bytesP_len _
theorem zeroB32 : ∀ w, (zeroValue 31).run Tryz.prog w = .ok (.agg (bvs (List.replicate 32 0)).toArray) w := fun w => by kernel_rfl
set_option maxRecDepth 100000 in
set_option maxHeartbeats 1000000 in
theorem Base_any (n : List UInt8) (hn : n.length = 32) (w : World) : Calls Tryz.prog 140 #[.agg (bvs n).toArray] w (BRet (baseF n) w) := by
  have HN := Lib.hid hn
  obtain ⟨q, hq⟩ : ∃ q, q = timesP baseP n := ⟨_, rfl⟩
  have C1 : Hid (∀ w, Calls Tryz.prog 152 #[.agg baseP.cs, .agg (bvs n).toArray] w (fun e w' => e = .returned (.agg q.cs) ∧ Below w.heap.size w w')) := fun w => by rw [hq]; exact timesP_any baseP baseP_ok n hn w
  obtain ⟨l, hl⟩ : ∃ l, l = bytesP q := ⟨_, rfl⟩
  have Oq : q.ok := by rw [hq, ← accP_zero]; exact accP_ok _
  have C2 : Hid (∀ w, Calls Tryz.prog 151 #[.agg q.cs] w (fun e w' => e = .returned (.agg (bvs l).toArray) ∧ Below w.heap.size w w')) := fun w => by rw [hl]; exact bytesP_any q Oq w
  have C0 : Hid (∀ w, Calls Tryz.prog 178 #[] w (fun e w' => e = .returned (.agg baseP.cs) ∧ Below w.heap.size w w')) := fun w => B_any w
  have Hl : Hid (l.length = 32) := by show _ = _; rw [hl]; exact bytesP_len _
  have HR : Hid (baseF n = l) := by show _ = _; rw [hl, hq]; rfl
  rw [HR.out]
  clear hq hl HR hn Oq
  have F0 := Lib.hid (BK.start w)
  have T0 : Hid True := trivial
  go_enter Tryz.func140, Tryz.ntmps140
  go_wp2_with (first
    | (have hx_ := T0; refine s_box F0.out rfl rfl rfl rfl ?_; clear hx_ T0; intro w1 b1 h1 _; have F1 := Lib.hid h1; clear h1 F0; have T1 : Hid True := trivial)
    | (have hx_ := T1; refine s_alloc F1.out rfl rfl zeroB32 rfl ?_; clear hx_ T1; intro w3 b3 h1 _; have F3 := Lib.hid h1; clear h1 F1))
  refine wp_region_walk 4 [] (by kernel_rfl) (by kernel_rfl) (allocs_ok (by kernel_rfl) (fun x hx => (List.not_mem_nil hx).elim)) ?Af1 ?h1 ?hK1
  case h1 =>
    intro F hF hNe
    try simp only [Act.put]
    try simp only [List.setIfInBounds_toArray, List.set_cons_succ, List.set_cons_zero]
    simp only [List.take_succ_cons, List.take_zero]
    go_big_quiet_step (exact fs_call hF (C0.out _))
    go_big_quiet_want
    refine q_load_b rfl n HN.out rfl (F3.out.lb 1 rfl) ?_
    go_big_quiet_on
    simp only [Act.put, List.setIfInBounds_toArray, List.set_cons_succ, List.set_cons_zero]
    go_big_quiet_step (exact fs_call hF (C1.out _))
    go_big_quiet_step (exact fs_call hF (C2.out _))
    refine wpQuiet_nil ?_
    exact rfl
  case hK1 =>
    intro w4 hb
    have F4 := Lib.hid (F3.out.later hb)
    clear hb
    simp only [freshQ]
    try simp only [Act.put]
    simp only [List.length_nil, Nat.reduceAdd, List.drop_succ_cons, List.drop_zero]
    go_wp2_with (refine s_store_b F4.out rfl rfl 0 rfl rfl l Hl.out rfl rfl ?_; intro w5 h5; have F5 := Lib.hid h5; clear h5 F4)
    exact bodyPost_ret (v := .agg (bvs l).toArray) (by simp [results, Tryz.results140, asAddr]; exact ret32 Hl.out (F5.out.mem (i := 0) rfl)) rfl ⟨rfl, F5.out.below⟩
end Go.Proofs.YtbcpmnnlhdgbhaaGreatDoor
