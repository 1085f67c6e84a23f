/- The texts PT1 PT2 of this work, merged by wip/merge.py. No conditions. -/
import Derived.Test.YtnhdepmalejclaaGreatDoorQG36
namespace Go.Proofs.YtnhdepmalejclaaGreatDoor
open Go.RowKit Go.Lib
theorem dR_lt : dR < 115792089237316195423570985008687907853269984665640564039457584007913129639936 := by decide
set_option maxRecDepth 100000 in
set_option maxHeartbeats 4000000 in
theorem sumR_any (p q : Rt) (hp : p.ok) (hq : q.ok) (w : World) : Calls Tryz.prog 153 #[.agg p.cs, .agg q.cs] w (RRet (sumR p q) w) := by
  obtain ⟨hpx, hpy, hpz, hpt⟩ := hp
  obtain ⟨hqx, hqy, hqz, hqt⟩ := hq
  obtain ⟨v17, h17⟩ : ∃ v, v = minusR p.y p.x := ⟨_, rfl⟩
  have O17 : Hid (v17 < 115792089237316195423570985008687907853269984665640564039457584007913129639936) := by show v17 < 115792089237316195423570985008687907853269984665640564039457584007913129639936; rw [h17]; exact minusR_lt hpy
  have C17 : Hid (∀ w, Calls Tryz.prog 145 #[.agg (nc p.y), .agg (nc p.x)] w (fun e w' => e = .returned (.agg (nc v17)) ∧ Below w.heap.size w w')) := fun w => by rw [h17]; exact minusR_any p.y p.x hpy hpx w
  obtain ⟨v22, h22⟩ : ∃ v, v = minusR q.y q.x := ⟨_, rfl⟩
  have O22 : Hid (v22 < 115792089237316195423570985008687907853269984665640564039457584007913129639936) := by show v22 < 115792089237316195423570985008687907853269984665640564039457584007913129639936; rw [h22]; exact minusR_lt hqy
  have C22 : Hid (∀ w, Calls Tryz.prog 145 #[.agg (nc q.y), .agg (nc q.x)] w (fun e w' => e = .returned (.agg (nc v22)) ∧ Below w.heap.size w w')) := fun w => by rw [h22]; exact minusR_any q.y q.x hqy hqx w
  obtain ⟨v23, h23⟩ : ∃ v, v = timesR v17 v22 := ⟨_, rfl⟩
  have O23 : Hid (v23 < 115792089237316195423570985008687907853269984665640564039457584007913129639936) := by show v23 < 115792089237316195423570985008687907853269984665640564039457584007913129639936; rw [h23]; exact timesR_lt O17.out O22.out
  have C23 : Hid (∀ w, Calls Tryz.prog 143 #[.agg (nc v17), .agg (nc v22)] w (fun e w' => e = .returned (.agg (nc v23)) ∧ Below w.heap.size w w')) := fun w => by rw [h23]; exact timesR_any v17 v22 O17.out O22.out w
  obtain ⟨v28, h28⟩ : ∃ v, v = plusR p.y p.x := ⟨_, rfl⟩
  have O28 : Hid (v28 < 115792089237316195423570985008687907853269984665640564039457584007913129639936) := by show v28 < 115792089237316195423570985008687907853269984665640564039457584007913129639936; rw [h28]; exact plusR_lt hpy hpx
  have C28 : Hid (∀ w, Calls Tryz.prog 148 #[.agg (nc p.y), .agg (nc p.x)] w (fun e w' => e = .returned (.agg (nc v28)) ∧ Below w.heap.size w w')) := fun w => by rw [h28]; exact plusR_any p.y p.x hpy hpx w
  obtain ⟨v33, h33⟩ : ∃ v, v = plusR q.y q.x := ⟨_, rfl⟩
  have O33 : Hid (v33 < 115792089237316195423570985008687907853269984665640564039457584007913129639936) := by show v33 < 115792089237316195423570985008687907853269984665640564039457584007913129639936; rw [h33]; exact plusR_lt hqy hqx
  have C33 : Hid (∀ w, Calls Tryz.prog 148 #[.agg (nc q.y), .agg (nc q.x)] w (fun e w' => e = .returned (.agg (nc v33)) ∧ Below w.heap.size w w')) := fun w => by rw [h33]; exact plusR_any q.y q.x hqy hqx w
  obtain ⟨v34, h34⟩ : ∃ v, v = timesR v28 v33 := ⟨_, rfl⟩
  have O34 : Hid (v34 < 115792089237316195423570985008687907853269984665640564039457584007913129639936) := by show v34 < 115792089237316195423570985008687907853269984665640564039457584007913129639936; rw [h34]; exact timesR_lt O28.out O33.out
  have C34 : Hid (∀ w, Calls Tryz.prog 143 #[.agg (nc v28), .agg (nc v33)] w (fun e w' => e = .returned (.agg (nc v34)) ∧ Below w.heap.size w w')) := fun w => by rw [h34]; exact timesR_any v28 v33 O28.out O33.out w
  obtain ⟨v39, h39⟩ : ∃ v, v = timesR p.t q.t := ⟨_, rfl⟩
  have O39 : Hid (v39 < 115792089237316195423570985008687907853269984665640564039457584007913129639936) := by show v39 < 115792089237316195423570985008687907853269984665640564039457584007913129639936; rw [h39]; exact timesR_lt hpt hqt
  have C39 : Hid (∀ w, Calls Tryz.prog 143 #[.agg (nc p.t), .agg (nc q.t)] w (fun e w' => e = .returned (.agg (nc v39)) ∧ Below w.heap.size w w')) := fun w => by rw [h39]; exact timesR_any p.t q.t hpt hqt w
  obtain ⟨v40, h40⟩ : ∃ v, v = dR := ⟨_, rfl⟩
  have O40 : Hid (v40 < 115792089237316195423570985008687907853269984665640564039457584007913129639936) := by show v40 < 115792089237316195423570985008687907853269984665640564039457584007913129639936; rw [h40]; exact dR_lt
  have C40 : Hid (∀ w, Calls Tryz.prog 149 #[] w (fun e w' => e = .returned (.agg (nc v40)) ∧ Below w.heap.size w w')) := fun w => by rw [h40]; exact dR_any w
  obtain ⟨v41, h41⟩ : ∃ v, v = dR := ⟨_, rfl⟩
  have O41 : Hid (v41 < 115792089237316195423570985008687907853269984665640564039457584007913129639936) := by show v41 < 115792089237316195423570985008687907853269984665640564039457584007913129639936; rw [h41]; exact dR_lt
  have C41 : Hid (∀ w, Calls Tryz.prog 149 #[] w (fun e w' => e = .returned (.agg (nc v41)) ∧ Below w.heap.size w w')) := fun w => by rw [h41]; exact dR_any w
  obtain ⟨v42, h42⟩ : ∃ v, v = plusR v40 v41 := ⟨_, rfl⟩
  have O42 : Hid (v42 < 115792089237316195423570985008687907853269984665640564039457584007913129639936) := by show v42 < 115792089237316195423570985008687907853269984665640564039457584007913129639936; rw [h42]; exact plusR_lt O40.out O41.out
  have C42 : Hid (∀ w, Calls Tryz.prog 148 #[.agg (nc v40), .agg (nc v41)] w (fun e w' => e = .returned (.agg (nc v42)) ∧ Below w.heap.size w w')) := fun w => by rw [h42]; exact plusR_any v40 v41 O40.out O41.out w
  obtain ⟨v43, h43⟩ : ∃ v, v = timesR v39 v42 := ⟨_, rfl⟩
  have O43 : Hid (v43 < 115792089237316195423570985008687907853269984665640564039457584007913129639936) := by show v43 < 115792089237316195423570985008687907853269984665640564039457584007913129639936; rw [h43]; exact timesR_lt O39.out O42.out
  have C43 : Hid (∀ w, Calls Tryz.prog 143 #[.agg (nc v39), .agg (nc v42)] w (fun e w' => e = .returned (.agg (nc v43)) ∧ Below w.heap.size w w')) := fun w => by rw [h43]; exact timesR_any v39 v42 O39.out O42.out w
  obtain ⟨v48, h48⟩ : ∃ v, v = plusR p.z p.z := ⟨_, rfl⟩
  have O48 : Hid (v48 < 115792089237316195423570985008687907853269984665640564039457584007913129639936) := by show v48 < 115792089237316195423570985008687907853269984665640564039457584007913129639936; rw [h48]; exact plusR_lt hpz hpz
  have C48 : Hid (∀ w, Calls Tryz.prog 148 #[.agg (nc p.z), .agg (nc p.z)] w (fun e w' => e = .returned (.agg (nc v48)) ∧ Below w.heap.size w w')) := fun w => by rw [h48]; exact plusR_any p.z p.z hpz hpz w
  obtain ⟨v51, h51⟩ : ∃ v, v = timesR v48 q.z := ⟨_, rfl⟩
  have O51 : Hid (v51 < 115792089237316195423570985008687907853269984665640564039457584007913129639936) := by show v51 < 115792089237316195423570985008687907853269984665640564039457584007913129639936; rw [h51]; exact timesR_lt O48.out hqz
  have C51 : Hid (∀ w, Calls Tryz.prog 143 #[.agg (nc v48), .agg (nc q.z)] w (fun e w' => e = .returned (.agg (nc v51)) ∧ Below w.heap.size w w')) := fun w => by rw [h51]; exact timesR_any v48 q.z O48.out hqz w
  obtain ⟨v54, h54⟩ : ∃ v, v = minusR v34 v23 := ⟨_, rfl⟩
  have O54 : Hid (v54 < 115792089237316195423570985008687907853269984665640564039457584007913129639936) := by show v54 < 115792089237316195423570985008687907853269984665640564039457584007913129639936; rw [h54]; exact minusR_lt O34.out
  have C54 : Hid (∀ w, Calls Tryz.prog 145 #[.agg (nc v34), .agg (nc v23)] w (fun e w' => e = .returned (.agg (nc v54)) ∧ Below w.heap.size w w')) := fun w => by rw [h54]; exact minusR_any v34 v23 O34.out O23.out w
  obtain ⟨v57, h57⟩ : ∃ v, v = minusR v51 v43 := ⟨_, rfl⟩
  have O57 : Hid (v57 < 115792089237316195423570985008687907853269984665640564039457584007913129639936) := by show v57 < 115792089237316195423570985008687907853269984665640564039457584007913129639936; rw [h57]; exact minusR_lt O51.out
  have C57 : Hid (∀ w, Calls Tryz.prog 145 #[.agg (nc v51), .agg (nc v43)] w (fun e w' => e = .returned (.agg (nc v57)) ∧ Below w.heap.size w w')) := fun w => by rw [h57]; exact minusR_any v51 v43 O51.out O43.out w
  obtain ⟨v60, h60⟩ : ∃ v, v = plusR v51 v43 := ⟨_, rfl⟩
  have O60 : Hid (v60 < 115792089237316195423570985008687907853269984665640564039457584007913129639936) := by show v60 < 115792089237316195423570985008687907853269984665640564039457584007913129639936; rw [h60]; exact plusR_lt O51.out O43.out
  have C60 : Hid (∀ w, Calls Tryz.prog 148 #[.agg (nc v51), .agg (nc v43)] w (fun e w' => e = .returned (.agg (nc v60)) ∧ Below w.heap.size w w')) := fun w => by rw [h60]; exact plusR_any v51 v43 O51.out O43.out w
  obtain ⟨v63, h63⟩ : ∃ v, v = plusR v34 v23 := ⟨_, rfl⟩
  have O63 : Hid (v63 < 115792089237316195423570985008687907853269984665640564039457584007913129639936) := by show v63 < 115792089237316195423570985008687907853269984665640564039457584007913129639936; rw [h63]; exact plusR_lt O34.out O23.out
  have C63 : Hid (∀ w, Calls Tryz.prog 148 #[.agg (nc v34), .agg (nc v23)] w (fun e w' => e = .returned (.agg (nc v63)) ∧ Below w.heap.size w w')) := fun w => by rw [h63]; exact plusR_any v34 v23 O34.out O23.out w
  obtain ⟨v66, h66⟩ : ∃ v, v = timesR v54 v57 := ⟨_, rfl⟩
  have O66 : Hid (v66 < 115792089237316195423570985008687907853269984665640564039457584007913129639936) := by show v66 < 115792089237316195423570985008687907853269984665640564039457584007913129639936; rw [h66]; exact timesR_lt O54.out O57.out
  have C66 : Hid (∀ w, Calls Tryz.prog 143 #[.agg (nc v54), .agg (nc v57)] w (fun e w' => e = .returned (.agg (nc v66)) ∧ Below w.heap.size w w')) := fun w => by rw [h66]; exact timesR_any v54 v57 O54.out O57.out w
  obtain ⟨v69, h69⟩ : ∃ v, v = timesR v60 v63 := ⟨_, rfl⟩
  have O69 : Hid (v69 < 115792089237316195423570985008687907853269984665640564039457584007913129639936) := by show v69 < 115792089237316195423570985008687907853269984665640564039457584007913129639936; rw [h69]; exact timesR_lt O60.out O63.out
  have C69 : Hid (∀ w, Calls Tryz.prog 143 #[.agg (nc v60), .agg (nc v63)] w (fun e w' => e = .returned (.agg (nc v69)) ∧ Below w.heap.size w w')) := fun w => by rw [h69]; exact timesR_any v60 v63 O60.out O63.out w
  obtain ⟨v72, h72⟩ : ∃ v, v = timesR v57 v60 := ⟨_, rfl⟩
  have O72 : Hid (v72 < 115792089237316195423570985008687907853269984665640564039457584007913129639936) := by show v72 < 115792089237316195423570985008687907853269984665640564039457584007913129639936; rw [h72]; exact timesR_lt O57.out O60.out
  have C72 : Hid (∀ w, Calls Tryz.prog 143 #[.agg (nc v57), .agg (nc v60)] w (fun e w' => e = .returned (.agg (nc v72)) ∧ Below w.heap.size w w')) := fun w => by rw [h72]; exact timesR_any v57 v60 O57.out O60.out w
  obtain ⟨v75, h75⟩ : ∃ v, v = timesR v54 v63 := ⟨_, rfl⟩
  have O75 : Hid (v75 < 115792089237316195423570985008687907853269984665640564039457584007913129639936) := by show v75 < 115792089237316195423570985008687907853269984665640564039457584007913129639936; rw [h75]; exact timesR_lt O54.out O63.out
  have C75 : Hid (∀ w, Calls Tryz.prog 143 #[.agg (nc v54), .agg (nc v63)] w (fun e w' => e = .returned (.agg (nc v75)) ∧ Below w.heap.size w w')) := fun w => by rw [h75]; exact timesR_any v54 v63 O54.out O63.out w
  have HR : Hid (Rt.mk v66 v69 v72 v75 = sumR p q) := by show _ = _; subst h17 h22 h23 h28 h33 h34 h39 h40 h41 h42 h43 h48 h51 h54 h57 h60 h63 h66 h69 h72 h75; rfl
  clear h17 h22 h23 h28 h33 h34 h39 h40 h41 h42 h43 h48 h51 h54 h57 h60 h63 h66 h69 h72 h75
  have F0 := Lib.hid (BK.start w)
  have T0 : Hid True := trivial
  go_enter Tryz.func153, Tryz.ntmps153
  go_wp2_with (first
    | (have hx_ := T0; refine s_box F0.out rfl rfl rfl rfl ?_; intro w1 b1 h1 _; have F1 := Lib.hid h1; clear h1 F0; clear hx_ T0; have T1 : Hid True := trivial)
    | (have hx_ := T1; refine s_box F1.out rfl rfl rfl rfl ?_; intro w2 b2 h1 _; have F2 := Lib.hid h1; clear h1 F1; clear hx_ T1; have T2 : Hid True := trivial)
    | (have hx_ := T2; refine s_alloc F2.out rfl rfl zeroR rfl ?_; intro w3 b3 h1 _; have F3 := Lib.hid h1; clear h1 F2; clear hx_ T2; have T3 : Hid True := trivial))
  refine wp_region_walk 11 [(5, (nc 0), 181)] (by kernel_rfl) (by kernel_rfl) (allocs_ok (by kernel_rfl) (fun x hx => by rw [List.mem_singleton.1 hx]; exact zeroN)) ?Af1 ?h1 ?hK1
  case h1 =>
    intro F hF hN
    try simp only [Act.put]
    try simp only [List.setIfInBounds_toArray, List.set_cons_succ, List.set_cons_zero]
    try simp only [List.append_eq]
    try simp only [List.cons_append, List.nil_append]
    simp only [List.take_succ_cons, List.take_zero]
    go_big_quiet_step (fail)
    go_big_quiet_want
    refine q_load_n rfl p.y rfl (F3.out.ny 2 rfl) ?_
    go_big_quiet_on
    simp only [Act.put, List.setIfInBounds_toArray, List.set_cons_succ, List.set_cons_zero]
    go_big_quiet_step (fail)
    go_big_quiet_want
    refine q_load_n rfl p.x rfl (F3.out.nx 2 rfl) ?_
    go_big_quiet_on
    simp only [Act.put, List.setIfInBounds_toArray, List.set_cons_succ, List.set_cons_zero]
    go_big_quiet_step (exact fs_call hF (C17.out _))
    go_big_quiet_step (fail)
    go_big_quiet_want
    refine q_load_n rfl q.y rfl (F3.out.ny 1 rfl) ?_
    go_big_quiet_on
    simp only [Act.put, List.setIfInBounds_toArray, List.set_cons_succ, List.set_cons_zero]
    go_big_quiet_step (fail)
    go_big_quiet_want
    refine q_load_n rfl q.x rfl (F3.out.nx 1 rfl) ?_
    go_big_quiet_on
    simp only [Act.put, List.setIfInBounds_toArray, List.set_cons_succ, List.set_cons_zero]
    go_big_quiet_step (exact fs_call hF (C22.out _))
    go_big_quiet_step (exact fs_call hF (C23.out _))
    refine wpQuiet_nil ?_
    exact rfl
  case hK1 =>
    intro w4 hb
    intro b5 hB5 hu5 hr5
    have F4 := Lib.hid (F3.out.foundAll hb [(b5, (nc 0), 181)] (List.nodup_cons.2 ⟨hu5, List.nodup_nil⟩) (List.forall_mem_cons.2 ⟨⟨hB5, hr5⟩, fun _ h => (List.not_mem_nil h).elim⟩))
    clear hb hB5 hu5 hr5
    simp only [freshQ]
    try simp only [Act.put]
    try simp only [List.setIfInBounds_toArray, List.set_cons_succ, List.set_cons_zero]
    try simp only [List.append_eq]
    try simp only [List.cons_append, List.nil_append]
    simp only [List.length_cons, List.length_nil, Nat.reduceAdd, List.drop_succ_cons, List.drop_zero]
    have T3 : Hid True := trivial
    go_wp2_with (first
      | (have hx_ := T3; refine s_store F4.out rfl rfl 0 rfl rfl (nc v23) rfl rfl (by kernel_rfl) (nc_cells _) ?_; intro w6 h1; have F5 := Lib.hid h1; clear h1 F4; clear hx_ T3; have T4 : Hid True := trivial))
    refine wp_region_walk 11 [(6, (nc 0), 181)] (by kernel_rfl) (by kernel_rfl) (allocs_ok (by kernel_rfl) (fun x hx => by rw [List.mem_singleton.1 hx]; exact zeroN)) ?Af2 ?h2 ?hK2
    case h2 =>
      intro F hF hN
      try simp only [Act.put]
      try simp only [List.setIfInBounds_toArray, List.set_cons_succ, List.set_cons_zero]
      try simp only [List.append_eq]
      try simp only [List.cons_append, List.nil_append]
      simp only [List.take_succ_cons, List.take_zero]
      go_big_quiet_step (fail)
      go_big_quiet_want
      refine q_load_n rfl p.y rfl (F5.out.ny 3 rfl) ?_
      go_big_quiet_on
      simp only [Act.put, List.setIfInBounds_toArray, List.set_cons_succ, List.set_cons_zero]
      go_big_quiet_step (fail)
      go_big_quiet_want
      refine q_load_n rfl p.x rfl (F5.out.nx 3 rfl) ?_
      go_big_quiet_on
      simp only [Act.put, List.setIfInBounds_toArray, List.set_cons_succ, List.set_cons_zero]
      go_big_quiet_step (exact fs_call hF (C28.out _))
      go_big_quiet_step (fail)
      go_big_quiet_want
      refine q_load_n rfl q.y rfl (F5.out.ny 2 rfl) ?_
      go_big_quiet_on
      simp only [Act.put, List.setIfInBounds_toArray, List.set_cons_succ, List.set_cons_zero]
      go_big_quiet_step (fail)
      go_big_quiet_want
      refine q_load_n rfl q.x rfl (F5.out.nx 2 rfl) ?_
      go_big_quiet_on
      simp only [Act.put, List.setIfInBounds_toArray, List.set_cons_succ, List.set_cons_zero]
      go_big_quiet_step (exact fs_call hF (C33.out _))
      go_big_quiet_step (exact fs_call hF (C34.out _))
      refine wpQuiet_nil ?_
      exact rfl
    case hK2 =>
      intro w7 hb
      intro b8 hB8 hu8 hr8
      have F6 := Lib.hid (F5.out.foundAll hb [(b8, (nc 0), 181)] (List.nodup_cons.2 ⟨hu8, List.nodup_nil⟩) (List.forall_mem_cons.2 ⟨⟨hB8, hr8⟩, fun _ h => (List.not_mem_nil h).elim⟩))
      clear hb hB8 hu8 hr8
      simp only [freshQ]
      try simp only [Act.put]
      try simp only [List.setIfInBounds_toArray, List.set_cons_succ, List.set_cons_zero]
      try simp only [List.append_eq]
      try simp only [List.cons_append, List.nil_append]
      simp only [List.length_cons, List.length_nil, Nat.reduceAdd, List.drop_succ_cons, List.drop_zero]
      have T4 : Hid True := trivial
      go_wp2_with (first
        | (have hx_ := T4; refine s_store F6.out rfl rfl 0 rfl rfl (nc v34) rfl rfl (by kernel_rfl) (nc_cells _) ?_; intro w9 h1; have F7 := Lib.hid h1; clear h1 F6; clear hx_ T4; have T5 : Hid True := trivial)
        | (have hx_ := T5; refine s_load_n rfl rfl p.t rfl (F7.out.nt 4 rfl) ?_; clear hx_ T5; have T6 : Hid True := trivial)
        | (have hx_ := T6; refine s_load_n rfl rfl q.t rfl (F7.out.nt 3 rfl) ?_; clear hx_ T6; have T7 : Hid True := trivial)
        | (go_at_call 143; have hx_ := T7; refine (C39.out _).mono ?_; rintro e w10 ⟨rfl, hb⟩; have F8 := Lib.hid (F7.out.later hb); clear hb F7; clear hx_ T7; have T8 : Hid True := trivial)
        | (go_at_call 149; have hx_ := T8; refine (C40.out _).mono ?_; rintro e w11 ⟨rfl, hb⟩; have F9 := Lib.hid (F8.out.later hb); clear hb F8; clear hx_ T8; have T9 : Hid True := trivial)
        | (go_at_call 149; have hx_ := T9; refine (C41.out _).mono ?_; rintro e w12 ⟨rfl, hb⟩; have F10 := Lib.hid (F9.out.later hb); clear hb F9; clear hx_ T9; have T10 : Hid True := trivial)
        | (go_at_call 148; have hx_ := T10; refine (C42.out _).mono ?_; rintro e w13 ⟨rfl, hb⟩; have F11 := Lib.hid (F10.out.later hb); clear hb F10; clear hx_ T10; have T11 : Hid True := trivial)
        | (go_at_call 143; have hx_ := T11; refine (C43.out _).mono ?_; rintro e w14 ⟨rfl, hb⟩; have F12 := Lib.hid (F11.out.later hb); clear hb F11; clear hx_ T11; have T12 : Hid True := trivial)
        | (have hx_ := T12; refine s_alloc F12.out rfl rfl zeroN rfl ?_; intro w15 b15 h1 _; have F13 := Lib.hid h1; clear h1 F12; clear hx_ T12; have T13 : Hid True := trivial)
        | (have hx_ := T13; refine s_store F13.out rfl rfl 0 rfl rfl (nc v43) rfl rfl (by kernel_rfl) (nc_cells _) ?_; intro w16 h1; have F14 := Lib.hid h1; clear h1 F13; clear hx_ T13; have T14 : Hid True := trivial))
      refine wp_region_walk 8 [(8, (nc 0), 181)] (by kernel_rfl) (by kernel_rfl) (allocs_ok (by kernel_rfl) (fun x hx => by rw [List.mem_singleton.1 hx]; exact zeroN)) ?Af3 ?h3 ?hK3
      case h3 =>
        intro F hF hN
        try simp only [Act.put]
        try simp only [List.setIfInBounds_toArray, List.set_cons_succ, List.set_cons_zero]
        try simp only [List.append_eq]
        try simp only [List.cons_append, List.nil_append]
        simp only [List.take_succ_cons, List.take_zero]
        go_big_quiet_step (fail)
        go_big_quiet_want
        refine q_load_n rfl p.z rfl (F14.out.nz 5 rfl) ?_
        go_big_quiet_on
        simp only [Act.put, List.setIfInBounds_toArray, List.set_cons_succ, List.set_cons_zero]
        go_big_quiet_step (fail)
        go_big_quiet_want
        refine q_load_n rfl p.z rfl (F14.out.nz 5 rfl) ?_
        go_big_quiet_on
        simp only [Act.put, List.setIfInBounds_toArray, List.set_cons_succ, List.set_cons_zero]
        go_big_quiet_step (exact fs_call hF (C48.out _))
        go_big_quiet_step (fail)
        go_big_quiet_want
        refine q_load_n rfl q.z rfl (F14.out.nz 4 rfl) ?_
        go_big_quiet_on
        simp only [Act.put, List.setIfInBounds_toArray, List.set_cons_succ, List.set_cons_zero]
        go_big_quiet_step (exact fs_call hF (C51.out _))
        refine wpQuiet_nil ?_
        exact rfl
      case hK3 =>
        intro w17 hb
        intro b18 hB18 hu18 hr18
        have F15 := Lib.hid (F14.out.foundAll hb [(b18, (nc 0), 181)] (List.nodup_cons.2 ⟨hu18, List.nodup_nil⟩) (List.forall_mem_cons.2 ⟨⟨hB18, hr18⟩, fun _ h => (List.not_mem_nil h).elim⟩))
        clear hb hB18 hu18 hr18
        simp only [freshQ]
        try simp only [Act.put]
        try simp only [List.setIfInBounds_toArray, List.set_cons_succ, List.set_cons_zero]
        try simp only [List.append_eq]
        try simp only [List.cons_append, List.nil_append]
        simp only [List.length_cons, List.length_nil, Nat.reduceAdd, List.drop_succ_cons, List.drop_zero]
        have T14 : Hid True := trivial
        go_wp2_with (first
          | (have hx_ := T14; refine s_store F15.out rfl rfl 0 rfl rfl (nc v51) rfl rfl (by kernel_rfl) (nc_cells _) ?_; intro w19 h1; have F16 := Lib.hid h1; clear h1 F15; clear hx_ T14; have T15 : Hid True := trivial))
        refine wp_region_walk 12 [(9, (nc 0), 181), (10, (nc 0), 181), (11, (nc 0), 181), (12, (nc 0), 181)] (by kernel_rfl) (by kernel_rfl) (allocs_ok (by kernel_rfl) (fun x hx => by simp only [List.mem_cons, List.not_mem_nil, or_false] at hx; rcases hx with rfl | rfl | rfl | rfl <;> exact zeroN)) ?Af4 ?h4 ?hK4
        case h4 =>
          intro F hF hN
          try simp only [Act.put]
          try simp only [List.setIfInBounds_toArray, List.set_cons_succ, List.set_cons_zero]
          try simp only [List.append_eq]
          try simp only [List.cons_append, List.nil_append]
          simp only [List.take_succ_cons, List.take_zero]
          go_big_quiet_want
          refine q_load_n rfl v34 rfl (F16.out.ln 2 rfl) ?_
          go_big_quiet_on
          simp only [Act.put, List.setIfInBounds_toArray, List.set_cons_succ, List.set_cons_zero]
          go_big_quiet_want
          refine q_load_n rfl v23 rfl (F16.out.ln 3 rfl) ?_
          go_big_quiet_on
          simp only [Act.put, List.setIfInBounds_toArray, List.set_cons_succ, List.set_cons_zero]
          go_big_quiet_step (exact fs_call hF (C54.out _))
          go_big_quiet_want
          refine q_load_n rfl v51 rfl (F16.out.ln 0 rfl) ?_
          go_big_quiet_on
          simp only [Act.put, List.setIfInBounds_toArray, List.set_cons_succ, List.set_cons_zero]
          go_big_quiet_want
          refine q_load_n rfl v43 rfl (F16.out.ln 1 rfl) ?_
          go_big_quiet_on
          simp only [Act.put, List.setIfInBounds_toArray, List.set_cons_succ, List.set_cons_zero]
          go_big_quiet_step (exact fs_call hF (C57.out _))
          go_big_quiet_want
          refine q_load_n rfl v51 rfl (F16.out.ln 0 rfl) ?_
          go_big_quiet_on
          simp only [Act.put, List.setIfInBounds_toArray, List.set_cons_succ, List.set_cons_zero]
          go_big_quiet_want
          refine q_load_n rfl v43 rfl (F16.out.ln 1 rfl) ?_
          go_big_quiet_on
          simp only [Act.put, List.setIfInBounds_toArray, List.set_cons_succ, List.set_cons_zero]
          go_big_quiet_step (exact fs_call hF (C60.out _))
          go_big_quiet_want
          refine q_load_n rfl v34 rfl (F16.out.ln 2 rfl) ?_
          go_big_quiet_on
          simp only [Act.put, List.setIfInBounds_toArray, List.set_cons_succ, List.set_cons_zero]
          go_big_quiet_want
          refine q_load_n rfl v23 rfl (F16.out.ln 3 rfl) ?_
          go_big_quiet_on
          simp only [Act.put, List.setIfInBounds_toArray, List.set_cons_succ, List.set_cons_zero]
          go_big_quiet_step (exact fs_call hF (C63.out _))
          refine wpQuiet_nil ?_
          exact rfl
        case hK4 =>
          intro w20 hb
          intro b21 hB21 hu21 hr21
          intro b22 hB22 hu22 hr22
          intro b23 hB23 hu23 hr23
          intro b24 hB24 hu24 hr24
          have F17 := Lib.hid (F16.out.foundAll hb [(b24, (nc 0), 181), (b23, (nc 0), 181), (b22, (nc 0), 181), (b21, (nc 0), 181)] (List.nodup_cons.2 ⟨hu24, List.nodup_cons.2 ⟨hu23, List.nodup_cons.2 ⟨hu22, List.nodup_cons.2 ⟨hu21, List.nodup_nil⟩⟩⟩⟩) (List.forall_mem_cons.2 ⟨⟨hB24, hr24⟩, List.forall_mem_cons.2 ⟨⟨hB23, hr23⟩, List.forall_mem_cons.2 ⟨⟨hB22, hr22⟩, List.forall_mem_cons.2 ⟨⟨hB21, hr21⟩, fun _ h => (List.not_mem_nil h).elim⟩⟩⟩⟩))
          clear hb hB21 hu21 hr21 hB22 hu22 hr22 hB23 hu23 hr23 hB24 hu24 hr24
          simp only [freshQ]
          try simp only [Act.put]
          try simp only [List.setIfInBounds_toArray, List.set_cons_succ, List.set_cons_zero]
          try simp only [List.append_eq]
          try simp only [List.cons_append, List.nil_append]
          simp only [List.length_cons, List.length_nil, Nat.reduceAdd, List.drop_succ_cons, List.drop_zero]
          have T15 : Hid True := trivial
          go_wp2_with (first
            | (have hx_ := T15; refine s_store F17.out rfl rfl 3 rfl rfl (nc v54) rfl rfl (by kernel_rfl) (nc_cells _) ?_; intro w25 h1; have F18 := Lib.hid h1; clear h1 F17; clear hx_ T15; have T16 : Hid True := trivial)
            | (have hx_ := T16; refine s_store F18.out rfl rfl 2 rfl rfl (nc v57) rfl rfl (by kernel_rfl) (nc_cells _) ?_; intro w26 h1; have F19 := Lib.hid h1; clear h1 F18; clear hx_ T16; have T17 : Hid True := trivial)
            | (have hx_ := T17; refine s_store F19.out rfl rfl 1 rfl rfl (nc v60) rfl rfl (by kernel_rfl) (nc_cells _) ?_; intro w27 h1; have F20 := Lib.hid h1; clear h1 F19; clear hx_ T17; have T18 : Hid True := trivial)
            | (have hx_ := T18; refine s_store F20.out rfl rfl 0 rfl rfl (nc v63) rfl rfl (by kernel_rfl) (nc_cells _) ?_; intro w28 h1; have F21 := Lib.hid h1; clear h1 F20; clear hx_ T18; have T19 : Hid True := trivial))
          refine wp_region_walk 13 [] (by kernel_rfl) (by kernel_rfl) (allocs_ok (by kernel_rfl) (fun x hx => (List.not_mem_nil hx).elim)) ?Af5 ?h5 ?hK5
          case h5 =>
            intro F hF hN
            try simp only [Act.put]
            try simp only [List.setIfInBounds_toArray, List.set_cons_succ, List.set_cons_zero]
            try simp only [List.append_eq]
            try simp only [List.cons_append, List.nil_append]
            simp only [List.take_succ_cons, List.take_zero]
            go_big_quiet_want
            refine q_load_n rfl v54 rfl (F21.out.ln 3 rfl) ?_
            go_big_quiet_on
            simp only [Act.put, List.setIfInBounds_toArray, List.set_cons_succ, List.set_cons_zero]
            go_big_quiet_want
            refine q_load_n rfl v57 rfl (F21.out.ln 2 rfl) ?_
            go_big_quiet_on
            simp only [Act.put, List.setIfInBounds_toArray, List.set_cons_succ, List.set_cons_zero]
            go_big_quiet_step (exact fs_call hF (C66.out _))
            go_big_quiet_want
            refine q_load_n rfl v60 rfl (F21.out.ln 1 rfl) ?_
            go_big_quiet_on
            simp only [Act.put, List.setIfInBounds_toArray, List.set_cons_succ, List.set_cons_zero]
            go_big_quiet_want
            refine q_load_n rfl v63 rfl (F21.out.ln 0 rfl) ?_
            go_big_quiet_on
            simp only [Act.put, List.setIfInBounds_toArray, List.set_cons_succ, List.set_cons_zero]
            go_big_quiet_step (exact fs_call hF (C69.out _))
            go_big_quiet_want
            refine q_load_n rfl v57 rfl (F21.out.ln 2 rfl) ?_
            go_big_quiet_on
            simp only [Act.put, List.setIfInBounds_toArray, List.set_cons_succ, List.set_cons_zero]
            go_big_quiet_want
            refine q_load_n rfl v60 rfl (F21.out.ln 1 rfl) ?_
            go_big_quiet_on
            simp only [Act.put, List.setIfInBounds_toArray, List.set_cons_succ, List.set_cons_zero]
            go_big_quiet_step (exact fs_call hF (C72.out _))
            go_big_quiet_want
            refine q_load_n rfl v54 rfl (F21.out.ln 3 rfl) ?_
            go_big_quiet_on
            simp only [Act.put, List.setIfInBounds_toArray, List.set_cons_succ, List.set_cons_zero]
            go_big_quiet_want
            refine q_load_n rfl v63 rfl (F21.out.ln 0 rfl) ?_
            go_big_quiet_on
            simp only [Act.put, List.setIfInBounds_toArray, List.set_cons_succ, List.set_cons_zero]
            go_big_quiet_step (exact fs_call hF (C75.out _))
            go_big_quiet_want
            refine q_build_r rfl v66 v69 v72 v75 rfl rfl rfl rfl ?_
            go_big_quiet_on
            simp only [Act.put, List.setIfInBounds_toArray, List.set_cons_succ, List.set_cons_zero]
            refine wpQuiet_nil ?_
            exact rfl
          case hK5 =>
            intro w29 hb
            have F22 := Lib.hid (F21.out.later hb)
            clear hb
            simp only [freshQ]
            try simp only [Act.put]
            try simp only [List.setIfInBounds_toArray, List.set_cons_succ, List.set_cons_zero]
            try simp only [List.append_eq]
            try simp only [List.cons_append, List.nil_append]
            simp only [List.length_nil, Nat.reduceAdd, List.drop_succ_cons, List.drop_zero]
            have T19 : Hid True := trivial
            go_wp2_with (first
              | (have hx_ := T19; refine s_store F22.out rfl rfl 8 rfl rfl (Rt.mk v66 v69 v72 v75).cs rfl rfl (by kernel_rfl) (Rt.cells _) ?_; intro w30 h1; have F23 := Lib.hid h1; clear h1 F22; clear hx_ T19; have T20 : Hid True := trivial))
            exact bodyPost_ret (v := .agg (Rt.mk v66 v69 v72 v75).cs) (by simp [results, Tryz.results153, asAddr]; exact retR (F23.out.mem (i := 8) rfl)) rfl ⟨by rw [← HR.out], F23.out.below⟩
end Go.Proofs.YtnhdepmalejclaaGreatDoor

namespace Go.Proofs.YtnhdepmalejclaaGreatDoor
open Go.RowKit Go.Lib
theorem neutralR_ok : neutralR.ok := by refine ⟨?_, ?_, ?_, ?_⟩ <;> decide
theorem sumR_ok {p q : Rt} (hp : p.ok) (hq : q.ok) : (sumR p q).ok := by
  obtain ⟨hpx, hpy, hpz, hpt⟩ := hp
  obtain ⟨hqx, hqy, hqz, hqt⟩ := hq
  have h1 := timesR_lt (minusR_lt (b := p.x) hpy) (minusR_lt (b := q.x) hqy)
  have h2 := timesR_lt (plusR_lt hpy hpx) (plusR_lt hqy hqx)
  have h3 := timesR_lt (timesR_lt hpt hqt) (plusR_lt dR_lt dR_lt)
  have h4 := timesR_lt (plusR_lt hpz hpz) hqz
  exact ⟨timesR_lt (minusR_lt h2) (minusR_lt h4), timesR_lt (plusR_lt h4 h3) (plusR_lt h2 h1), timesR_lt (minusR_lt h4) (plusR_lt h4 h3), timesR_lt (minusR_lt h2) (plusR_lt h2 h1)⟩
theorem ofL_div : ∀ (l : List UInt8) (q : Nat), ofL l / 256 ^ q % 256 = (l.getD q 0).toNat
  | [], q => by simp [ofL]
  | b :: l, 0 => by have := b.toNat_lt; simp only [ofL, Nat.pow_zero, Nat.div_one, List.getD_cons_zero]; omega
  | b :: l, q + 1 => by
    rw [List.getD_cons_succ, ← ofL_div l q, ofL, Nat.pow_succ, Nat.mul_comm (256 ^ q), ← Nat.div_div_eq_div_mul]
    congr 2
    have := b.toNat_lt
    omega
theorem ofL_bit (l : List UInt8) (m : Nat) : ofL l / 2 ^ m % 2 = (l.getD (m / 8) 0).toNat / 2 ^ (m % 8) % 2 := by
  have e1 : 2 ^ m = 256 ^ (m / 8) * 2 ^ (m % 8) := by rw [show (256 : Nat) = 2 ^ 8 from rfl, ← Nat.pow_mul, ← Nat.pow_add]; congr 1; omega
  have e2 : (256 : Nat) = 2 ^ (m % 8) * (2 * 2 ^ (7 - m % 8)) := by rw [← Nat.pow_succ', ← Nat.pow_add, show m % 8 + (7 - m % 8).succ = 8 from by omega]
  rw [← ofL_div, e1, ← Nat.div_div_eq_div_mul]
  generalize ofL l / 256 ^ (m / 8) = x
  conv => rhs; rw [e2, Nat.mod_mul_right_div_self, Nat.mod_mul_right_mod]
theorem and1_b (b : UInt8) {r : Nat} (hr : r < 8) : bits BinOp.and IntKind.u8 ((b.toNat : Int) / 2 ^ r) 1 = ((b.toNat / 2 ^ r % 2 : Nat) : Int) := by
  have h : ∀ (n : Fin 256) (r : Fin 8), bits BinOp.and IntKind.u8 (((UInt8.ofNat n.val).toNat : Int) / 2 ^ r.val) 1 = (((UInt8.ofNat n.val).toNat / 2 ^ r.val % 2 : Nat) : Int) := by decide +kernel
  have := h ⟨b.toNat, b.toNat_lt⟩ ⟨r, hr⟩
  simpa using this
set_option maxRecDepth 100000 in
set_option maxHeartbeats 2000000 in
theorem oftenR_any (l : List UInt8) (a : Rt) (hl : l.length = 32) (ha : a.ok) (w : World) : Calls Tryz.prog 99 #[.agg (bvs l).toArray, .agg a.cs] w (RRet (oftenR (ofL l) a) w) := by
  have F0 := Lib.hid (BK.start w)
  have T0 : Hid True := trivial
  have HA := Lib.hid ha
  have HL := Lib.hid hl
  obtain ⟨R, hR⟩ : ∃ R, R = oftenR (ofL l) a := ⟨_, rfl⟩
  have HR : Hid (oftR a (ofL l) 256 neutralR = R) := by show _ = _; rw [hR]; rfl
  rw [← hR]
  clear ha hl hR
  go_enter Tryz.func99, Tryz.ntmps99
  go_wp2_with (first
    | (have hx_ := T0; refine s_box F0.out rfl rfl rfl rfl ?_; clear hx_ T0; intro w1 b1 h1 _; have F1 := Lib.hid h1; clear h1 F0; have T1 : Hid True := trivial)
    | (have hx_ := T1; refine s_box F1.out rfl rfl rfl rfl ?_; clear hx_ T1; intro w2 b2 h1 _; have F2 := Lib.hid h1; clear h1 F1; have T2 : Hid True := trivial)
    | (have hx_ := T2; refine s_alloc F2.out rfl rfl zeroR rfl ?_; clear hx_ T2; intro w3 b3 h1 _; have F3 := Lib.hid h1; clear h1 F2; have T3 : Hid True := trivial)
    | (go_at_call 152; have hx_ := T3; refine (Neutral_any _).mono ?_; clear hx_ T3; rintro e1 w4 ⟨rfl, hb⟩; have F4 := Lib.hid (F3.out.later hb); clear hb F3; have T4 : Hid True := trivial)
    | (have hx_ := T4; refine s_alloc F4.out rfl rfl zeroR rfl ?_; clear hx_ T4; intro w5 b5 h1 _; have F5 := Lib.hid h1; clear h1 F4; have T5 : Hid True := trivial)
    | (have hx_ := T5; refine s_store F5.out rfl rfl 0 rfl rfl neutralR.cs rfl rfl (by kernel_rfl) (Rt.cells _) ?_; clear hx_ T5; intro w6 h1; have F6 := Lib.hid h1; clear h1 F5))
  go_loopw [6] (fun iv wr => ∃ (j : Nat) (out : Rt), j ≤ 256 ∧ iv = .int .i64 ((j : Int) - 1) ∧ Hid (out.ok ∧ oftR a (ofL l) j out = R ∧ BK w wr [(b5, out.cs, 183), (b3, nilR.cs, 183), (b2, a.cs, 183), (b1, (bvs l).toArray, 25)])) (fun i _ => (Go.RowKit.intOf i + 1).toNat)
  case atStart => exact ⟨256, neutralR, Nat.le_refl _, by go_num, neutralR_ok, HR.out, F6.out⟩
  case round =>
    obtain ⟨j, out, hj, rfl, hA⟩ := hrel
    clear F6
    have hF := Lib.hid hA.out.2.2
    have ho := Lib.hid hA.out.1
    have hE := Lib.hid hA.out.2.1
    clear hA
    cases j with
    | zero =>
      have e0 : ((0 : Nat) : Int) - 1 = -1 := rfl
      rw [e0]
      have HO : Hid (out = R) := hE
      go_wp2_with (first
        | (refine s_load_r rfl rfl out rfl (hF.out.lr 0 rfl) ?_)
        | (refine s_store hF.out rfl rfl 1 rfl rfl out.cs rfl rfl (by kernel_rfl) (Rt.cells _) ?_; intro w7 h1; have F7 := Lib.hid h1; clear h1 hF))
      exact bodyPost_ret (v := .agg out.cs) (by simp [results, Tryz.results99, asAddr]; exact retR (F7.out.mem (i := 1) rfl)) rfl ⟨by rw [HO.out], F7.out.below⟩
    | succ k =>
      have e0 : ((k + 1 : Nat) : Int) - 1 = (k : Int) := by omega
      rw [e0]
      have hm0 : (0 : Int) ≤ (k : Int) := by omega
      have hm8 : (k : Int) < 256 := by omega
      have hmq : k / 8 < 32 := by omega
      have hbit := ofL_bit l k
      have hand := and1_b (l.getD (k / 8) 0) (r := k % 8) (Nat.mod_lt _ (by decide))
      obtain ⟨bt, hbt⟩ : ∃ b, b = (l.getD (k / 8) 0).toNat := ⟨_, rfl⟩
      rw [← hbt] at hand hbit
      obtain ⟨t, htd⟩ : ∃ t, t = bt / 2 ^ (k % 8) % 2 := ⟨_, rfl⟩
      rw [← htd] at hand hbit
      have hq2 : t = 0 ∨ t = 1 := by omega
      have hE2 : Hid (oftR a (ofL l) k (if t = 1 then sumR (sumR out out) a else sumR out out) = R) := by
        have h := hE.out
        show _ = R
        rw [oftR, hbit] at h
        exact h
      obtain ⟨u, hu⟩ : ∃ u, u = sumR out out := ⟨_, rfl⟩
      have Cu : Hid (∀ w, Calls Tryz.prog 153 #[.agg out.cs, .agg out.cs] w (fun e w' => e = .returned (.agg u.cs) ∧ Below w.heap.size w w')) := fun w => by rw [hu]; exact sumR_any out out ho.out ho.out w
      have Ou : Hid u.ok := by show u.ok; rw [hu]; exact sumR_ok ho.out ho.out
      obtain ⟨v, hv⟩ : ∃ v, v = sumR u a := ⟨_, rfl⟩
      have Cv : Hid (∀ w, Calls Tryz.prog 153 #[.agg u.cs, .agg a.cs] w (fun e w' => e = .returned (.agg v.cs) ∧ Below w.heap.size w w')) := fun w => by rw [hv]; exact sumR_any u a Ou.out HA.out w
      have Ov : Hid v.ok := by show v.ok; rw [hv]; exact sumR_ok Ou.out HA.out
      rw [← hu, ← hv] at hE2
      have HJ := Lib.hid hj
      have ck : Hid (∀ w', BK w w' [(b5, u.cs, 183), (b3, nilR.cs, 183), (b2, a.cs, 183), (b1, (bvs l).toArray, 25)] → w'.cell? ⟨b1, k / 8, none⟩ = some (.int .u8 (bt : Int))) := fun w' h => (h.cell 3 rfl (k / 8)).trans (by rw [hbt]; have := HL.out; simp [bvs, bv, this, hmq])
      clear e0 hbit hmq htd hbt hu hv hE hj
      have T0 : Hid True := trivial
      rcases hq2 with rfl | rfl
      · rw [show (((0 : Nat) : Int)) = 0 from rfl] at hand
        rw [if_neg (by decide)] at hE2
        go_wp2_with (first
          | (have hx_ := T0; refine s_load_r rfl rfl out rfl (hF.out.lr 0 rfl) ?_; clear hx_ T0; have T1 : Hid True := trivial)
          | (have hx_ := T1; refine s_load_r rfl rfl out rfl (hF.out.lr 0 rfl) ?_; clear hx_ T1; have T2 : Hid True := trivial)
          | (go_at_call 153; have hx_ := T2; refine (Cu.out _).mono ?_; clear hx_ T2; rintro e1 w7 ⟨rfl, hb⟩; have F7 := Lib.hid (hF.out.later hb); clear hb hF; have T3 : Hid True := trivial)
          | (have hx_ := T3; refine s_store F7.out rfl rfl 0 rfl rfl u.cs rfl rfl (by kernel_rfl) (Rt.cells _) ?_; clear hx_ T3; intro w8 h1; have ck8 := ck.out _ h1; have F8 := Lib.hid h1; clear h1 F7))
        go_roundw
        case rel => exact ⟨k, u, by have := HJ.out; omega, by go_num, Ou.out, hE2.out, F8.out⟩
        case measure => simp [Go.RowKit.intOf]
      · rw [show (((1 : Nat) : Int)) = 1 from rfl] at hand
        rw [if_pos rfl] at hE2
        go_wp2_with (first
          | (have hx_ := T0; refine s_load_r rfl rfl out rfl (hF.out.lr 0 rfl) ?_; clear hx_ T0; have T1 : Hid True := trivial)
          | (have hx_ := T1; refine s_load_r rfl rfl out rfl (hF.out.lr 0 rfl) ?_; clear hx_ T1; have T2 : Hid True := trivial)
          | (go_at_call 153; have hx_ := T2; refine (Cu.out _).mono ?_; clear hx_ T2; rintro e1 w7 ⟨rfl, hb⟩; have F7 := Lib.hid (hF.out.later hb); clear hb hF; have T3 : Hid True := trivial)
          | (have hx_ := T3; refine s_store F7.out rfl rfl 0 rfl rfl u.cs rfl rfl (by kernel_rfl) (Rt.cells _) ?_; clear hx_ T3; intro w8 h1; have ck8 := ck.out _ h1; have F8 := Lib.hid h1; clear h1 F7; have T4 : Hid True := trivial)
          | (have hx_ := T4; refine s_load_r rfl rfl u rfl (F8.out.lr 0 rfl) ?_; clear hx_ T4; have T5 : Hid True := trivial)
          | (have hx_ := T5; refine s_load_r rfl rfl a rfl (F8.out.lr 2 rfl) ?_; clear hx_ T5; have T6 : Hid True := trivial)
          | (go_at_call 153; have hx_ := T6; refine (Cv.out _).mono ?_; clear hx_ T6; rintro e1 w9 ⟨rfl, hb⟩; have F9 := Lib.hid (F8.out.later hb); clear hb F8 ck8; have T7 : Hid True := trivial)
          | (have hx_ := T7; refine s_store F9.out rfl rfl 0 rfl rfl v.cs rfl rfl (by kernel_rfl) (Rt.cells _) ?_; clear hx_ T7; intro w10 h1; have F10 := Lib.hid h1; clear h1 F9))
        go_roundw
        case rel => exact ⟨k, v, by have := HJ.out; omega, by go_num, Ov.out, hE2.out, F10.out⟩
        case measure => simp [Go.RowKit.intOf]
end Go.Proofs.YtnhdepmalejclaaGreatDoor
