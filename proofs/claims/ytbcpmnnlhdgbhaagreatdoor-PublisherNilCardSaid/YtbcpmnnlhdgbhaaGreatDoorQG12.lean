/- The texts PE4 PE5 of this work, merged by wip/merge.py. No conditions. -/
import Derived.Test.YtbcpmnnlhdgbhaaGreatDoorQG11
import Derived.Test.YtbcpmnnlhdgbhaaGreatDoorQG04
namespace Go.Proofs.YtbcpmnnlhdgbhaaGreatDoor
open Go.RowKit Go.Lib
set_option maxRecDepth 100000 in
set_option maxHeartbeats 4000000 in
theorem chain_any (x : E5) (hx : x.ok) (w : World) : Calls Tryz.prog 232 #[.agg x.cs] w (fun e w' => e = .returned (.tuple #[.agg (x250E x).cs, .agg (e11E x).cs]) ∧ Below w.heap.size w w') := by
  obtain ⟨v15, h15⟩ : ∃ v, v = sqE 1 x := ⟨_, rfl⟩
  have O15 : Hid (v15.ok) := by show v15.ok; rw [h15]; exact sq_ok hx _
  have C15 : Hid (∀ w, Calls Tryz.prog 233 #[.agg x.cs, .int .i64 (1 : Int)] w (fun e w' => e = .returned (.agg v15.cs) ∧ Below w.heap.size w w')) := fun w => by rw [h15]; exact squared_any x hx 1 (by decide) w
  obtain ⟨v17, h17⟩ : ∃ v, v = sqE 2 v15 := ⟨_, rfl⟩
  have O17 : Hid (v17.ok) := by show v17.ok; rw [h17]; exact sq_ok O15.out _
  have C17 : Hid (∀ w, Calls Tryz.prog 233 #[.agg v15.cs, .int .i64 (2 : Int)] w (fun e w' => e = .returned (.agg v17.cs) ∧ Below w.heap.size w w')) := fun w => by rw [h17]; exact squared_any v15 O15.out 2 (by decide) w
  obtain ⟨v19, h19⟩ : ∃ v, v = timesE v17 x := ⟨_, rfl⟩
  have O19 : Hid (v19.ok) := by show v19.ok; rw [h19]; exact times_ok _ _
  have C19 : Hid (∀ w, Calls Tryz.prog 199 #[.agg v17.cs, .agg x.cs] w (fun e w' => e = .returned (.agg v19.cs) ∧ Below w.heap.size w w')) := fun w => by rw [h19]; exact Times_any v17 x O17.out hx w
  obtain ⟨v22, h22⟩ : ∃ v, v = timesE v19 v15 := ⟨_, rfl⟩
  have O22 : Hid (v22.ok) := by show v22.ok; rw [h22]; exact times_ok _ _
  have C22 : Hid (∀ w, Calls Tryz.prog 199 #[.agg v19.cs, .agg v15.cs] w (fun e w' => e = .returned (.agg v22.cs) ∧ Below w.heap.size w w')) := fun w => by rw [h22]; exact Times_any v19 v15 O19.out O15.out w
  obtain ⟨v24, h24⟩ : ∃ v, v = sqE 1 v22 := ⟨_, rfl⟩
  have O24 : Hid (v24.ok) := by show v24.ok; rw [h24]; exact sq_ok O22.out _
  have C24 : Hid (∀ w, Calls Tryz.prog 233 #[.agg v22.cs, .int .i64 (1 : Int)] w (fun e w' => e = .returned (.agg v24.cs) ∧ Below w.heap.size w w')) := fun w => by rw [h24]; exact squared_any v22 O22.out 1 (by decide) w
  obtain ⟨v26, h26⟩ : ∃ v, v = timesE v24 v19 := ⟨_, rfl⟩
  have O26 : Hid (v26.ok) := by show v26.ok; rw [h26]; exact times_ok _ _
  have C26 : Hid (∀ w, Calls Tryz.prog 199 #[.agg v24.cs, .agg v19.cs] w (fun e w' => e = .returned (.agg v26.cs) ∧ Below w.heap.size w w')) := fun w => by rw [h26]; exact Times_any v24 v19 O24.out O19.out w
  obtain ⟨v28, h28⟩ : ∃ v, v = sqE 5 v26 := ⟨_, rfl⟩
  have O28 : Hid (v28.ok) := by show v28.ok; rw [h28]; exact sq_ok O26.out _
  have C28 : Hid (∀ w, Calls Tryz.prog 233 #[.agg v26.cs, .int .i64 (5 : Int)] w (fun e w' => e = .returned (.agg v28.cs) ∧ Below w.heap.size w w')) := fun w => by rw [h28]; exact squared_any v26 O26.out 5 (by decide) w
  obtain ⟨v30, h30⟩ : ∃ v, v = timesE v28 v26 := ⟨_, rfl⟩
  have O30 : Hid (v30.ok) := by show v30.ok; rw [h30]; exact times_ok _ _
  have C30 : Hid (∀ w, Calls Tryz.prog 199 #[.agg v28.cs, .agg v26.cs] w (fun e w' => e = .returned (.agg v30.cs) ∧ Below w.heap.size w w')) := fun w => by rw [h30]; exact Times_any v28 v26 O28.out O26.out w
  obtain ⟨v32, h32⟩ : ∃ v, v = sqE 10 v30 := ⟨_, rfl⟩
  have O32 : Hid (v32.ok) := by show v32.ok; rw [h32]; exact sq_ok O30.out _
  have C32 : Hid (∀ w, Calls Tryz.prog 233 #[.agg v30.cs, .int .i64 (10 : Int)] w (fun e w' => e = .returned (.agg v32.cs) ∧ Below w.heap.size w w')) := fun w => by rw [h32]; exact squared_any v30 O30.out 10 (by decide) w
  obtain ⟨v34, h34⟩ : ∃ v, v = timesE v32 v30 := ⟨_, rfl⟩
  have O34 : Hid (v34.ok) := by show v34.ok; rw [h34]; exact times_ok _ _
  have C34 : Hid (∀ w, Calls Tryz.prog 199 #[.agg v32.cs, .agg v30.cs] w (fun e w' => e = .returned (.agg v34.cs) ∧ Below w.heap.size w w')) := fun w => by rw [h34]; exact Times_any v32 v30 O32.out O30.out w
  obtain ⟨v36, h36⟩ : ∃ v, v = sqE 20 v34 := ⟨_, rfl⟩
  have O36 : Hid (v36.ok) := by show v36.ok; rw [h36]; exact sq_ok O34.out _
  have C36 : Hid (∀ w, Calls Tryz.prog 233 #[.agg v34.cs, .int .i64 (20 : Int)] w (fun e w' => e = .returned (.agg v36.cs) ∧ Below w.heap.size w w')) := fun w => by rw [h36]; exact squared_any v34 O34.out 20 (by decide) w
  obtain ⟨v38, h38⟩ : ∃ v, v = timesE v36 v34 := ⟨_, rfl⟩
  have O38 : Hid (v38.ok) := by show v38.ok; rw [h38]; exact times_ok _ _
  have C38 : Hid (∀ w, Calls Tryz.prog 199 #[.agg v36.cs, .agg v34.cs] w (fun e w' => e = .returned (.agg v38.cs) ∧ Below w.heap.size w w')) := fun w => by rw [h38]; exact Times_any v36 v34 O36.out O34.out w
  obtain ⟨v40, h40⟩ : ∃ v, v = sqE 10 v38 := ⟨_, rfl⟩
  have O40 : Hid (v40.ok) := by show v40.ok; rw [h40]; exact sq_ok O38.out _
  have C40 : Hid (∀ w, Calls Tryz.prog 233 #[.agg v38.cs, .int .i64 (10 : Int)] w (fun e w' => e = .returned (.agg v40.cs) ∧ Below w.heap.size w w')) := fun w => by rw [h40]; exact squared_any v38 O38.out 10 (by decide) w
  obtain ⟨v42, h42⟩ : ∃ v, v = timesE v40 v30 := ⟨_, rfl⟩
  have O42 : Hid (v42.ok) := by show v42.ok; rw [h42]; exact times_ok _ _
  have C42 : Hid (∀ w, Calls Tryz.prog 199 #[.agg v40.cs, .agg v30.cs] w (fun e w' => e = .returned (.agg v42.cs) ∧ Below w.heap.size w w')) := fun w => by rw [h42]; exact Times_any v40 v30 O40.out O30.out w
  obtain ⟨v44, h44⟩ : ∃ v, v = sqE 50 v42 := ⟨_, rfl⟩
  have O44 : Hid (v44.ok) := by show v44.ok; rw [h44]; exact sq_ok O42.out _
  have C44 : Hid (∀ w, Calls Tryz.prog 233 #[.agg v42.cs, .int .i64 (50 : Int)] w (fun e w' => e = .returned (.agg v44.cs) ∧ Below w.heap.size w w')) := fun w => by rw [h44]; exact squared_any v42 O42.out 50 (by decide) w
  obtain ⟨v46, h46⟩ : ∃ v, v = timesE v44 v42 := ⟨_, rfl⟩
  have O46 : Hid (v46.ok) := by show v46.ok; rw [h46]; exact times_ok _ _
  have C46 : Hid (∀ w, Calls Tryz.prog 199 #[.agg v44.cs, .agg v42.cs] w (fun e w' => e = .returned (.agg v46.cs) ∧ Below w.heap.size w w')) := fun w => by rw [h46]; exact Times_any v44 v42 O44.out O42.out w
  obtain ⟨v48, h48⟩ : ∃ v, v = sqE 100 v46 := ⟨_, rfl⟩
  have O48 : Hid (v48.ok) := by show v48.ok; rw [h48]; exact sq_ok O46.out _
  have C48 : Hid (∀ w, Calls Tryz.prog 233 #[.agg v46.cs, .int .i64 (100 : Int)] w (fun e w' => e = .returned (.agg v48.cs) ∧ Below w.heap.size w w')) := fun w => by rw [h48]; exact squared_any v46 O46.out 100 (by decide) w
  obtain ⟨v50, h50⟩ : ∃ v, v = timesE v48 v46 := ⟨_, rfl⟩
  have O50 : Hid (v50.ok) := by show v50.ok; rw [h50]; exact times_ok _ _
  have C50 : Hid (∀ w, Calls Tryz.prog 199 #[.agg v48.cs, .agg v46.cs] w (fun e w' => e = .returned (.agg v50.cs) ∧ Below w.heap.size w w')) := fun w => by rw [h50]; exact Times_any v48 v46 O48.out O46.out w
  obtain ⟨v52, h52⟩ : ∃ v, v = sqE 50 v50 := ⟨_, rfl⟩
  have O52 : Hid (v52.ok) := by show v52.ok; rw [h52]; exact sq_ok O50.out _
  have C52 : Hid (∀ w, Calls Tryz.prog 233 #[.agg v50.cs, .int .i64 (50 : Int)] w (fun e w' => e = .returned (.agg v52.cs) ∧ Below w.heap.size w w')) := fun w => by rw [h52]; exact squared_any v50 O50.out 50 (by decide) w
  obtain ⟨v54, h54⟩ : ∃ v, v = timesE v52 v42 := ⟨_, rfl⟩
  have O54 : Hid (v54.ok) := by show v54.ok; rw [h54]; exact times_ok _ _
  have C54 : Hid (∀ w, Calls Tryz.prog 199 #[.agg v52.cs, .agg v42.cs] w (fun e w' => e = .returned (.agg v54.cs) ∧ Below w.heap.size w w')) := fun w => by rw [h54]; exact Times_any v52 v42 O52.out O42.out w
  have HR : Hid (v54 = x250E x ∧ v22 = e11E x) := by show _ ∧ _; subst h15 h17 h19 h22 h24 h26 h28 h30 h32 h34 h36 h38 h40 h42 h44 h46 h48 h50 h52 h54; exact ⟨rfl, rfl⟩
  rw [← HR.out.1, ← HR.out.2]
  clear h15 h17 h19 h22 h24 h26 h28 h30 h32 h34 h36 h38 h40 h42 h44 h46 h48 h50 h52 h54
  have F0 := Lib.hid (BK.start w)
  have T0 : Hid True := trivial
  go_enter Tryz.func232, Tryz.ntmps232
  go_wp2_with (first
    | (have hx_ := T0; refine s_box F0.out rfl rfl rfl rfl ?_; intro w1 b1 h1 _; have F1 := Lib.hid h1; clear h1 F0; clear hx_ T0; have T1 : Hid True := trivial)
    | (have hx_ := T1; refine s_alloc F1.out rfl rfl zeroE rfl ?_; intro w2 b2 h1 _; have F2 := Lib.hid h1; clear h1 F1; clear hx_ T1; have T2 : Hid True := trivial)
    | (have hx_ := T2; refine s_alloc F2.out rfl rfl zeroE rfl ?_; intro w3 b3 h1 _; have F3 := Lib.hid h1; clear h1 F2; clear hx_ T2; have T3 : Hid True := trivial)
    | (have hx_ := T3; refine s_load_e rfl rfl x rfl (F3.out.le 2 rfl) ?_; clear hx_ T3; have T4 : Hid True := trivial)
    | (go_at_call 233; have hx_ := T4; refine (C15.out _).mono ?_; rintro e w4 ⟨rfl, hb⟩; have F4 := Lib.hid (F3.out.later hb); clear hb F3; clear hx_ T4; have T5 : Hid True := trivial)
    | (have hx_ := T5; refine s_alloc F4.out rfl rfl zeroE rfl ?_; intro w5 b5 h1 _; have F5 := Lib.hid h1; clear h1 F4; clear hx_ T5; have T6 : Hid True := trivial)
    | (have hx_ := T6; refine s_store F5.out rfl rfl 0 rfl rfl v15.cs rfl rfl (by kernel_rfl) (E5.cells _) ?_; intro w6 h1; have F6 := Lib.hid h1; clear h1 F5; clear hx_ T6; have T7 : Hid True := trivial))
  refine wp_region_walk 4 [(5, nilE.cs, 260)] (by kernel_rfl) (by kernel_rfl) (allocs_ok (by kernel_rfl) (fun x hx => by rw [List.mem_singleton.1 hx]; exact zeroE)) ?Af1 ?h1 ?hK1
  case h1 =>
    intro F hF hN
    try simp only [Act.put]
    try simp only [List.setIfInBounds_toArray, List.set_cons_succ, List.set_cons_zero]
    try simp only [List.append_eq]
    try simp only [List.cons_append, List.nil_append]
    simp only [List.take_succ_cons, List.take_zero]
    go_big_quiet_want
    refine q_load_e rfl v15 rfl (F6.out.le 0 rfl) ?_
    go_big_quiet_on
    simp only [Act.put, List.setIfInBounds_toArray, List.set_cons_succ, List.set_cons_zero]
    go_big_quiet_step (exact fs_call hF (C17.out _))
    go_big_quiet_want
    refine q_load_e rfl x rfl (F6.out.le 3 rfl) ?_
    go_big_quiet_on
    simp only [Act.put, List.setIfInBounds_toArray, List.set_cons_succ, List.set_cons_zero]
    go_big_quiet_step (exact fs_call hF (C19.out _))
    refine wpQuiet_nil ?_
    exact rfl
  case hK1 =>
    intro w7 hb
    intro b8 hB8 hu8 hr8
    have F7 := Lib.hid (F6.out.foundAll hb [(b8, nilE.cs, 260)] (List.nodup_cons.2 ⟨hu8, List.nodup_nil⟩) (List.forall_mem_cons.2 ⟨⟨hB8, hr8⟩, fun _ h => (List.not_mem_nil h).elim⟩))
    clear hb hB8 hu8 hr8
    simp only [freshQ]
    try simp only [Act.put]
    try simp only [List.setIfInBounds_toArray, List.set_cons_succ, List.set_cons_zero]
    try simp only [List.append_eq]
    try simp only [List.cons_append, List.nil_append]
    simp only [List.length_cons, List.length_nil, Nat.reduceAdd, List.drop_succ_cons, List.drop_zero]
    have T7 : Hid True := trivial
    go_wp2_with (first
      | (have hx_ := T7; refine s_store F7.out rfl rfl 0 rfl rfl v19.cs rfl rfl (by kernel_rfl) (E5.cells _) ?_; intro w9 h1; have F8 := Lib.hid h1; clear h1 F7; clear hx_ T7; have T8 : Hid True := trivial)
      | (have hx_ := T8; refine s_load_e rfl rfl v19 rfl (F8.out.le 0 rfl) ?_; clear hx_ T8; have T9 : Hid True := trivial)
      | (have hx_ := T9; refine s_load_e rfl rfl v15 rfl (F8.out.le 1 rfl) ?_; clear hx_ T9; have T10 : Hid True := trivial)
      | (go_at_call 199; have hx_ := T10; refine (C22.out _).mono ?_; rintro e w10 ⟨rfl, hb⟩; have F9 := Lib.hid (F8.out.later hb); clear hb F8; clear hx_ T10; have T11 : Hid True := trivial)
      | (have hx_ := T11; refine s_alloc F9.out rfl rfl zeroE rfl ?_; intro w11 b11 h1 _; have F10 := Lib.hid h1; clear h1 F9; clear hx_ T11; have T12 : Hid True := trivial)
      | (have hx_ := T12; refine s_store F10.out rfl rfl 0 rfl rfl v22.cs rfl rfl (by kernel_rfl) (E5.cells _) ?_; intro w12 h1; have F11 := Lib.hid h1; clear h1 F10; clear hx_ T12; have T13 : Hid True := trivial))
    refine wp_region_walk 4 [(7, nilE.cs, 260)] (by kernel_rfl) (by kernel_rfl) (allocs_ok (by kernel_rfl) (fun x hx => by rw [List.mem_singleton.1 hx]; exact zeroE)) ?Af2 ?h2 ?hK2
    case h2 =>
      intro F hF hN
      try simp only [Act.put]
      try simp only [List.setIfInBounds_toArray, List.set_cons_succ, List.set_cons_zero]
      try simp only [List.append_eq]
      try simp only [List.cons_append, List.nil_append]
      simp only [List.take_succ_cons, List.take_zero]
      go_big_quiet_want
      refine q_load_e rfl v22 rfl (F11.out.le 0 rfl) ?_
      go_big_quiet_on
      simp only [Act.put, List.setIfInBounds_toArray, List.set_cons_succ, List.set_cons_zero]
      go_big_quiet_step (exact fs_call hF (C24.out _))
      go_big_quiet_want
      refine q_load_e rfl v19 rfl (F11.out.le 1 rfl) ?_
      go_big_quiet_on
      simp only [Act.put, List.setIfInBounds_toArray, List.set_cons_succ, List.set_cons_zero]
      go_big_quiet_step (exact fs_call hF (C26.out _))
      refine wpQuiet_nil ?_
      exact rfl
    case hK2 =>
      intro w13 hb
      intro b14 hB14 hu14 hr14
      have F12 := Lib.hid (F11.out.foundAll hb [(b14, nilE.cs, 260)] (List.nodup_cons.2 ⟨hu14, List.nodup_nil⟩) (List.forall_mem_cons.2 ⟨⟨hB14, hr14⟩, fun _ h => (List.not_mem_nil h).elim⟩))
      clear hb hB14 hu14 hr14
      simp only [freshQ]
      try simp only [Act.put]
      try simp only [List.setIfInBounds_toArray, List.set_cons_succ, List.set_cons_zero]
      try simp only [List.append_eq]
      try simp only [List.cons_append, List.nil_append]
      simp only [List.length_cons, List.length_nil, Nat.reduceAdd, List.drop_succ_cons, List.drop_zero]
      have T13 : Hid True := trivial
      go_wp2_with (first
        | (have hx_ := T13; refine s_store F12.out rfl rfl 0 rfl rfl v26.cs rfl rfl (by kernel_rfl) (E5.cells _) ?_; intro w15 h1; have F13 := Lib.hid h1; clear h1 F12; clear hx_ T13; have T14 : Hid True := trivial))
      refine wp_region_walk 4 [(8, nilE.cs, 260)] (by kernel_rfl) (by kernel_rfl) (allocs_ok (by kernel_rfl) (fun x hx => by rw [List.mem_singleton.1 hx]; exact zeroE)) ?Af3 ?h3 ?hK3
      case h3 =>
        intro F hF hN
        try simp only [Act.put]
        try simp only [List.setIfInBounds_toArray, List.set_cons_succ, List.set_cons_zero]
        try simp only [List.append_eq]
        try simp only [List.cons_append, List.nil_append]
        simp only [List.take_succ_cons, List.take_zero]
        go_big_quiet_want
        refine q_load_e rfl v26 rfl (F13.out.le 0 rfl) ?_
        go_big_quiet_on
        simp only [Act.put, List.setIfInBounds_toArray, List.set_cons_succ, List.set_cons_zero]
        go_big_quiet_step (exact fs_call hF (C28.out _))
        go_big_quiet_want
        refine q_load_e rfl v26 rfl (F13.out.le 0 rfl) ?_
        go_big_quiet_on
        simp only [Act.put, List.setIfInBounds_toArray, List.set_cons_succ, List.set_cons_zero]
        go_big_quiet_step (exact fs_call hF (C30.out _))
        refine wpQuiet_nil ?_
        exact rfl
      case hK3 =>
        intro w16 hb
        intro b17 hB17 hu17 hr17
        have F14 := Lib.hid (F13.out.foundAll hb [(b17, nilE.cs, 260)] (List.nodup_cons.2 ⟨hu17, List.nodup_nil⟩) (List.forall_mem_cons.2 ⟨⟨hB17, hr17⟩, fun _ h => (List.not_mem_nil h).elim⟩))
        clear hb hB17 hu17 hr17
        simp only [freshQ]
        try simp only [Act.put]
        try simp only [List.setIfInBounds_toArray, List.set_cons_succ, List.set_cons_zero]
        try simp only [List.append_eq]
        try simp only [List.cons_append, List.nil_append]
        simp only [List.length_cons, List.length_nil, Nat.reduceAdd, List.drop_succ_cons, List.drop_zero]
        have T14 : Hid True := trivial
        go_wp2_with (first
          | (have hx_ := T14; refine s_store F14.out rfl rfl 0 rfl rfl v30.cs rfl rfl (by kernel_rfl) (E5.cells _) ?_; intro w18 h1; have F15 := Lib.hid h1; clear h1 F14; clear hx_ T14; have T15 : Hid True := trivial))
        refine wp_region_walk 4 [(9, nilE.cs, 260)] (by kernel_rfl) (by kernel_rfl) (allocs_ok (by kernel_rfl) (fun x hx => by rw [List.mem_singleton.1 hx]; exact zeroE)) ?Af4 ?h4 ?hK4
        case h4 =>
          intro F hF hN
          try simp only [Act.put]
          try simp only [List.setIfInBounds_toArray, List.set_cons_succ, List.set_cons_zero]
          try simp only [List.append_eq]
          try simp only [List.cons_append, List.nil_append]
          simp only [List.take_succ_cons, List.take_zero]
          go_big_quiet_want
          refine q_load_e rfl v30 rfl (F15.out.le 0 rfl) ?_
          go_big_quiet_on
          simp only [Act.put, List.setIfInBounds_toArray, List.set_cons_succ, List.set_cons_zero]
          go_big_quiet_step (exact fs_call hF (C32.out _))
          go_big_quiet_want
          refine q_load_e rfl v30 rfl (F15.out.le 0 rfl) ?_
          go_big_quiet_on
          simp only [Act.put, List.setIfInBounds_toArray, List.set_cons_succ, List.set_cons_zero]
          go_big_quiet_step (exact fs_call hF (C34.out _))
          refine wpQuiet_nil ?_
          exact rfl
        case hK4 =>
          intro w19 hb
          intro b20 hB20 hu20 hr20
          have F16 := Lib.hid (F15.out.foundAll hb [(b20, nilE.cs, 260)] (List.nodup_cons.2 ⟨hu20, List.nodup_nil⟩) (List.forall_mem_cons.2 ⟨⟨hB20, hr20⟩, fun _ h => (List.not_mem_nil h).elim⟩))
          clear hb hB20 hu20 hr20
          simp only [freshQ]
          try simp only [Act.put]
          try simp only [List.setIfInBounds_toArray, List.set_cons_succ, List.set_cons_zero]
          try simp only [List.append_eq]
          try simp only [List.cons_append, List.nil_append]
          simp only [List.length_cons, List.length_nil, Nat.reduceAdd, List.drop_succ_cons, List.drop_zero]
          have T15 : Hid True := trivial
          go_wp2_with (first
            | (have hx_ := T15; refine s_store F16.out rfl rfl 0 rfl rfl v34.cs rfl rfl (by kernel_rfl) (E5.cells _) ?_; intro w21 h1; have F17 := Lib.hid h1; clear h1 F16; clear hx_ T15; have T16 : Hid True := trivial))
          refine wp_region_walk 4 [(10, nilE.cs, 260)] (by kernel_rfl) (by kernel_rfl) (allocs_ok (by kernel_rfl) (fun x hx => by rw [List.mem_singleton.1 hx]; exact zeroE)) ?Af5 ?h5 ?hK5
          case h5 =>
            intro F hF hN
            try simp only [Act.put]
            try simp only [List.setIfInBounds_toArray, List.set_cons_succ, List.set_cons_zero]
            try simp only [List.append_eq]
            try simp only [List.cons_append, List.nil_append]
            simp only [List.take_succ_cons, List.take_zero]
            go_big_quiet_want
            refine q_load_e rfl v34 rfl (F17.out.le 0 rfl) ?_
            go_big_quiet_on
            simp only [Act.put, List.setIfInBounds_toArray, List.set_cons_succ, List.set_cons_zero]
            go_big_quiet_step (exact fs_call hF (C36.out _))
            go_big_quiet_want
            refine q_load_e rfl v34 rfl (F17.out.le 0 rfl) ?_
            go_big_quiet_on
            simp only [Act.put, List.setIfInBounds_toArray, List.set_cons_succ, List.set_cons_zero]
            go_big_quiet_step (exact fs_call hF (C38.out _))
            refine wpQuiet_nil ?_
            exact rfl
          case hK5 =>
            intro w22 hb
            intro b23 hB23 hu23 hr23
            have F18 := Lib.hid (F17.out.foundAll hb [(b23, nilE.cs, 260)] (List.nodup_cons.2 ⟨hu23, List.nodup_nil⟩) (List.forall_mem_cons.2 ⟨⟨hB23, hr23⟩, fun _ h => (List.not_mem_nil h).elim⟩))
            clear hb hB23 hu23 hr23
            simp only [freshQ]
            try simp only [Act.put]
            try simp only [List.setIfInBounds_toArray, List.set_cons_succ, List.set_cons_zero]
            try simp only [List.append_eq]
            try simp only [List.cons_append, List.nil_append]
            simp only [List.length_cons, List.length_nil, Nat.reduceAdd, List.drop_succ_cons, List.drop_zero]
            have T16 : Hid True := trivial
            go_wp2_with (first
              | (have hx_ := T16; refine s_store F18.out rfl rfl 0 rfl rfl v38.cs rfl rfl (by kernel_rfl) (E5.cells _) ?_; intro w24 h1; have F19 := Lib.hid h1; clear h1 F18; clear hx_ T16; have T17 : Hid True := trivial))
            refine wp_region_walk 4 [(11, nilE.cs, 260)] (by kernel_rfl) (by kernel_rfl) (allocs_ok (by kernel_rfl) (fun x hx => by rw [List.mem_singleton.1 hx]; exact zeroE)) ?Af6 ?h6 ?hK6
            case h6 =>
              intro F hF hN
              try simp only [Act.put]
              try simp only [List.setIfInBounds_toArray, List.set_cons_succ, List.set_cons_zero]
              try simp only [List.append_eq]
              try simp only [List.cons_append, List.nil_append]
              simp only [List.take_succ_cons, List.take_zero]
              go_big_quiet_want
              refine q_load_e rfl v38 rfl (F19.out.le 0 rfl) ?_
              go_big_quiet_on
              simp only [Act.put, List.setIfInBounds_toArray, List.set_cons_succ, List.set_cons_zero]
              go_big_quiet_step (exact fs_call hF (C40.out _))
              go_big_quiet_want
              refine q_load_e rfl v30 rfl (F19.out.le 2 rfl) ?_
              go_big_quiet_on
              simp only [Act.put, List.setIfInBounds_toArray, List.set_cons_succ, List.set_cons_zero]
              go_big_quiet_step (exact fs_call hF (C42.out _))
              refine wpQuiet_nil ?_
              exact rfl
            case hK6 =>
              intro w25 hb
              intro b26 hB26 hu26 hr26
              have F20 := Lib.hid (F19.out.foundAll hb [(b26, nilE.cs, 260)] (List.nodup_cons.2 ⟨hu26, List.nodup_nil⟩) (List.forall_mem_cons.2 ⟨⟨hB26, hr26⟩, fun _ h => (List.not_mem_nil h).elim⟩))
              clear hb hB26 hu26 hr26
              simp only [freshQ]
              try simp only [Act.put]
              try simp only [List.setIfInBounds_toArray, List.set_cons_succ, List.set_cons_zero]
              try simp only [List.append_eq]
              try simp only [List.cons_append, List.nil_append]
              simp only [List.length_cons, List.length_nil, Nat.reduceAdd, List.drop_succ_cons, List.drop_zero]
              have T17 : Hid True := trivial
              go_wp2_with (first
                | (have hx_ := T17; refine s_store F20.out rfl rfl 0 rfl rfl v42.cs rfl rfl (by kernel_rfl) (E5.cells _) ?_; intro w27 h1; have F21 := Lib.hid h1; clear h1 F20; clear hx_ T17; have T18 : Hid True := trivial))
              refine wp_region_walk 4 [(12, nilE.cs, 260)] (by kernel_rfl) (by kernel_rfl) (allocs_ok (by kernel_rfl) (fun x hx => by rw [List.mem_singleton.1 hx]; exact zeroE)) ?Af7 ?h7 ?hK7
              case h7 =>
                intro F hF hN
                try simp only [Act.put]
                try simp only [List.setIfInBounds_toArray, List.set_cons_succ, List.set_cons_zero]
                try simp only [List.append_eq]
                try simp only [List.cons_append, List.nil_append]
                simp only [List.take_succ_cons, List.take_zero]
                go_big_quiet_want
                refine q_load_e rfl v42 rfl (F21.out.le 0 rfl) ?_
                go_big_quiet_on
                simp only [Act.put, List.setIfInBounds_toArray, List.set_cons_succ, List.set_cons_zero]
                go_big_quiet_step (exact fs_call hF (C44.out _))
                go_big_quiet_want
                refine q_load_e rfl v42 rfl (F21.out.le 0 rfl) ?_
                go_big_quiet_on
                simp only [Act.put, List.setIfInBounds_toArray, List.set_cons_succ, List.set_cons_zero]
                go_big_quiet_step (exact fs_call hF (C46.out _))
                refine wpQuiet_nil ?_
                exact rfl
              case hK7 =>
                intro w28 hb
                intro b29 hB29 hu29 hr29
                have F22 := Lib.hid (F21.out.foundAll hb [(b29, nilE.cs, 260)] (List.nodup_cons.2 ⟨hu29, List.nodup_nil⟩) (List.forall_mem_cons.2 ⟨⟨hB29, hr29⟩, fun _ h => (List.not_mem_nil h).elim⟩))
                clear hb hB29 hu29 hr29
                simp only [freshQ]
                try simp only [Act.put]
                try simp only [List.setIfInBounds_toArray, List.set_cons_succ, List.set_cons_zero]
                try simp only [List.append_eq]
                try simp only [List.cons_append, List.nil_append]
                simp only [List.length_cons, List.length_nil, Nat.reduceAdd, List.drop_succ_cons, List.drop_zero]
                have T18 : Hid True := trivial
                go_wp2_with (first
                  | (have hx_ := T18; refine s_store F22.out rfl rfl 0 rfl rfl v46.cs rfl rfl (by kernel_rfl) (E5.cells _) ?_; intro w30 h1; have F23 := Lib.hid h1; clear h1 F22; clear hx_ T18; have T19 : Hid True := trivial))
                refine wp_region_walk 4 [(13, nilE.cs, 260)] (by kernel_rfl) (by kernel_rfl) (allocs_ok (by kernel_rfl) (fun x hx => by rw [List.mem_singleton.1 hx]; exact zeroE)) ?Af8 ?h8 ?hK8
                case h8 =>
                  intro F hF hN
                  try simp only [Act.put]
                  try simp only [List.setIfInBounds_toArray, List.set_cons_succ, List.set_cons_zero]
                  try simp only [List.append_eq]
                  try simp only [List.cons_append, List.nil_append]
                  simp only [List.take_succ_cons, List.take_zero]
                  go_big_quiet_want
                  refine q_load_e rfl v46 rfl (F23.out.le 0 rfl) ?_
                  go_big_quiet_on
                  simp only [Act.put, List.setIfInBounds_toArray, List.set_cons_succ, List.set_cons_zero]
                  go_big_quiet_step (exact fs_call hF (C48.out _))
                  go_big_quiet_want
                  refine q_load_e rfl v46 rfl (F23.out.le 0 rfl) ?_
                  go_big_quiet_on
                  simp only [Act.put, List.setIfInBounds_toArray, List.set_cons_succ, List.set_cons_zero]
                  go_big_quiet_step (exact fs_call hF (C50.out _))
                  refine wpQuiet_nil ?_
                  exact rfl
                case hK8 =>
                  intro w31 hb
                  intro b32 hB32 hu32 hr32
                  have F24 := Lib.hid (F23.out.foundAll hb [(b32, nilE.cs, 260)] (List.nodup_cons.2 ⟨hu32, List.nodup_nil⟩) (List.forall_mem_cons.2 ⟨⟨hB32, hr32⟩, fun _ h => (List.not_mem_nil h).elim⟩))
                  clear hb hB32 hu32 hr32
                  simp only [freshQ]
                  try simp only [Act.put]
                  try simp only [List.setIfInBounds_toArray, List.set_cons_succ, List.set_cons_zero]
                  try simp only [List.append_eq]
                  try simp only [List.cons_append, List.nil_append]
                  simp only [List.length_cons, List.length_nil, Nat.reduceAdd, List.drop_succ_cons, List.drop_zero]
                  have T19 : Hid True := trivial
                  go_wp2_with (first
                    | (have hx_ := T19; refine s_store F24.out rfl rfl 0 rfl rfl v50.cs rfl rfl (by kernel_rfl) (E5.cells _) ?_; intro w33 h1; have F25 := Lib.hid h1; clear h1 F24; clear hx_ T19; have T20 : Hid True := trivial))
                  refine AnyC.startB (fun w' => w'.rangeAt b32 0 v50.cs.toList ∧ w'.rangeAt b26 0 v42.cs.toList ∧ w'.rangeAt b11 0 v22.cs.toList) (by kernel_rfl) rfl ?_
                  intro wd hbd _
                  have F26 := Lib.hid (F25.out.later hbd)
                  clear hbd
                  apply AnyC.take (i := 0) rfl (by kernel_rfl) rfl
                  · intro w' hC K hK
                    refine wpList_load_arr rfl 260 _ rfl b32 0 rfl v50.cs _ hC.1 Tryz.underlying260 rfl (by kernel_rfl) ?_
                    go_wp2
                    exact hK
                  · rfl
                  apply AnyC.take (i := 2) rfl (by kernel_rfl) rfl
                  · intro w' hC K hK
                    refine wpList_load_arr rfl 260 _ rfl b26 0 rfl v42.cs _ hC.2.1 Tryz.underlying260 rfl (by kernel_rfl) ?_
                    go_wp2
                    exact hK
                  · rfl
                  apply AnyC.take (i := 4) rfl (by kernel_rfl) rfl
                  · intro w' hC K hK
                    refine wpList_load_arr rfl 260 _ rfl b11 0 rfl v22.cs _ hC.2.2 Tryz.underlying260 rfl (by kernel_rfl) ?_
                    go_wp2
                    exact hK
                  · rfl
                  apply AnyC.solo (i := 1) rfl (by kernel_rfl) ⟨F26.out.le 0 rfl _ (Below.refl _ _), F26.out.le 2 rfl _ (Below.refl _ _), F26.out.le 7 rfl _ (Below.refl _ _)⟩
                  go_wp2_with (go_at_call 233; refine (C52.out _).mono ?_; rintro e wx ⟨rfl, hb⟩; have F27 := Lib.hid (F26.out.later hb); clear hb)
                  refine ⟨rfl, ?_⟩
                  apply AnyC.solo (i := 3) rfl (by kernel_rfl) ⟨F27.out.le 0 rfl _ (Below.refl _ _), F27.out.le 2 rfl _ (Below.refl _ _), F27.out.le 7 rfl _ (Below.refl _ _)⟩
                  go_wp2_with (go_at_call 199; refine (C54.out _).mono ?_; rintro e wy ⟨rfl, hb⟩; have F28 := Lib.hid (F27.out.later hb); clear hb)
                  refine ⟨rfl, ?_⟩
                  apply AnyC.solo (i := 5) rfl (by kernel_rfl) ⟨F28.out.le 0 rfl _ (Below.refl _ _), F28.out.le 2 rfl _ (Below.refl _ _), F28.out.le 7 rfl _ (Below.refl _ _)⟩
                  go_wp2_with (refine s_store F28.out rfl rfl 11 rfl rfl v54.cs rfl rfl (by kernel_rfl) (E5.cells _) ?_; intro wz h1; have F29 := Lib.hid h1; clear h1)
                  refine ⟨rfl, ?_⟩
                  apply AnyC.solo (i := 6) rfl (by kernel_rfl) ⟨F29.out.le 0 rfl _ (Below.refl _ _), F29.out.le 2 rfl _ (Below.refl _ _), F29.out.le 7 rfl _ (Below.refl _ _)⟩
                  go_wp2_with (refine s_store F29.out rfl rfl 10 rfl rfl v22.cs rfl rfl (by kernel_rfl) (E5.cells _) ?_; intro wu h1; have F30 := Lib.hid h1; clear h1)
                  refine ⟨rfl, ?_⟩
                  refine AnyC.done ⟨F30.out.le 0 rfl _ (Below.refl _ _), F30.out.le 2 rfl _ (Below.refl _ _), F30.out.le 7 rfl _ (Below.refl _ _)⟩ (by kernel_rfl) ?_
                  go_wp2
                  have r1 := ret5 (F30.out.mem (i := 11) rfl)
                  have r2 := ret5 (F30.out.mem (i := 10) rfl)
                  exact bodyPost_ret (v := .tuple #[.agg v54.cs, .agg v22.cs]) (by simp [results, Tryz.results232, asAddr, r1, r2]) rfl ⟨rfl, F30.out.below⟩
end Go.Proofs.YtbcpmnnlhdgbhaaGreatDoor

namespace Go.Proofs.YtbcpmnnlhdgbhaaGreatDoor
open Go.RowKit Go.Lib
set_option maxRecDepth 100000 in
set_option maxHeartbeats 4000000 in
theorem Inverse_any (x : E5) (hx : x.ok) (w : World) : Calls Tryz.prog 198 #[.agg x.cs] w (ERet (invE x) w) := by
  obtain ⟨v7, h7⟩ : ∃ v, v = ((x250E x, e11E x) : E5 × E5) := ⟨_, rfl⟩
  have O7 : Hid (v7.1.ok ∧ v7.2.ok) := by show _ ∧ _; rw [h7]; exact ⟨times_ok _ _, times_ok _ _⟩
  have C7 : Hid (∀ w, Calls Tryz.prog 232 #[.agg x.cs] w (fun e w' => e = .returned (.tuple #[.agg v7.1.cs, .agg v7.2.cs]) ∧ Below w.heap.size w w')) := fun w => by rw [h7]; exact chain_any x hx w
  obtain ⟨v11, h11⟩ : ∃ v, v = sqE 5 v7.1 := ⟨_, rfl⟩
  have O11 : Hid (v11.ok) := by show v11.ok; rw [h11]; exact sq_ok (O7.out.1) _
  have C11 : Hid (∀ w, Calls Tryz.prog 233 #[.agg v7.1.cs, .int .i64 (5 : Int)] w (fun e w' => e = .returned (.agg v11.cs) ∧ Below w.heap.size w w')) := fun w => by rw [h11]; exact squared_any v7.1 (O7.out.1) 5 (by decide) w
  obtain ⟨v13, h13⟩ : ∃ v, v = timesE v11 v7.2 := ⟨_, rfl⟩
  have O13 : Hid (v13.ok) := by show v13.ok; rw [h13]; exact times_ok _ _
  have C13 : Hid (∀ w, Calls Tryz.prog 199 #[.agg v11.cs, .agg v7.2.cs] w (fun e w' => e = .returned (.agg v13.cs) ∧ Below w.heap.size w w')) := fun w => by rw [h13]; exact Times_any v11 v7.2 O11.out (O7.out.2) w
  have HR : Hid (v13 = invE x) := by show _ = _; subst h7 h11 h13; rfl
  clear h7 h11 h13
  have F0 := Lib.hid (BK.start w)
  have T0 : Hid True := trivial
  go_enter Tryz.func198, Tryz.ntmps198
  go_wp2_with (first
    | (have hx_ := T0; refine s_box F0.out rfl rfl rfl rfl ?_; intro w1 b1 h1 _; have F1 := Lib.hid h1; clear h1 F0; clear hx_ T0; have T1 : Hid True := trivial)
    | (have hx_ := T1; refine s_alloc F1.out rfl rfl zeroE rfl ?_; intro w2 b2 h1 _; have F2 := Lib.hid h1; clear h1 F1; clear hx_ T1; have T2 : Hid True := trivial)
    | (have hx_ := T2; refine s_load_e rfl rfl x rfl (F2.out.le 1 rfl) ?_; clear hx_ T2; have T3 : Hid True := trivial)
    | (go_at_call 232; have hx_ := T3; refine (C7.out _).mono ?_; rintro e w3 ⟨rfl, hb⟩; have F3 := Lib.hid (F2.out.later hb); clear hb F2; clear hx_ T3; have T4 : Hid True := trivial)
    | (have hx_ := T4; refine s_alloc F3.out rfl rfl zeroE rfl ?_; intro w4 b4 h1 _; have F4 := Lib.hid h1; clear h1 F3; clear hx_ T4; have T5 : Hid True := trivial)
    | (have hx_ := T5; refine s_alloc F4.out rfl rfl zeroE rfl ?_; intro w5 b5 h1 _; have F5 := Lib.hid h1; clear h1 F4; clear hx_ T5; have T6 : Hid True := trivial)
    | (have hx_ := T6; refine s_store F5.out rfl rfl 1 rfl rfl v7.1.cs rfl rfl (by kernel_rfl) (E5.cells _) ?_; intro w6 h1; have F6 := Lib.hid h1; clear h1 F5; clear hx_ T6; have T7 : Hid True := trivial)
    | (have hx_ := T7; refine s_store F6.out rfl rfl 0 rfl rfl v7.2.cs rfl rfl (by kernel_rfl) (E5.cells _) ?_; intro w7 h1; have F7 := Lib.hid h1; clear h1 F6; clear hx_ T7; have T8 : Hid True := trivial))
  refine wp_region_walk 4 [] (by kernel_rfl) (by kernel_rfl) (allocs_ok (by kernel_rfl) (fun x hx => (List.not_mem_nil hx).elim)) ?Af1 ?h1 ?hK1
  case h1 =>
    intro F hF hN
    try simp only [Act.put]
    try simp only [List.setIfInBounds_toArray, List.set_cons_succ, List.set_cons_zero]
    try simp only [List.append_eq]
    try simp only [List.cons_append, List.nil_append]
    simp only [List.take_succ_cons, List.take_zero]
    go_big_quiet_want
    refine q_load_e rfl v7.1 rfl (F7.out.le 1 rfl) ?_
    go_big_quiet_on
    simp only [Act.put, List.setIfInBounds_toArray, List.set_cons_succ, List.set_cons_zero]
    go_big_quiet_step (exact fs_call hF (C11.out _))
    go_big_quiet_want
    refine q_load_e rfl v7.2 rfl (F7.out.le 0 rfl) ?_
    go_big_quiet_on
    simp only [Act.put, List.setIfInBounds_toArray, List.set_cons_succ, List.set_cons_zero]
    go_big_quiet_step (exact fs_call hF (C13.out _))
    refine wpQuiet_nil ?_
    exact rfl
  case hK1 =>
    intro w8 hb
    have F8 := Lib.hid (F7.out.later hb)
    clear hb
    simp only [freshQ]
    try simp only [Act.put]
    try simp only [List.setIfInBounds_toArray, List.set_cons_succ, List.set_cons_zero]
    try simp only [List.append_eq]
    try simp only [List.cons_append, List.nil_append]
    simp only [List.length_nil, Nat.reduceAdd, List.drop_succ_cons, List.drop_zero]
    have T8 : Hid True := trivial
    go_wp2_with (first
      | (have hx_ := T8; refine s_store F8.out rfl rfl 2 rfl rfl v13.cs rfl rfl (by kernel_rfl) (E5.cells _) ?_; intro w9 h1; have F9 := Lib.hid h1; clear h1 F8; clear hx_ T8; have T9 : Hid True := trivial))
    exact bodyPost_ret (v := .agg v13.cs) (by simp [results, Tryz.results198, asAddr]; exact ret5 (F9.out.mem (i := 2) rfl)) rfl ⟨by rw [← HR.out], F9.out.below⟩
end Go.Proofs.YtbcpmnnlhdgbhaaGreatDoor
